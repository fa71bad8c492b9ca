/- Parents of triples: the program's and the reference's walks, and the law of TripleParent. -/
import Derived.Test.YtjmllmadoelioaaMk2
import Derived.Test.YtjmllmadoelioaaSrtI
import Derived.Test.YtjmllmadoelioaaPar
import Derived.Test.YtjmllmadoelioaaHeldT
namespace Go.Proofs.Ytjmllmadoelioaa
open Go.RowKit

theorem srt_eq {L S : List Int} (hp : S.Perm L) (hs : S.Pairwise (· ≤ ·)) : srt L = S :=
  List.Perm.eq_of_pairwise (le := fun a b => a ≤ b) (fun a b _ _ h1 h2 => by omega) (srt_sorted L) hs ((srt_perm L).trans hp.symm)
theorem up_list {t : T3} (h : t.x ≤ t.y) : srt [t.x, t.y, t.oth] = [t.up.x, t.up.y, t.up.z] := by
  apply srt_eq
  · unfold T3.up
    by_cases h1 : t.oth ≤ t.x
    · rw [if_pos h1]
      exact (List.perm_append_comm (l₁ := [t.oth]) (l₂ := [t.x, t.y]))
    · rw [if_neg h1]
      by_cases h2 : t.oth ≤ t.y
      · rw [if_pos h2]
        exact List.Perm.cons _ (List.Perm.swap _ _ _)
      · rw [if_neg h2]
  · unfold T3.up
    by_cases h1 : t.oth ≤ t.x
    · rw [if_pos h1]; simp; omega
    · rw [if_neg h1]
      by_cases h2 : t.oth ≤ t.y
      · rw [if_pos h2]; simp; omega
      · rw [if_neg h2]; simp; omega
theorem oth_facts {t : T3} (h : Rng t.x t.y t.z) : (0 ≤ 3 * t.x ∧ 3 * t.x ≤ 3000000000) ∧ (0 ≤ 3 * t.x * t.y ∧ 3 * t.x * t.y ≤ 3000000000000000000) ∧ 3 * t.x * t.y - t.z = t.oth := by
  obtain ⟨⟨a, b⟩, _⟩ := rng_facts h
  obtain ⟨h1, h2, h3, h4⟩ := h
  rw [Int.mul_assoc]
  refine ⟨by omega, by omega, ?_⟩
  unfold T3.oth
  rw [Int.mul_assoc]

set_option maxHeartbeats 1000000 in
set_option maxRecDepth 100000 in
theorem implParent_any (t : T3) (w : World) (h : Rng t.x t.y t.z) :
    Calls Try.prog 41 #[.agg #[.int .i64 t.x, .int .i64 t.y, .int .i64 t.z]] w fun e w' => e = .returned (.agg #[.int .i64 t.up.x, .int .i64 t.up.y, .int .i64 t.up.z]) ∧ Below w.heap.size w w' := by
  have hul := up_list (t := t) h.2.1
  obtain ⟨b1, b2, b3⟩ := oth_facts h
  obtain ⟨h1, h2, h3, h4⟩ := h
  have s1 : IntKind.i64.wrap (3 * t.x) = 3 * t.x := IntWalk.i64_in _ (by omega)
  have s2 : IntKind.i64.wrap (3 * t.x * t.y) = 3 * t.x * t.y := IntWalk.i64_in _ (by omega)
  have s3 : IntKind.i64.wrap (3 * t.x * t.y - t.z) = t.oth := by rw [IntWalk.i64_in _ (by omega), b3]
  have s4 : IntKind.i64.wrap t.oth = t.oth := IntWalk.i64_in _ (by omega)
  have hsort := fun g w hr => sortI_any g 3 3 [t.x, t.y, t.oth] w (by omega) hr
  rw [hul] at hsort
  generalize t.oth = o at *
  generalize t.up.x = a at *
  generalize t.up.y = b at *
  generalize t.up.z = c at *
  generalize t.x = x at *
  generalize t.y = y at *
  generalize t.z = z at *
  clear hul
  go_enter Try.func41, Try.ntmps41
  have hr0 : Row (((w.alloc (.cells #[.int .i64 x, .int .i64 y, .int .i64 z] 24)).alloc (.cells #[.int .i64 0, .int .i64 0, .int .i64 0] 24)).alloc (.cells #[.int .i64 x, .int .i64 y, .int .i64 o] 2)) (w.heap.size + 1 + 1) 2 1 3 3 (il [x, y, o]) := Row.lit (by simp) (by rfl) (by simp [maxLen])
  have hb0 : Blk (((w.alloc (.cells #[.int .i64 x, .int .i64 y, .int .i64 z] 24)).alloc (.cells #[.int .i64 0, .int .i64 0, .int .i64 0] 24)).alloc (.cells #[.int .i64 x, .int .i64 y, .int .i64 o] 2)) (w.heap.size + 1) 24 #[.int .i64 0, .int .i64 0, .int .i64 0] := (Blk.newAt (by simp)).alloc _
  have HS := hide (hsort _ _ hr0)
  have HB0 := hide hb0
  clear hsort hr0 hb0
  go_wp2_with fail
  refine HS.out.mono ?_
  rintro e w1 ⟨rfl, hr1, hg1⟩
  have hblk := HB0.out.grown hg1 (fun h => by injection h; omega)
  obtain ⟨k1, k2, k3, HK⟩ := hblk.after (Below.refl _ _) hblk.lt
  have y1 := hr1.cell (j := 0) (u := .int .i64 a) rfl
  have y2 := hr1.cell (j := 1) (u := .int .i64 b) rfl
  have y3 := hr1.cell (j := 2) (u := .int .i64 c) rfl
  have hB : Below w.heap.size w w1 := (show Below w.heap.size w _ by go_grown).grown hg1 (by simp; omega) (fun k h => by injection h; omega)
  have x0 := k1 0
  have x1 := k1 1
  have x2 := k1 2
  clear hr1 hblk hg1 k1 HS
  go_wp2_with fail
  go_still_tail 9, (by kernel_rfl)
  change wpList _ _ _ _ _ w1.drew
  go_wp2_with fail
  have z3 := HK.out.set3 (x := .int .i64 a) (y := .int .i64 b) (z := .int .i64 c)
  obtain ⟨z4, _, _, _⟩ := z3.after (Below.refl _ _) z3.lt
  refine bodyPost_ret (v := .agg #[.int .i64 a, .int .i64 b, .int .i64 c]) (by simp [results, Try.results41, go_sem, z4]) rfl ⟨rfl, ?_⟩
  exact (((hB.drew).setCell (by simp) _).setCell (by simp) _).setCell (by simp) _

set_option maxRecDepth 100000 in
theorem l22Parent_any (t : T3) (w : World) (h : Rng t.x t.y t.z) :
    Calls Try.prog 39 #[.agg #[.int .i64 t.x, .int .i64 t.y, .int .i64 t.z]] w fun e w' => e = .returned (.agg #[.int .i64 t.up.x, .int .i64 t.up.y, .int .i64 t.up.z]) ∧ Below w.heap.size w w' := by
  obtain ⟨b1, b2, b3⟩ := oth_facts h
  obtain ⟨h1, h2, h3, h4⟩ := h
  have s1 : IntKind.i64.wrap (3 * t.x) = 3 * t.x := IntWalk.i64_in _ (by omega)
  have s2 : IntKind.i64.wrap (3 * t.x * t.y) = 3 * t.x * t.y := IntWalk.i64_in _ (by omega)
  have s3 : IntKind.i64.wrap (3 * t.x * t.y - t.z) = t.oth := by rw [IntWalk.i64_in _ (by omega), b3]
  have hup : (t.oth ≤ t.x ∧ t.up = ⟨t.oth, t.x, t.y⟩) ∨ ((¬ t.oth ≤ t.x ∧ t.oth ≤ t.y) ∧ t.up = ⟨t.x, t.oth, t.y⟩) ∨ ((¬ t.oth ≤ t.x ∧ ¬ t.oth ≤ t.y) ∧ t.up = ⟨t.x, t.y, t.oth⟩) := by
    unfold T3.up
    by_cases h1 : t.oth ≤ t.x
    · exact .inl ⟨h1, by rw [if_pos h1]⟩
    · by_cases h2 : t.oth ≤ t.y
      · exact .inr (.inl ⟨⟨h1, h2⟩, by rw [if_neg h1, if_pos h2]⟩)
      · exact .inr (.inr ⟨⟨h1, h2⟩, by rw [if_neg h1, if_neg h2]⟩)
  have s4 : IntKind.i64.wrap t.oth = t.oth := IntWalk.i64_in _ (by omega)
  generalize t.oth = o at *
  generalize t.up = u at *
  generalize t.x = x at *
  generalize t.y = y at *
  generalize t.z = z at *
  clear h2 h3
  go_enter Try.func39, Try.ntmps39
  rcases hup with ⟨c1, rfl⟩ | ⟨⟨c1, c2⟩, rfl⟩ | ⟨⟨c1, c2⟩, rfl⟩
  · have d1 : decide (o ≤ x) = true := decide_eq_true c1
    go_wp2
    refine bodyPost_ret (v := .agg #[.int .i64 o, .int .i64 x, .int .i64 y]) (by simp [results, Try.results39, go_sem]) rfl ⟨rfl, ?_⟩
    go_grown
  · have d1 : decide (o ≤ x) = false := decide_eq_false c1
    have d2 : decide (o ≤ y) = true := decide_eq_true c2
    go_wp2
    refine bodyPost_ret (v := .agg #[.int .i64 x, .int .i64 o, .int .i64 y]) (by simp [results, Try.results39, go_sem]) rfl ⟨rfl, ?_⟩
    go_grown
  · have d1 : decide (o ≤ x) = false := decide_eq_false c1
    have d2 : decide (o ≤ y) = false := decide_eq_false c2
    go_wp2
    refine bodyPost_ret (v := .agg #[.int .i64 x, .int .i64 y, .int .i64 o]) (by simp [results, Try.results39, go_sem]) rfl ⟨rfl, ?_⟩
    go_grown

end Go.Proofs.Ytjmllmadoelioaa
