/- slices.Sort at lists of numbers (out of SrtI); parents (out of MkR, MkS). -/
import Derived.Test.YtikpiigamnpafaaDoorSrt
import Derived.Test.YtikpiigamnpafaaDoorPut
import Derived.Test.YtikpiigamnpafaaDoorOwn
import Derived.Test.YtikpiigamnpafaaDoorShelfS
import Derived.Shelf.SortM.Plain
import Derived.Test.YtikpiigamnpafaaDoorMk2
import Derived.Test.YtikpiigamnpafaaDoorPar
import Derived.Test.YtikpiigamnpafaaDoorBlk
import Derived.StillTailTactics
namespace Go.Proofs.YtikpiigamnpafaaDoor
open Go.RowKit Go.Sort Go.Shelf

/-- A list of numbers in order. -/
def srt (L : List Int) : List Int := L.mergeSort fun x y => decide (x ≤ y)

theorem srt_perm (L : List Int) : (srt L).Perm L := List.mergeSort_perm _ _

theorem srt_len (L : List Int) : (srt L).length = L.length := (srt_perm L).length_eq

theorem srt_sorted (L : List Int) : (srt L).Pairwise (· ≤ ·) := by
  have := List.pairwise_mergeSort (le := fun x y : Int => decide (x ≤ y)) (fun a b c h1 h2 => by simp at *; omega) (fun a b => by simp; omega) L
  exact this.imp (fun h => by simpa using h)

theorem sortI_any (g n cap : Nat) (L : List Int) (w : World) (hn : n ≤ 1000000000) (h : Row w g 2 1 n cap (il L)) :
    Calls Tryd.prog 79 #[.slice (some ⟨g, 0, none⟩) n cap] w fun e w' => e = .returned (.tuple #[]) ∧ Row w' g 2 1 n cap (il (srt L)) ∧ w.grownBy w' (some g) := by
  have hl : L.length = n := by have := h.len; rw [il_len] at this; omega
  subst hl
  have hr : Row w g 2 1 L.length cap (L.toArray.toList.map (Value.int .i64)) := h
  have hcon := AnyM.slices_Sort_int Tryd.sortI g 0 cap L w hr.holds h.lt (by omega)
  refine Calls.mono (show Calls Tryd.prog 79 _ w _ from hcon) ?_
  rintro e w' ⟨rfl, m, os, rfl⟩
  obtain ⟨a1, a2⟩ := sort_row (d' := (srt L).toArray) hr (by simp [srt_len]) m os
  exact ⟨rfl, a1, a2⟩

theorem srt_eq {L S : List Int} (hp : S.Perm L) (hs : S.Pairwise (· ≤ ·)) : srt L = S :=
  List.Perm.eq_of_pairwise (le := fun a b => a ≤ b) (fun a b _ _ h1 h2 => by omega) (srt_sorted L) hs ((srt_perm L).trans hp.symm)

theorem up_list {t : T3} (h : t.x ≤ t.y) : srt [t.x, t.y, t.oth] = [t.up.x, t.up.y, t.up.z] := by
  apply srt_eq
  · unfold T3.up
    by_cases h1 : t.oth ≤ t.x
    · rw [if_pos h1]
      exact (List.perm_append_comm (l₁ := [t.oth]) (l₂ := [t.x, t.y]))
    · rw [if_neg h1]
      by_cases h2 : t.oth ≤ t.y
      · rw [if_pos h2]
        exact List.Perm.cons _ (List.Perm.swap _ _ _)
      · rw [if_neg h2]
  · unfold T3.up
    by_cases h1 : t.oth ≤ t.x
    · rw [if_pos h1]; simp; omega
    · rw [if_neg h1]
      by_cases h2 : t.oth ≤ t.y
      · rw [if_pos h2]; simp; omega
      · rw [if_neg h2]; simp; omega

theorem oth_facts {t : T3} (h : Rng t.x t.y t.z) : (0 ≤ 3 * t.x ∧ 3 * t.x ≤ 3000000000) ∧ (0 ≤ 3 * t.x * t.y ∧ 3 * t.x * t.y ≤ 3000000000000000000) ∧ 3 * t.x * t.y - t.z = t.oth := by
  obtain ⟨⟨a, b⟩, _⟩ := rng_facts h
  obtain ⟨h1, h2, h3, h4⟩ := h
  rw [Int.mul_assoc]
  refine ⟨by omega, by omega, ?_⟩
  unfold T3.oth
  rw [Int.mul_assoc]

set_option maxHeartbeats 1000000 in
set_option maxRecDepth 100000 in
theorem implParent_any (t : T3) (w : World) (h : Rng t.x t.y t.z) :
    Calls Tryd.prog 55 #[.agg #[.int .i64 t.x, .int .i64 t.y, .int .i64 t.z]] w fun e w' => e = .returned (.agg #[.int .i64 t.up.x, .int .i64 t.up.y, .int .i64 t.up.z]) ∧ Below w.heap.size w w' := by
  have hul := up_list (t := t) h.2.1
  obtain ⟨b1, b2, b3⟩ := oth_facts h
  obtain ⟨h1, h2, h3, h4⟩ := h
  have s1 : IntKind.i64.wrap (3 * t.x) = 3 * t.x := IntWalk.i64_in _ (by omega)
  have s2 : IntKind.i64.wrap (3 * t.x * t.y) = 3 * t.x * t.y := IntWalk.i64_in _ (by omega)
  have s3 : IntKind.i64.wrap (3 * t.x * t.y - t.z) = t.oth := by rw [IntWalk.i64_in _ (by omega), b3]
  have s4 : IntKind.i64.wrap t.oth = t.oth := IntWalk.i64_in _ (by omega)
  have hsort := fun g w hr => sortI_any g 3 3 [t.x, t.y, t.oth] w (by omega) hr
  rw [hul] at hsort
  generalize t.oth = o at *
  generalize t.up.x = a at *
  generalize t.up.y = b at *
  generalize t.up.z = c at *
  generalize t.x = x at *
  generalize t.y = y at *
  generalize t.z = z at *
  clear hul
  go_enter Tryd.func55, Tryd.ntmps55
  have hr0 : Row (((w.alloc (.cells #[.int .i64 x, .int .i64 y, .int .i64 z] 27)).alloc (.cells #[.int .i64 0, .int .i64 0, .int .i64 0] 27)).alloc (.cells #[.int .i64 x, .int .i64 y, .int .i64 o] 2)) (w.heap.size + 1 + 1) 2 1 3 3 (il [x, y, o]) := Row.lit (by simp) (by rfl) (by simp [maxLen])
  have hb0 : Blk (((w.alloc (.cells #[.int .i64 x, .int .i64 y, .int .i64 z] 27)).alloc (.cells #[.int .i64 0, .int .i64 0, .int .i64 0] 27)).alloc (.cells #[.int .i64 x, .int .i64 y, .int .i64 o] 2)) (w.heap.size + 1) 27 #[.int .i64 0, .int .i64 0, .int .i64 0] := (Blk.newAt (by simp)).alloc _
  have HS := hide (hsort _ _ hr0)
  have HB0 := hide hb0
  clear hsort hr0 hb0
  go_wp2_with fail
  refine HS.out.mono ?_
  rintro e w1 ⟨rfl, hr1, hg1⟩
  have hblk := HB0.out.grown hg1 (fun h => by injection h; omega)
  obtain ⟨k1, k2, k3, HK⟩ := hblk.after (Below.refl _ _) hblk.lt
  have y1 := hr1.cell (j := 0) (u := .int .i64 a) rfl
  have y2 := hr1.cell (j := 1) (u := .int .i64 b) rfl
  have y3 := hr1.cell (j := 2) (u := .int .i64 c) rfl
  have hB : Below w.heap.size w w1 := (show Below w.heap.size w _ by go_grown).grown hg1 (by simp; omega) (fun k h => by injection h; omega)
  have x0 := k1 0
  have x1 := k1 1
  have x2 := k1 2
  clear hr1 hblk hg1 k1 HS
  go_wp2_with fail
  go_still_tail 9, (by kernel_rfl)
  change wpList _ _ _ _ _ w1.drew
  go_wp2_with fail
  have z3 := HK.out.set3 (x := .int .i64 a) (y := .int .i64 b) (z := .int .i64 c)
  obtain ⟨z4, _, _, _⟩ := z3.after (Below.refl _ _) z3.lt
  refine bodyPost_ret (v := .agg #[.int .i64 a, .int .i64 b, .int .i64 c]) (by simp [results, Tryd.results55, go_sem, z4]) rfl ⟨rfl, ?_⟩
  exact (((hB.drew).setCell (by simp) _).setCell (by simp) _).setCell (by simp) _

def tpc (X Y Z : Int) : Int := if vtB X Y Z = true then (if Z = 1 then 6 else 0) else 1

def tpr (X Y Z : Int) : T3 := if tpc X Y Z = 0 then (⟨X, Y, Z⟩ : T3).up else ⟨0, 0, 0⟩

theorem lall {w W : World} (h : Below w.heap.size w W) (o : Obj) : Below w.heap.size w (W.alloc o) := h.alloc h.size o

set_option maxHeartbeats 1000000 in
set_option maxRecDepth 100000 in
theorem implTripleParent_any (X Y Z : Int) (w : World) :
    Calls Tryd.prog 29 #[.agg #[.int .i64 X, .int .i64 Y, .int .i64 Z]] w fun e w' => e = .returned (.tuple #[.agg #[.int .i64 (tpr X Y Z).x, .int .i64 (tpr X Y Z).y, .int .i64 (tpr X Y Z).z], .int .i64 (tpc X Y Z)]) ∧ Below w.heap.size w w' := by
  have hV := implValidTriple_any X Y Z
  by_cases hv : vtB X Y Z = true
  · rw [hv] at hV
    obtain ⟨hr, _⟩ := vtB_iff.1 hv
    by_cases hz : Z = 1
    · have ec : tpc X Y Z = 6 := by unfold tpc; rw [if_pos hv, if_pos hz]
      have HR := hide (show tpr X Y Z = ⟨0, 0, 0⟩ ∧ tpc X Y Z = 6 by unfold tpr; rw [ec]; exact ⟨rfl, rfl⟩)
      obtain ⟨h1, h2, h3, h4⟩ := hr
      have hx : X = 1 := by omega
      have hy : Y = 1 := by omega
      subst hx hy hz
      clear ec hv
      go_enter Tryd.func29, Tryd.ntmps29
      go_wp2_with fail
      refine (hV _).mono ?_
      rintro e w1 ⟨rfl, hb1⟩
      obtain ⟨a1, _, a3, _⟩ := ((Blk.new w 27 #[.int .i64 1, .int .i64 1, .int .i64 1]).alloc (.cells #[.int .i64 0, .int .i64 0, .int .i64 0] 27)).after hb1 (by simp; omega)
      obtain ⟨k1, _, k3, HK⟩ := (Blk.newAt (w := w.alloc (.cells #[.int .i64 1, .int .i64 1, .int .i64 1] 27)) (g := w.heap.size + 1) (t := 27) (cs := #[.int .i64 0, .int .i64 0, .int .i64 0]) (by simp)).after hb1 (by simp)
      have x0 := a1 0
      have x1 := a1 1
      have x2 := a1 2
      have k4 := k1 0
      have k5 := k1 1
      have k6 := k1 2
      have hB := bstep (show Below w.heap.size w _ by go_grown) hb1 (by simp; omega)
      clear a1 k1 hb1
      go_wp2_with fail
      have z3 := HK.out.set3 (x := .int .i64 0) (y := .int .i64 0) (z := .int .i64 0)
      obtain ⟨z4, _, _, _⟩ := z3.after (Below.refl _ _) z3.lt
      refine bodyPost_ret (v := .tuple #[.agg #[.int .i64 0, .int .i64 0, .int .i64 0], .int .i64 6]) (by simp [results, Tryd.results29, go_sem, z4]) rfl ⟨by rw [HR.out.1, HR.out.2], ?_⟩
      exact ((hB.setCell (by simp) _).setCell (by simp) _).setCell (by simp) _
    · have ec : tpc X Y Z = 0 := by unfold tpc; rw [if_pos hv, if_neg hz]
      have hP := fun w => implParent_any (⟨X, Y, Z⟩ : T3) w hr
      have HR := hide (show tpr X Y Z = (⟨X, Y, Z⟩ : T3).up ∧ tpc X Y Z = 0 by unfold tpr; rw [ec]; exact ⟨rfl, rfl⟩)
      generalize (⟨X, Y, Z⟩ : T3).up = u at *
      obtain ⟨a, b, c⟩ := u
      simp only at hP
      have q1 : (Z == 1) = false := beq_eq_false_iff_ne.2 hz
      clear ec hv hr
      go_enter Tryd.func29, Tryd.ntmps29
      go_wp2_with fail
      refine (hV _).mono ?_
      rintro e w1 ⟨rfl, hb1⟩
      obtain ⟨a1, _, a3, _⟩ := ((Blk.new w 27 #[.int .i64 X, .int .i64 Y, .int .i64 Z]).alloc (.cells #[.int .i64 0, .int .i64 0, .int .i64 0] 27)).after hb1 (by simp; omega)
      obtain ⟨k1, _, k3, HK⟩ := (Blk.newAt (w := w.alloc (.cells #[.int .i64 X, .int .i64 Y, .int .i64 Z] 27)) (g := w.heap.size + 1) (t := 27) (cs := #[.int .i64 0, .int .i64 0, .int .i64 0]) (by simp)).after hb1 (by simp)
      have x0 := a1 0
      have x1 := a1 1
      have x2 := a1 2
      have k4 := k1 0
      have k5 := k1 1
      have k6 := k1 2
      have hB := bstep (show Below w.heap.size w _ by go_grown) hb1 (by simp; omega)
      clear a1 k1 hb1
      go_wp2_with fail
      refine (hP _).mono ?_
      rintro e w2 ⟨rfl, hb2⟩
      obtain ⟨k1, _, k3, HK2⟩ := HK.out.after hb2 k3
      have k7 := k1 0
      have k8 := k1 1
      have k9 := k1 2
      have hB2 := bstep hB hb2 hB.size
      clear k1 hb2 k4 k5 k6
      go_wp2_with fail
      have z3 := HK2.out.set3 (x := .int .i64 a) (y := .int .i64 b) (z := .int .i64 c)
      obtain ⟨z4, _, _, _⟩ := z3.after (Below.refl _ _) z3.lt
      refine bodyPost_ret (v := .tuple #[.agg #[.int .i64 a, .int .i64 b, .int .i64 c], .int .i64 0]) (by simp [results, Tryd.results29, go_sem, z4]) rfl ⟨by rw [HR.out.1, HR.out.2], ?_⟩
      exact ((hB2.setCell (by simp) _).setCell (by simp) _).setCell (by simp) _
  · have hf : vtB X Y Z = false := by simpa using hv
    rw [hf] at hV
    have ec : tpc X Y Z = 1 := by unfold tpc; rw [if_neg hv]
    have HR := hide (show tpr X Y Z = ⟨0, 0, 0⟩ ∧ tpc X Y Z = 1 by unfold tpr; rw [ec]; exact ⟨rfl, rfl⟩)
    clear ec hv hf
    · skip
      go_enter Tryd.func29, Tryd.ntmps29
      go_wp2_with fail
      refine (hV _).mono ?_
      rintro e w1 ⟨rfl, hb1⟩
      obtain ⟨a1, _, a3, _⟩ := ((Blk.new w 27 #[.int .i64 X, .int .i64 Y, .int .i64 Z]).alloc (.cells #[.int .i64 0, .int .i64 0, .int .i64 0] 27)).after hb1 (by simp; omega)
      obtain ⟨k1, _, k3, HK⟩ := (Blk.newAt (w := w.alloc (.cells #[.int .i64 X, .int .i64 Y, .int .i64 Z] 27)) (g := w.heap.size + 1) (t := 27) (cs := #[.int .i64 0, .int .i64 0, .int .i64 0]) (by simp)).after hb1 (by simp)
      have x0 := a1 0
      have x1 := a1 1
      have x2 := a1 2
      have k4 := k1 0
      have k5 := k1 1
      have k6 := k1 2
      have hB := bstep (show Below w.heap.size w _ by go_grown) hb1 (by simp; omega)
      clear a1 k1 hb1
      go_wp2_with fail
      have z3 := HK.out.set3 (x := .int .i64 0) (y := .int .i64 0) (z := .int .i64 0)
      obtain ⟨z4, _, _, _⟩ := z3.after (Below.refl _ _) z3.lt
      refine bodyPost_ret (v := .tuple #[.agg #[.int .i64 0, .int .i64 0, .int .i64 0], .int .i64 1]) (by simp [results, Tryd.results29, go_sem, z4]) rfl ⟨by rw [HR.out.1, HR.out.2], ?_⟩
      exact ((hB.setCell (by simp) _).setCell (by simp) _).setCell (by simp) _

end Go.Proofs.YtikpiigamnpafaaDoor
