/- Valid triples in the program. -/
import Derived.Test.YtikpiigamnpafaaDoorMark1
namespace Go.Proofs.YtikpiigamnpafaaDoor
open Go.RowKit

theorem implValidTriple_no (X Y Z : Int) (w : World) (h : ¬ Rng X Y Z) :
    Calls Tryd.prog 37 #[.agg #[.int .i64 X, .int .i64 Y, .int .i64 Z]] w fun e w' => e = .returned (.bool (vtB X Y Z)) ∧ Below w.heap.size w w' := by
  have e := vtB_no h
  have hc : X < 1 ∨ (1 ≤ X ∧ Y < X) ∨ (1 ≤ X ∧ X ≤ Y ∧ Z < Y) ∨ (1 ≤ X ∧ X ≤ Y ∧ Y ≤ Z ∧ 1000000000 < Z) := by unfold Rng at h; omega
  clear h
  rcases hc with h1 | ⟨h1, h2⟩ | ⟨h1, h2, h3⟩ | ⟨h1, h2, h3, h4⟩
  all_goals
    go_enter Tryd.func37, Tryd.ntmps37
    go_wp2
    go_ret
    exact ⟨by rw [e]; rfl, (Below.refl _ _).alloc (Nat.le_refl _) _⟩

theorem eq_of_div {s Z t : Int} (hz : 1 ≤ Z) : (s % Z = 0 ∧ s / Z = t) ↔ s = t * Z := by
  constructor
  · rintro ⟨h1, h2⟩
    have := Int.mul_ediv_add_emod s Z
    rw [h1, h2, Int.mul_comm] at this
    omega
  · rintro rfl
    exact ⟨Int.mul_emod_left _ _, Int.mul_ediv_cancel _ (by omega)⟩

set_option maxHeartbeats 1000000 in
theorem implValidTriple_yes (X Y Z : Int) (w : World) (h : Rng X Y Z) :
    Calls Tryd.prog 37 #[.agg #[.int .i64 X, .int .i64 Y, .int .i64 Z]] w fun e w' => e = .returned (.bool (vtB X Y Z)) ∧ Below w.heap.size w w' := by
  obtain ⟨⟨f1, f2⟩, ⟨f3, f4⟩, ⟨f5, f6⟩, ⟨f7, f8⟩⟩ := rng_facts h
  have H := hide h
  obtain ⟨h1, h2, h3, h4⟩ := h
  have g3 : 0 ≤ 3 * X * Y ∧ 3 * X * Y ≤ 3000000000000000000 := by rw [Int.mul_assoc]; omega
  obtain ⟨g5, g6⟩ := g3
  obtain ⟨s, hS⟩ : ∃ s, X * X + Y * Y + Z * Z = s := ⟨_, rfl⟩
  have s0 : 0 ≤ s := by omega
  have s9 : s ≤ 3000000000000000000 := by omega
  have hd := eq_of_div (s := s) (Z := Z) (t := 3 * X * Y) (by omega)
  have q1 : 0 ≤ s / Z := Int.ediv_nonneg (by omega) (by omega)
  have q2 : s / Z ≤ 3000000000000000000 := Int.le_trans (Int.ediv_le_self _ (by omega)) (by omega)
  have s1 : IntKind.i64.wrap (3 * X) = 3 * X := IntWalk.i64_in _ (by omega)
  have s2 : IntKind.i64.wrap (3 * X * Y) = 3 * X * Y := IntWalk.i64_in _ (by omega)
  have hz0 : ¬ Z = 0 := by omega
  have et : s.tmod Z = s % Z := Int.tmod_eq_emod_of_nonneg (by omega)
  have ed : s.tdiv Z = s / Z := Int.tdiv_eq_ediv_of_nonneg (by omega)
  have s3 : IntKind.i64.wrap (s / Z) = s / Z := IntWalk.i64_in _ (by omega)
  by_cases hm : s % Z = 0
  · have hr : vtB X Y Z = (s / Z == 3 * X * Y) := by
      unfold vtB
      rw [decide_eq_true H.out, Bool.true_and, hS]
      by_cases hk : s / Z = 3 * X * Y
      · rw [decide_eq_true (hd.1 ⟨hm, hk⟩)]; exact (beq_iff_eq.2 hk).symm
      · rw [decide_eq_false (fun e => hk (hd.2 e).2)]; exact (beq_eq_false_iff_ne.2 hk).symm
    have HR := hide hr
    have hmb : (s % Z == 0) = true := beq_iff_eq.2 hm
    clear hd hm hr
    go_enter Tryd.func37, Tryd.ntmps37
    go_wp2
    go_quiet (fail)
    go_wp2
    go_ret
    exact ⟨by rw [HR.out]; rfl, belowN ((Below.refl _ _).alloc (Nat.le_refl _) _) _⟩
  · have hr : vtB X Y Z = false := by
      unfold vtB
      rw [hS, decide_eq_false (p := s = 3 * X * Y * Z) (fun e => hm (hd.2 e).1), Bool.and_false]
    have HR := hide hr
    have hmb : (s % Z == 0) = false := beq_eq_false_iff_ne.2 hm
    clear hd hm hr
    go_enter Tryd.func37, Tryd.ntmps37
    go_wp2
    go_quiet (fail)
    go_wp2
    go_ret
    exact ⟨by rw [HR.out]; rfl, belowN ((Below.refl _ _).alloc (Nat.le_refl _) _) _⟩

theorem implValidTriple_any (X Y Z : Int) (w : World) :
    Calls Tryd.prog 37 #[.agg #[.int .i64 X, .int .i64 Y, .int .i64 Z]] w fun e w' => e = .returned (.bool (vtB X Y Z)) ∧ Below w.heap.size w w' := by
  by_cases h : Rng X Y Z
  · exact implValidTriple_yes X Y Z w h
  · exact implValidTriple_no X Y Z w h

end Go.Proofs.YtikpiigamnpafaaDoor
