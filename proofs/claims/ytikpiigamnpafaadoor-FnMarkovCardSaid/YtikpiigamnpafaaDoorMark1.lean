/- Contracts of the functions that say whether a triple is one of Markov's, in the program and in the reference. -/
import Derived.Test.YtikpiigamnpafaaDoorBase
namespace Go.Proofs.YtikpiigamnpafaaDoor
open Go.RowKit

theorem mul_bd {a b A B : Int} (ha : 0 ≤ a) (hA : a ≤ A) (hb : 0 ≤ b) (hB : b ≤ B) : 0 ≤ a * b ∧ a * b ≤ A * B :=
  ⟨Int.mul_nonneg ha hb, Int.mul_le_mul hA hB hb (Int.le_trans ha hA)⟩

def Rng (X Y Z : Int) : Prop := 1 ≤ X ∧ X ≤ Y ∧ Y ≤ Z ∧ Z ≤ 1000000000
instance (X Y Z : Int) : Decidable (Rng X Y Z) := by unfold Rng; exact inferInstance
def vtB (X Y Z : Int) : Bool := decide (Rng X Y Z) && decide (X * X + Y * Y + Z * Z = 3 * X * Y * Z)
theorem vtB_iff {X Y Z : Int} : vtB X Y Z = true ↔ Rng X Y Z ∧ X * X + Y * Y + Z * Z = 3 * X * Y * Z := by simp [vtB]
theorem vtB_no {X Y Z : Int} (h : ¬ Rng X Y Z) : vtB X Y Z = false := by simp [vtB, h]

theorem l22Num_any (n : Int) (w : World) :
    Calls Tryd.prog 61 #[.int .i64 n] w fun e w' => e = .returned (.bool (inB n 1 1000000000)) ∧ w = w' := by
  go_enter Tryd.func61, Tryd.ntmps61
  go_wp2_with (go_at_call 58; refine (l00In_any _ _ _ _).mono ?_; rintro e w' ⟨rfl, rfl⟩)
  go_ret
  exact ⟨rfl, rfl⟩

/-- The six ways through the first tests. -/
theorem rng_ways (X Y Z : Int) : (inB X 1 1000000000 = false ∧ vtB X Y Z = false) ∨ (inB X 1 1000000000 = true ∧ inB Y 1 1000000000 = false ∧ vtB X Y Z = false) ∨
    (inB X 1 1000000000 = true ∧ inB Y 1 1000000000 = true ∧ inB Z 1 1000000000 = false ∧ vtB X Y Z = false) ∨
    (inB X 1 1000000000 = true ∧ inB Y 1 1000000000 = true ∧ inB Z 1 1000000000 = true ∧ Y < X ∧ vtB X Y Z = false) ∨
    (inB X 1 1000000000 = true ∧ inB Y 1 1000000000 = true ∧ inB Z 1 1000000000 = true ∧ X ≤ Y ∧ Z < Y ∧ vtB X Y Z = false) ∨
    (inB X 1 1000000000 = true ∧ inB Y 1 1000000000 = true ∧ inB Z 1 1000000000 = true ∧ Rng X Y Z) := by
  have hn : ¬ Rng X Y Z → vtB X Y Z = false := vtB_no
  by_cases h1 : 1 ≤ X ∧ X ≤ 1000000000
  · by_cases h2 : 1 ≤ Y ∧ Y ≤ 1000000000
    · by_cases h3 : 1 ≤ Z ∧ Z ≤ 1000000000
      · have e1 := inB_of h1
        have e2 := inB_of h2
        have e3 := inB_of h3
        by_cases h4 : X ≤ Y
        · by_cases h5 : Y ≤ Z
          · exact .inr (.inr (.inr (.inr (.inr ⟨e1, e2, e3, h1.1, h4, h5, h3.2⟩))))
          · exact .inr (.inr (.inr (.inr (.inl ⟨e1, e2, e3, h4, by omega, hn (by unfold Rng; omega)⟩))))
        · exact .inr (.inr (.inr (.inl ⟨e1, e2, e3, by omega, hn (by unfold Rng; omega)⟩)))
      · exact .inr (.inr (.inl ⟨inB_of h1, inB_of h2, inB_no h3, hn (by unfold Rng; omega)⟩))
    · exact .inr (.inl ⟨inB_of h1, inB_no h2, hn (by unfold Rng; omega)⟩)
  · exact .inl ⟨inB_no h1, hn (by unfold Rng; omega)⟩

theorem l22Ok_no (X Y Z : Int) (w : World) (h : ¬ Rng X Y Z) :
    Calls Tryd.prog 36 #[.agg #[.int .i64 X, .int .i64 Y, .int .i64 Z]] w fun e w' => e = .returned (.bool (vtB X Y Z)) ∧ Below w.heap.size w w' := by
  rcases rng_ways X Y Z with ⟨e1, e⟩ | ⟨e1, e2, e⟩ | ⟨e1, e2, e3, e⟩ | ⟨e1, e2, e3, h4, e⟩ | ⟨e1, e2, e3, h4, h5, e⟩ | ⟨e1, e2, e3, h4⟩
  all_goals try exact absurd h4 h
  all_goals
    clear h
    go_enter Tryd.func36, Tryd.ntmps36
    go_wp2_with (go_at_call 61; refine (l22Num_any _ _).mono ?_; rintro e w' ⟨rfl, rfl⟩)
    go_ret
    exact ⟨by rw [e]; rfl, (Below.refl _ _).alloc (Nat.le_refl _) _⟩

theorem rng_facts {X Y Z : Int} (h : Rng X Y Z) : (0 ≤ X * Y ∧ X * Y ≤ 1000000000000000000) ∧ (0 ≤ X * X ∧ X * X ≤ 1000000000000000000) ∧ (0 ≤ Y * Y ∧ Y * Y ≤ 1000000000000000000) ∧ (0 ≤ Z * Z ∧ Z * Z ≤ 1000000000000000000) := by
  obtain ⟨h1, h2, h3, h4⟩ := h
  exact ⟨mul_bd (A := 1000000000) (B := 1000000000) (by omega) (by omega) (by omega) (by omega), mul_bd (A := 1000000000) (B := 1000000000) (by omega) (by omega) (by omega) (by omega),
    mul_bd (A := 1000000000) (B := 1000000000) (by omega) (by omega) (by omega) (by omega), mul_bd (A := 1000000000) (B := 1000000000) (by omega) (by omega) (by omega) (by omega)⟩

theorem triple_eq {X Y Z : Int} : 3 * X * Y * Z = 3 * (X * Y * Z) := by rw [Int.mul_assoc 3 X Y, Int.mul_assoc 3 (X * Y) Z]
theorem triple_le {X Y Z : Int} (hz : 1 ≤ Z) (h0 : 0 ≤ X * Y) (h : X * Y ≤ 1000000000000000000 / Z) : 0 ≤ X * Y * Z ∧ X * Y * Z ≤ 1000000000000000000 :=
  ⟨Int.mul_nonneg h0 (by omega), (Int.le_ediv_iff_mul_le (by omega)).1 h⟩
theorem triple_gt {X Y Z : Int} (hz : 1 ≤ Z) (h : 1000000000000000000 / Z < X * Y) : 1000000000000000000 < X * Y * Z := by
  rcases Int.lt_or_le 1000000000000000000 (X * Y * Z) with h1 | h1
  · exact h1
  · have := (Int.le_ediv_iff_mul_le (c := Z) (by omega)).2 h1
    omega

set_option maxHeartbeats 1000000 in
theorem l22Ok_yes (X Y Z : Int) (w : World) (h : Rng X Y Z) :
    Calls Tryd.prog 36 #[.agg #[.int .i64 X, .int .i64 Y, .int .i64 Z]] w fun e w' => e = .returned (.bool (vtB X Y Z)) ∧ Below w.heap.size w w' := by
  obtain ⟨⟨f1, f2⟩, ⟨f3, f4⟩, ⟨f5, f6⟩, ⟨f7, f8⟩⟩ := rng_facts h
  have H := hide h
  obtain ⟨h1, h2, h3, h4⟩ := h
  have e1 := inB_of (n := X) (lo := 1) (hi := 1000000000) ⟨by omega, by omega⟩
  have e2 := inB_of (n := Y) (lo := 1) (hi := 1000000000) ⟨by omega, by omega⟩
  have e3 := inB_of (n := Z) (lo := 1) (hi := 1000000000) ⟨by omega, by omega⟩
  by_cases hq : X * Y ≤ 1000000000000000000 / Z
  · obtain ⟨g1, g2⟩ := triple_le (by omega) f1 hq
    have g3 : 0 ≤ 3 * X * Y ∧ 3 * X * Y ≤ 3000000000000000000 := by rw [Int.mul_assoc]; omega
    have g4 : 0 ≤ 3 * X * Y * Z ∧ 3 * X * Y * Z ≤ 3000000000000000000 := by rw [triple_eq]; omega
    obtain ⟨g5, g6⟩ := g3
    obtain ⟨g7, g8⟩ := g4
    go_enter Tryd.func36, Tryd.ntmps36
    go_wp2_with (go_at_call 61; refine (l22Num_any _ _).mono ?_; rintro e w' ⟨rfl, rfl⟩)
    go_quiet (fail)
    go_wp2
    go_ret
    refine ⟨?_, belowN ((Below.refl _ _).alloc (Nat.le_refl _) _) _⟩
    have hr : vtB X Y Z = (X * X + Y * Y + Z * Z == 3 * X * Y * Z) := by unfold vtB; rw [decide_eq_true H.out, Bool.true_and]; rfl
    rw [hr]; rfl
  · have hv : vtB X Y Z = false := by
      have := triple_gt (by omega) (Int.not_le.1 hq)
      unfold vtB
      rw [decide_eq_false (p := X * X + Y * Y + Z * Z = 3 * X * Y * Z) (by rw [triple_eq]; omega), Bool.and_false]
    go_enter Tryd.func36, Tryd.ntmps36
    go_wp2_with (go_at_call 61; refine (l22Num_any _ _).mono ?_; rintro e w' ⟨rfl, rfl⟩)
    go_quiet (fail)
    go_wp2
    go_ret
    exact ⟨by rw [hv]; rfl, belowN ((Below.refl _ _).alloc (Nat.le_refl _) _) _⟩

theorem l22Ok_any (X Y Z : Int) (w : World) :
    Calls Tryd.prog 36 #[.agg #[.int .i64 X, .int .i64 Y, .int .i64 Z]] w fun e w' => e = .returned (.bool (vtB X Y Z)) ∧ Below w.heap.size w w' := by
  by_cases h : Rng X Y Z
  · exact l22Ok_yes X Y Z w h
  · exact l22Ok_no X Y Z w h

end Go.Proofs.YtikpiigamnpafaaDoor
