/- GreatestMissing and CountMissing: the program agrees with the reference. -/
import Derived.Test.YtpganaeomiondaaLin1
namespace Go.Proofs.Ytpganaeomiondaa
open Go.RowKit

theorem miss_ways (a b : Int) : (cfB a = false ∧ miss a b = 2) ∨ (cfB a = true ∧ cfB b = false ∧ miss a b = 2) ∨ (cfB a = true ∧ cfB b = true ∧ a < 0 ∧ miss a b = 2) ∨ (cfB a = true ∧ cfB b = true ∧ 0 < a ∧ b < 0 ∧ miss a b = 2) ∨
    (cfB a = true ∧ cfB b = true ∧ 0 < a ∧ 0 < b ∧ a ≤ 1000000 ∧ b ≤ 1000000 ∧ 1 < Int.gcd a b ∧ miss a b = 6) ∨ (cfB a = true ∧ cfB b = true ∧ 0 < a ∧ 0 < b ∧ a ≤ 1000000 ∧ b ≤ 1000000 ∧ Int.gcd a b = 1 ∧ miss a b = 0) := by
  have hno : naB a b 0 = false → miss a b = 2 := fun h => by unfold miss; rw [if_neg (by simp [h])]
  rcases Bool.eq_false_or_eq_true (cfB a) with h | h
  · rcases Bool.eq_false_or_eq_true (cfB b) with h2 | h2
    · have ha := cfB_iff.1 h
      have hb := cfB_iff.1 h2
      by_cases h3 : a < 0
      · exact .inr (.inr (.inl ⟨h, h2, h3, hno (by rw [← Bool.not_eq_true, naB_iff]; omega)⟩))
      · by_cases h4 : b < 0
        · exact .inr (.inr (.inr (.inl ⟨h, h2, by omega, h4, hno (by rw [← Bool.not_eq_true, naB_iff]; omega)⟩)))
        · have hy : naB a b 0 = true := naB_iff.2 (by omega)
          have hm : miss a b = if 1 < Int.gcd a b then 6 else 0 := by unfold miss; rw [if_pos hy]
          have hg := Int.gcd_pos_of_ne_zero_right a hb.2
          by_cases h5 : 1 < Int.gcd a b
          · exact .inr (.inr (.inr (.inr (.inl ⟨h, h2, by omega, by omega, by omega, by omega, h5, by rw [hm, if_pos h5]⟩))))
          · exact .inr (.inr (.inr (.inr (.inr ⟨h, h2, by omega, by omega, by omega, by omega, by omega, by rw [hm, if_neg h5]⟩))))
    · exact .inr (.inl ⟨h, h2, hno (by simp [naB, liB, h2])⟩)
  · exact .inl ⟨h, hno (by simp [naB, liB, h])⟩

theorem l21Two_any (a b : Int) (w : World) :
    Calls Try.prog 40 #[.int .i64 a, .int .i64 b] w fun e w' => e = .returned (.int .i64 (miss a b)) ∧ ∃ m, w' = w.drewN m := by
  rcases miss_ways a b with ⟨h1, e1⟩ | ⟨h1, h2, e1⟩ | ⟨h1, h2, h3, e1⟩ | ⟨h1, h2, h3, h4, e1⟩ | ⟨h1, h2, h3, h4, h5, h6, h7, e1⟩ | ⟨h1, h2, h3, h4, h5, h6, h7, e1⟩
  all_goals
    go_enter Try.func40, Try.ntmps40
    go_wp2_with (first
      | (go_at_call 42; refine (l21Coef_any _ _).mono ?_; rintro e w1 ⟨rfl, rfl⟩)
      | (go_at_call 48; refine (specGcdI_any _ _ _ (by omega) (by omega) (by omega) (by omega)).mono ?_; rintro e w1 ⟨rfl, rfl⟩))
    go_ret
    exact ⟨by first | rfl | (rw [e1]; rfl), 0, rfl⟩

def grm (a b : Int) : Int := if miss a b = 0 then (if a = 1 ∨ b = 1 then 0 else a * b - a - b) else 0
def grmC (a b : Int) : Int := if miss a b = 0 then (if a = 1 ∨ b = 1 then 3 else 0) else miss a b
def cnm (a b : Int) : Int := if miss a b = 0 then (a - 1) * (b - 1) / 2 else 0

theorem prod_bd {a b A B : Int} (ha : 0 ≤ a) (hA : a ≤ A) (hb : 0 ≤ b) (hB : b ≤ B) : 0 ≤ a * b ∧ a * b ≤ A * B :=
  ⟨Int.mul_nonneg ha hb, Int.mul_le_mul hA hB hb (Int.le_trans ha hA)⟩

theorem miss_ok {a b : Int} (h : miss a b = 0) : 1 ≤ a ∧ a ≤ 1000000 ∧ 1 ≤ b ∧ b ≤ 1000000 := by
  rcases miss_ways a b with ⟨h1, e1⟩ | ⟨h1, h2, e1⟩ | ⟨h1, h2, h3, e1⟩ | ⟨h1, h2, h3, h4, e1⟩ | ⟨h1, h2, h3, h4, h5, h6, h7, e1⟩ | ⟨h1, h2, h3, h4, h5, h6, h7, e1⟩ <;> omega

theorem implGreatestMissing_any (a b : Int) (w : World) :
    Calls Try.prog 16 #[.int .i64 a, .int .i64 b] w fun e w' => e = .returned (.tuple #[.int .i64 (grm a b), .int .i64 (grmC a b)]) ∧ ∃ m, w' = w.drewN m := by
  have C := checkMissing_any a b
  by_cases h : miss a b = 0
  · obtain ⟨a1, a2, b1, b2⟩ := miss_ok h
    simp only [h] at C
    have hp := prod_bd (A := 1000000) (B := 1000000) (show 0 ≤ a by omega) a2 (show 0 ≤ b by omega) b2
    have e1 : grm a b = if a = 1 ∨ b = 1 then 0 else a * b - a - b := by unfold grm; rw [if_pos h]
    have e2 : grmC a b = if a = 1 ∨ b = 1 then 3 else 0 := by unfold grmC; rw [if_pos h]
    by_cases h2 : a = 1
    · rw [if_pos (.inl h2)] at e1 e2
      subst h2
      rw [e1, e2]
      go_enter Try.func16, Try.ntmps16
      go_wp2_with fail
      refine (C _).mono ?_
      rintro e w1 ⟨rfl, m, rfl⟩
      go_wp2
      go_ret2
      exact ⟨rfl, m, rfl⟩
    · by_cases h3 : b = 1
      · rw [if_pos (.inr h3)] at e1 e2
        subst h3
        rw [e1, e2]
        go_enter Try.func16, Try.ntmps16
        go_wp2_with fail
        refine (C _).mono ?_
        rintro e w1 ⟨rfl, m, rfl⟩
        go_wp2
        go_ret2
        exact ⟨rfl, m, rfl⟩
      · rw [if_neg (by omega)] at e1 e2
        have k1 : (a == 1) = false := by simp [h2]
        have k2 : (b == 1) = false := by simp [h3]
        rw [e1, e2]
        go_enter Try.func16, Try.ntmps16
        go_wp2_with fail
        refine (C _).mono ?_
        rintro e w1 ⟨rfl, m, rfl⟩
        go_wp2
        go_ret2
        exact ⟨rfl, m, rfl⟩
  · have e1 : grm a b = 0 := by unfold grm; rw [if_neg h]
    have e2 : grmC a b = miss a b := by unfold grmC; rw [if_neg h]
    rw [e1, e2]
    go_enter Try.func16, Try.ntmps16
    go_wp2_with fail
    refine (C _).mono ?_
    rintro e w1 ⟨rfl, m, rfl⟩
    go_wp2
    go_ret2
    exact ⟨rfl, m, rfl⟩

theorem specGreatestMissing_any (a b : Int) (w : World) :
    Calls Try.prog 15 #[.int .i64 a, .int .i64 b] w fun e w' => e = .returned (.tuple #[.int .i64 (grm a b), .int .i64 (grmC a b)]) ∧ ∃ m, w' = w.drewN m := by
  have C := l21Two_any a b
  by_cases h : miss a b = 0
  · obtain ⟨a1, a2, b1, b2⟩ := miss_ok h
    simp only [h] at C
    have hp := prod_bd (A := 1000000) (B := 1000000) (show 0 ≤ a by omega) a2 (show 0 ≤ b by omega) b2
    have e1 : grm a b = if a = 1 ∨ b = 1 then 0 else a * b - a - b := by unfold grm; rw [if_pos h]
    have e2 : grmC a b = if a = 1 ∨ b = 1 then 3 else 0 := by unfold grmC; rw [if_pos h]
    by_cases h2 : a = 1
    · rw [if_pos (.inl h2)] at e1 e2
      subst h2
      rw [e1, e2]
      go_enter Try.func15, Try.ntmps15
      go_wp2_with fail
      refine (C _).mono ?_
      rintro e w1 ⟨rfl, m, rfl⟩
      go_wp2
      go_ret2
      exact ⟨rfl, m, rfl⟩
    · by_cases h3 : b = 1
      · rw [if_pos (.inr h3)] at e1 e2
        subst h3
        rw [e1, e2]
        go_enter Try.func15, Try.ntmps15
        go_wp2_with fail
        refine (C _).mono ?_
        rintro e w1 ⟨rfl, m, rfl⟩
        go_wp2
        go_ret2
        exact ⟨rfl, m, rfl⟩
      · rw [if_neg (by omega)] at e1 e2
        have k1 : (a == 1) = false := by simp [h2]
        have k2 : (b == 1) = false := by simp [h3]
        rw [e1, e2]
        go_enter Try.func15, Try.ntmps15
        go_wp2_with fail
        refine (C _).mono ?_
        rintro e w1 ⟨rfl, m, rfl⟩
        go_wp2
        go_ret2
        exact ⟨rfl, m, rfl⟩
  · have e1 : grm a b = 0 := by unfold grm; rw [if_neg h]
    have e2 : grmC a b = miss a b := by unfold grmC; rw [if_neg h]
    rw [e1, e2]
    go_enter Try.func15, Try.ntmps15
    go_wp2_with fail
    refine (C _).mono ?_
    rintro e w1 ⟨rfl, m, rfl⟩
    go_wp2
    go_ret2
    exact ⟨rfl, m, rfl⟩

theorem implCountMissing_any (a b : Int) (w : World) :
    Calls Try.prog 14 #[.int .i64 a, .int .i64 b] w fun e w' => e = .returned (.tuple #[.int .i64 (cnm a b), .int .i64 (miss a b)]) ∧ ∃ m, w' = w.drewN m := by
  have C := checkMissing_any a b
  by_cases h : miss a b = 0
  · obtain ⟨a1, a2, b1, b2⟩ := miss_ok h
    simp only [h] at C
    have hp := prod_bd (A := 1000000) (B := 1000000) (show 0 ≤ a - 1 by omega) (by omega) (show 0 ≤ b - 1 by omega) (by omega)
    have e1 : cnm a b = (a - 1) * (b - 1) / 2 := by unfold cnm; rw [if_pos h]
    have e3 : ((a - 1) * (b - 1)).tdiv 2 = (a - 1) * (b - 1) / 2 := Int.tdiv_eq_ediv_of_nonneg hp.1
    generalize hP : (a - 1) * (b - 1) = P at *
    rw [e1, h]
    go_enter Try.func14, Try.ntmps14
    go_wp2_with fail
    refine (C _).mono ?_
    rintro e w1 ⟨rfl, m, rfl⟩
    go_wp2
    go_ret2
    exact ⟨rfl, m, rfl⟩
  · have e1 : cnm a b = 0 := by unfold cnm; rw [if_neg h]
    rw [e1]
    go_enter Try.func14, Try.ntmps14
    go_wp2_with fail
    refine (C _).mono ?_
    rintro e w1 ⟨rfl, m, rfl⟩
    go_wp2
    go_ret2
    exact ⟨rfl, m, rfl⟩

theorem specCountMissing_any (a b : Int) (w : World) :
    Calls Try.prog 13 #[.int .i64 a, .int .i64 b] w fun e w' => e = .returned (.tuple #[.int .i64 (cnm a b), .int .i64 (miss a b)]) ∧ ∃ m, w' = w.drewN m := by
  have C := l21Two_any a b
  by_cases h : miss a b = 0
  · obtain ⟨a1, a2, b1, b2⟩ := miss_ok h
    simp only [h] at C
    have hp := prod_bd (A := 1000000) (B := 1000000) (show 0 ≤ a - 1 by omega) (by omega) (show 0 ≤ b - 1 by omega) (by omega)
    have e1 : cnm a b = (a - 1) * (b - 1) / 2 := by unfold cnm; rw [if_pos h]
    have e3 : ((a - 1) * (b - 1)).tdiv 2 = (a - 1) * (b - 1) / 2 := Int.tdiv_eq_ediv_of_nonneg hp.1
    generalize hP : (a - 1) * (b - 1) = P at *
    rw [e1, h]
    go_enter Try.func13, Try.ntmps13
    go_wp2_with fail
    refine (C _).mono ?_
    rintro e w1 ⟨rfl, m, rfl⟩
    go_wp2
    go_ret2
    exact ⟨rfl, m, rfl⟩
  · have e1 : cnm a b = 0 := by unfold cnm; rw [if_neg h]
    rw [e1]
    go_enter Try.func13, Try.ntmps13
    go_wp2_with fail
    refine (C _).mono ?_
    rintro e w1 ⟨rfl, m, rfl⟩
    go_wp2
    go_ret2
    exact ⟨rfl, m, rfl⟩

theorem law_GreatestMissing (a b : Int) (w : World) :
    Calls Try.prog 4 #[.int .i64 a, .int .i64 b] w fun e w' => e = .returned (.bool true) ∧ Below w.heap.size w w' := by
  go_enter Try.func4, Try.ntmps4
  go_wp2_with fail
  refine (specGreatestMissing_any _ _ _).mono ?_
  rintro e w1 ⟨rfl, m1, rfl⟩
  go_wp2_with fail
  refine (implGreatestMissing_any _ _ _).mono ?_
  rintro e w1 ⟨rfl, m2, rfl⟩
  go_wp2
  go_ret
  exact ⟨rfl, belowN (Below.refl _ _) _⟩

theorem law_CountMissing (a b : Int) (w : World) :
    Calls Try.prog 3 #[.int .i64 a, .int .i64 b] w fun e w' => e = .returned (.bool true) ∧ Below w.heap.size w w' := by
  go_enter Try.func3, Try.ntmps3
  go_wp2_with fail
  refine (specCountMissing_any _ _ _).mono ?_
  rintro e w1 ⟨rfl, m1, rfl⟩
  go_wp2_with fail
  refine (implCountMissing_any _ _ _).mono ?_
  rintro e w1 ⟨rfl, m2, rfl⟩
  go_wp2
  go_ret
  exact ⟨rfl, belowN (Below.refl _ _) _⟩

end Go.Proofs.Ytpganaeomiondaa
