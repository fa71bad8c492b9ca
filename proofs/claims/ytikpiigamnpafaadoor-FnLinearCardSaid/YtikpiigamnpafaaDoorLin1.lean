/- Contracts of the tests on the numbers of a linear equation; the numbers without a solution. -/
import Derived.Test.YtikpiigamnpafaaDoorNum
import Derived.Test.YtikpiigamnpafaaDoorLinP
namespace Go.Proofs.YtikpiigamnpafaaDoor
open Go.RowKit

def cfB (a : Int) : Bool := inB a (-1000000) 1000000 && (a != 0)
theorem cfB_iff {a : Int} : cfB a = true ↔ (-1000000 ≤ a ∧ a ≤ 1000000) ∧ a ≠ 0 := by simp [cfB, inB]
def rtB (c : Int) : Bool := inB c (-1000000000) 1000000000
theorem rtB_iff {c : Int} : rtB c = true ↔ -1000000000 ≤ c ∧ c ≤ 1000000000 := inB_iff
def liB (a b c : Int) : Bool := cfB a && cfB b && rtB c
def naB (a b c : Int) : Bool := liB a b c && decide (0 < a) && decide (0 < b) && decide (0 ≤ c)
theorem naB_iff {a b c : Int} : naB a b c = true ↔ (1 ≤ a ∧ a ≤ 1000000) ∧ (1 ≤ b ∧ b ≤ 1000000) ∧ (0 ≤ c ∧ c ≤ 1000000000) := by
  simp only [naB, liB, cfB, rtB, inB, Bool.and_eq_true, decide_eq_true_eq, bne_iff_ne]
  omega

theorem isCoef_any (a : Int) (w : World) :
    Calls Tryd.prog 45 #[.int .i64 a] w fun e w' => e = .returned (.bool (cfB a)) ∧ w = w' := by
  rcases Bool.eq_false_or_eq_true (inB a (-1000000) 1000000) with h | h
  all_goals
    go_enter Tryd.func45, Tryd.ntmps45
    go_wp2_with (go_at_call 69; refine (within_any _ _ _ _).mono ?_; rintro e w1 ⟨rfl, rfl⟩)
    go_ret
    exact ⟨by simp [cfB, h], rfl⟩

theorem l21Coef_any (a : Int) (w : World) :
    Calls Tryd.prog 47 #[.int .i64 a] w fun e w' => e = .returned (.bool (cfB a)) ∧ w = w' := by
  rcases Bool.eq_false_or_eq_true (inB a (-1000000) 1000000) with h | h
  all_goals
    go_enter Tryd.func47, Tryd.ntmps47
    go_wp2_with (go_at_call 58; refine (l00In_any _ _ _ _).mono ?_; rintro e w1 ⟨rfl, rfl⟩)
    go_ret
    exact ⟨by simp [cfB, h], rfl⟩

theorem isRight_any (a : Int) (w : World) :
    Calls Tryd.prog 59 #[.int .i64 a] w fun e w' => e = .returned (.bool (rtB a)) ∧ w = w' := by
  go_enter Tryd.func59, Tryd.ntmps59
  go_wp2_with (go_at_call 69; refine (within_any _ _ _ _).mono ?_; rintro e w1 ⟨rfl, rfl⟩)
  go_ret
  exact ⟨rfl, rfl⟩

theorem isLinear_any (a b c : Int) (w : World) :
    Calls Tryd.prog 34 #[.int .i64 a, .int .i64 b, .int .i64 c] w fun e w' => e = .returned (.bool (liB a b c)) ∧ w = w' := by
  rcases Bool.eq_false_or_eq_true (cfB a) with h | h <;> rcases Bool.eq_false_or_eq_true (cfB b) with h2 | h2
  all_goals
    go_enter Tryd.func34, Tryd.ntmps34
    go_wp2_with (first
      | (go_at_call 45; refine (isCoef_any _ _).mono ?_; rintro e w1 ⟨rfl, rfl⟩)
      | (go_at_call 59; refine (isRight_any _ _).mono ?_; rintro e w1 ⟨rfl, rfl⟩))
    go_ret
    exact ⟨by simp [liB, h, h2], rfl⟩

theorem isNatural_any (a b c : Int) (w : World) :
    Calls Tryd.prog 50 #[.int .i64 a, .int .i64 b, .int .i64 c] w fun e w' => e = .returned (.bool (naB a b c)) ∧ w = w' := by
  rcases Bool.eq_false_or_eq_true (liB a b c) with h | h <;> by_cases h2 : 0 < a <;> by_cases h3 : 0 < b
  all_goals
    go_enter Tryd.func50, Tryd.ntmps50
    go_wp2_with (go_at_call 34; refine (isLinear_any _ _ _ _).mono ?_; rintro e w1 ⟨rfl, rfl⟩)
    go_ret
    exact ⟨by simp [naB, *] <;> omega, rfl⟩

/-- The code of two coefficients that must be positive and without a divisor in common. -/
def miss (a b : Int) : Int := if naB a b 0 then (if 1 < Int.gcd a b then 6 else 0) else 2

end Go.Proofs.YtikpiigamnpafaaDoor
