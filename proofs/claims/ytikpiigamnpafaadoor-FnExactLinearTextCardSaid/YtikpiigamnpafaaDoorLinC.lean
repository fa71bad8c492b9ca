/- The tests on the numbers of a linear equation (picked out of Lin1 and Lin5). -/
import Derived.Test.YtikpiigamnpafaaDoorBase
namespace Go.Proofs.YtikpiigamnpafaaDoor
open Go.RowKit

def cfB (a : Int) : Bool := inB a (-1000000) 1000000 && (a != 0)
theorem cfB_iff {a : Int} : cfB a = true ↔ (-1000000 ≤ a ∧ a ≤ 1000000) ∧ a ≠ 0 := by simp [cfB, inB]
def rtB (c : Int) : Bool := inB c (-1000000000) 1000000000
theorem rtB_iff {c : Int} : rtB c = true ↔ -1000000000 ≤ c ∧ c ≤ 1000000000 := inB_iff
def liB (a b c : Int) : Bool := cfB a && cfB b && rtB c
def naB (a b c : Int) : Bool := liB a b c && decide (0 < a) && decide (0 < b) && decide (0 ≤ c)
theorem naB_iff {a b c : Int} : naB a b c = true ↔ (1 ≤ a ∧ a ≤ 1000000) ∧ (1 ≤ b ∧ b ≤ 1000000) ∧ (0 ≤ c ∧ c ≤ 1000000000) := by
  simp only [naB, liB, cfB, rtB, inB, Bool.and_eq_true, decide_eq_true_eq, bne_iff_ne]
  omega

theorem isCoef_any (a : Int) (w : World) :
    Calls Tryd.prog 45 #[.int .i64 a] w fun e w' => e = .returned (.bool (cfB a)) ∧ w = w' := by
  rcases Bool.eq_false_or_eq_true (inB a (-1000000) 1000000) with h | h
  all_goals
    go_enter Tryd.func45, Tryd.ntmps45
    go_wp2_with (go_at_call 69; refine (within_any _ _ _ _).mono ?_; rintro e w1 ⟨rfl, rfl⟩)
    go_ret
    exact ⟨by simp [cfB, h], rfl⟩

theorem l21Coef_any (a : Int) (w : World) :
    Calls Tryd.prog 47 #[.int .i64 a] w fun e w' => e = .returned (.bool (cfB a)) ∧ w = w' := by
  rcases Bool.eq_false_or_eq_true (inB a (-1000000) 1000000) with h | h
  all_goals
    go_enter Tryd.func47, Tryd.ntmps47
    go_wp2_with (go_at_call 58; refine (l00In_any _ _ _ _).mono ?_; rintro e w1 ⟨rfl, rfl⟩)
    go_ret
    exact ⟨by simp [cfB, h], rfl⟩

theorem isRight_any (a : Int) (w : World) :
    Calls Tryd.prog 59 #[.int .i64 a] w fun e w' => e = .returned (.bool (rtB a)) ∧ w = w' := by
  go_enter Tryd.func59, Tryd.ntmps59
  go_wp2_with (go_at_call 69; refine (within_any _ _ _ _).mono ?_; rintro e w1 ⟨rfl, rfl⟩)
  go_ret
  exact ⟨rfl, rfl⟩

theorem isLinear_any (a b c : Int) (w : World) :
    Calls Tryd.prog 34 #[.int .i64 a, .int .i64 b, .int .i64 c] w fun e w' => e = .returned (.bool (liB a b c)) ∧ w = w' := by
  rcases Bool.eq_false_or_eq_true (cfB a) with h | h <;> rcases Bool.eq_false_or_eq_true (cfB b) with h2 | h2
  all_goals
    go_enter Tryd.func34, Tryd.ntmps34
    go_wp2_with (first
      | (go_at_call 45; refine (isCoef_any _ _).mono ?_; rintro e w1 ⟨rfl, rfl⟩)
      | (go_at_call 59; refine (isRight_any _ _).mono ?_; rintro e w1 ⟨rfl, rfl⟩))
    go_ret
    exact ⟨by simp [liB, h, h2], rfl⟩

def lcode (nat : Bool) (a b c : Int) : Int := if (if nat then naB a b c else liB a b c) then 0 else 2

theorem liB_iff {a b c : Int} : liB a b c = true ↔ ((-1000000 ≤ a ∧ a ≤ 1000000) ∧ a ≠ 0) ∧ ((-1000000 ≤ b ∧ b ≤ 1000000) ∧ b ≠ 0) ∧ (-1000000000 ≤ c ∧ c ≤ 1000000000) := by
  simp only [liB, cfB, rtB, inB, Bool.and_eq_true, decide_eq_true_eq, bne_iff_ne]
  omega

set_option maxHeartbeats 1000000 in
theorem l21Code_any (nat : Bool) (a b c : Int) (w : World) :
    Calls Tryd.prog 32 #[.int .i64 a, .int .i64 b, .int .i64 c, .bool nat] w fun e w' => e = .returned (.int .i64 (lcode nat a b c)) ∧ ∃ m, w' = w.drewN m := by
  rcases Bool.eq_false_or_eq_true (cfB a) with h | h <;> rcases Bool.eq_false_or_eq_true (cfB b) with h2 | h2 <;> rcases Bool.eq_false_or_eq_true (rtB c) with h3 | h3
  · have hl : liB a b c = true := by simp [liB, h, h2, h3]
    have a1 := (cfB_iff.1 h).2
    have b1 := (cfB_iff.1 h2).2
    cases nat
    · have hr : lcode false a b c = 0 := by simp [lcode, hl]
      have HR := hide hr
      clear hr hl
      go_enter Tryd.func32, Tryd.ntmps32
      go_wp2_with (first
        | (go_at_call 47; refine (l21Coef_any _ _).mono ?_; rintro e w1 ⟨rfl, rfl⟩)
        | (go_at_call 58; refine (l00In_any _ _ _ _).mono ?_; rintro e w1 ⟨rfl, rfl⟩; rw [show inB c (-1000000000) 1000000000 = true from h3]))
      go_ret
      exact ⟨by rw [HR.out]; first | done | rfl, 0, rfl⟩
    · rcases (show (a < 0 ∧ lcode true a b c = 2) ∨ (0 < a ∧ b < 0 ∧ lcode true a b c = 2) ∨ (0 < a ∧ 0 < b ∧ c < 0 ∧ lcode true a b c = 2) ∨ (0 < a ∧ 0 < b ∧ 0 ≤ c ∧ lcode true a b c = 0) from by
        simp only [lcode, naB, hl, if_true, Bool.true_and]
        by_cases x1 : a < 0
        · exact .inl ⟨x1, if_neg (by simp; omega)⟩
        · by_cases x2 : b < 0
          · exact .inr (.inl ⟨by omega, x2, if_neg (by simp; omega)⟩)
          · by_cases x3 : c < 0
            · exact .inr (.inr (.inl ⟨by omega, by omega, x3, if_neg (by simp; omega)⟩))
            · exact .inr (.inr (.inr ⟨by omega, by omega, by omega, if_pos (by simp; omega)⟩))) with ⟨x1, hr⟩ | ⟨x1, x2, hr⟩ | ⟨x1, x2, x3, hr⟩ | ⟨x1, x2, x3, hr⟩
      all_goals
        have HR := hide hr
        clear hr hl
        go_enter Tryd.func32, Tryd.ntmps32
        go_wp2_with (first
          | (go_at_call 47; refine (l21Coef_any _ _).mono ?_; rintro e w1 ⟨rfl, rfl⟩)
          | (go_at_call 58; refine (l00In_any _ _ _ _).mono ?_; rintro e w1 ⟨rfl, rfl⟩; rw [show inB c (-1000000000) 1000000000 = true from h3]))
        go_ret
        exact ⟨by rw [HR.out]; first | done | rfl, 0, rfl⟩
  all_goals
    have hr : lcode nat a b c = 2 := by cases nat <;> simp [lcode, naB, liB, h, h2, h3]
    have HR := hide hr
    clear hr
    go_enter Tryd.func32, Tryd.ntmps32
    go_wp2_with (first
      | (go_at_call 47; refine (l21Coef_any _ _).mono ?_; rintro e w1 ⟨rfl, rfl⟩)
      | (go_at_call 58; refine (l00In_any _ _ _ _).mono ?_; rintro e w1 ⟨rfl, rfl⟩; rw [show inB c (-1000000000) 1000000000 = false from h3]))
    go_ret
    exact ⟨by rw [HR.out]; first | done | rfl, 0, rfl⟩

end Go.Proofs.YtikpiigamnpafaaDoor
