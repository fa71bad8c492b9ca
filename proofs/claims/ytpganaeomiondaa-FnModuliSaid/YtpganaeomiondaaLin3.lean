/- BezoutOf and the least solution: the program agrees with the reference. -/
import Derived.Test.YtpganaeomiondaaLin2
import Derived.Test.YtpganaeomiondaaBez2
namespace Go.Proofs.Ytpganaeomiondaa
open Go.RowKit

def bzo (a b : Int) : Value := if cfB a && cfB b then .tuple #[.int .i64 (bzX a b), .int .i64 (bzY a b), .int .i64 (Int.gcd a b : Nat), .int .i64 0] else .tuple #[.int .i64 0, .int .i64 0, .int .i64 0, .int .i64 2]

theorem implBezoutOf_any (a b : Int) (w : World) :
    Calls Try.prog 18 #[.int .i64 a, .int .i64 b] w fun e w' => e = .returned (bzo a b) ∧ Below w.heap.size w w' := by
  rcases Bool.eq_false_or_eq_true (cfB a) with h | h <;> rcases Bool.eq_false_or_eq_true (cfB b) with h2 | h2
  · have hr := hide (show bzo a b = _ from if_pos (by simp [h, h2]))
    have ha := cfB_iff.1 h
    have hb := cfB_iff.1 h2
    go_enter Try.func18, Try.ntmps18
    go_wp2_with (go_at_call 44; refine (isCoef_any _ _).mono ?_; rintro e w1 ⟨rfl, rfl⟩)
    refine (bezout_any _ _ _ ha.2 hb.2 (by omega) (by omega)).mono ?_
    rintro e w1 ⟨rfl, hb1⟩
    go_wp2
    go_returns
    exact ⟨by rw [hr.out], hb1⟩
  all_goals
    have hr := hide (show bzo a b = _ from if_neg (by simp [h, h2]))
    go_enter Try.func18, Try.ntmps18
    go_wp2_with (go_at_call 44; refine (isCoef_any _ _).mono ?_; rintro e w1 ⟨rfl, rfl⟩)
    go_returns
    exact ⟨by rw [hr.out], Below.refl _ _⟩

theorem specBezoutOf_any (a b : Int) (w : World) :
    Calls Try.prog 17 #[.int .i64 a, .int .i64 b] w fun e w' => e = .returned (bzo a b) ∧ Below w.heap.size w w' := by
  rcases Bool.eq_false_or_eq_true (cfB a) with h | h <;> rcases Bool.eq_false_or_eq_true (cfB b) with h2 | h2
  · have hr := hide (show bzo a b = _ from if_pos (by simp [h, h2]))
    have ha := cfB_iff.1 h
    have hb := cfB_iff.1 h2
    go_enter Try.func17, Try.ntmps17
    go_wp2_with (go_at_call 42; refine (l21Coef_any _ _).mono ?_; rintro e w1 ⟨rfl, rfl⟩)
    refine (l21Bezout_any _ _ _ ha.2 hb.2 (by omega) (by omega)).mono ?_
    rintro e w1 ⟨rfl, hb1⟩
    go_wp2
    go_returns
    exact ⟨by rw [hr.out], hb1⟩
  all_goals
    have hr := hide (show bzo a b = _ from if_neg (by simp [h, h2]))
    go_enter Try.func17, Try.ntmps17
    go_wp2_with (go_at_call 42; refine (l21Coef_any _ _).mono ?_; rintro e w1 ⟨rfl, rfl⟩)
    go_returns
    exact ⟨by rw [hr.out], Below.refl _ _⟩

theorem law_BezoutOf (a b : Int) (w : World) :
    Calls Try.prog 5 #[.int .i64 a, .int .i64 b] w fun e w' => e = .returned (.bool true) ∧ Below w.heap.size w w' := by
  have hs := specBezoutOf_any a b
  have hi := implBezoutOf_any a b
  unfold bzo at hs hi
  by_cases h : (cfB a && cfB b) = true
  · rw [if_pos h] at hs hi
    clear h
    go_enter Try.func5, Try.ntmps5
    go_wp2_with fail
    refine (hs _).mono ?_
    rintro e w1 ⟨rfl, hb1⟩
    go_wp2_with fail
    refine (hi _).mono ?_
    rintro e w2 ⟨rfl, hb2⟩
    go_wp2
    go_ret
    exact ⟨rfl, bstep hb1 hb2 hb1.size⟩
  · rw [if_neg h] at hs hi
    clear h
    go_enter Try.func5, Try.ntmps5
    go_wp2_with fail
    refine (hs _).mono ?_
    rintro e w1 ⟨rfl, hb1⟩
    go_wp2_with fail
    refine (hi _).mono ?_
    rintro e w2 ⟨rfl, hb2⟩
    go_wp2
    go_ret
    exact ⟨rfl, bstep hb1 hb2 hb1.size⟩

end Go.Proofs.Ytpganaeomiondaa
