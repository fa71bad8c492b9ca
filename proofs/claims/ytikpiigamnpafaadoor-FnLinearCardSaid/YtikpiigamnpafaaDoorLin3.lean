/- BezoutOf and the least solution: the program agrees with the reference. -/
import Derived.Test.YtikpiigamnpafaaDoorLin2
import Derived.Test.YtikpiigamnpafaaDoorBez2
namespace Go.Proofs.YtikpiigamnpafaaDoor
open Go.RowKit

def bzo (a b : Int) : Value := if cfB a && cfB b then .tuple #[.int .i64 (bzX a b), .int .i64 (bzY a b), .int .i64 (Int.gcd a b : Nat), .int .i64 0] else .tuple #[.int .i64 0, .int .i64 0, .int .i64 0, .int .i64 2]

theorem implBezoutOf_any (a b : Int) (w : World) :
    Calls Tryd.prog 16 #[.int .i64 a, .int .i64 b] w fun e w' => e = .returned (bzo a b) ∧ Below w.heap.size w w' := by
  rcases Bool.eq_false_or_eq_true (cfB a) with h | h <;> rcases Bool.eq_false_or_eq_true (cfB b) with h2 | h2
  · have hr := hide (show bzo a b = _ from if_pos (by simp [h, h2]))
    have ha := cfB_iff.1 h
    have hb := cfB_iff.1 h2
    go_enter Tryd.func16, Tryd.ntmps16
    go_wp2_with (go_at_call 45; refine (isCoef_any _ _).mono ?_; rintro e w1 ⟨rfl, rfl⟩)
    refine (bezout_any _ _ _ ha.2 hb.2 (by omega) (by omega)).mono ?_
    rintro e w1 ⟨rfl, hb1⟩
    go_wp2
    go_returns
    exact ⟨by rw [hr.out], hb1⟩
  all_goals
    have hr := hide (show bzo a b = _ from if_neg (by simp [h, h2]))
    go_enter Tryd.func16, Tryd.ntmps16
    go_wp2_with (go_at_call 45; refine (isCoef_any _ _).mono ?_; rintro e w1 ⟨rfl, rfl⟩)
    go_returns
    exact ⟨by rw [hr.out], Below.refl _ _⟩

theorem specBezoutOf_any (a b : Int) (w : World) :
    Calls Tryd.prog 17 #[.int .i64 a, .int .i64 b] w fun e w' => e = .returned (bzo a b) ∧ Below w.heap.size w w' := by
  rcases Bool.eq_false_or_eq_true (cfB a) with h | h <;> rcases Bool.eq_false_or_eq_true (cfB b) with h2 | h2
  · have hr := hide (show bzo a b = _ from if_pos (by simp [h, h2]))
    have ha := cfB_iff.1 h
    have hb := cfB_iff.1 h2
    go_enter Tryd.func17, Tryd.ntmps17
    go_wp2_with (go_at_call 47; refine (l21Coef_any _ _).mono ?_; rintro e w1 ⟨rfl, rfl⟩)
    refine (l21Bezout_any _ _ _ ha.2 hb.2 (by omega) (by omega)).mono ?_
    rintro e w1 ⟨rfl, hb1⟩
    go_wp2
    go_returns
    exact ⟨by rw [hr.out], hb1⟩
  all_goals
    have hr := hide (show bzo a b = _ from if_neg (by simp [h, h2]))
    go_enter Tryd.func17, Tryd.ntmps17
    go_wp2_with (go_at_call 47; refine (l21Coef_any _ _).mono ?_; rintro e w1 ⟨rfl, rfl⟩)
    go_returns
    exact ⟨by rw [hr.out], Below.refl _ _⟩

end Go.Proofs.YtikpiigamnpafaaDoor
