/- Rests. -/
import Derived.Test.YtpagfikhcmeciaaNumG
import Derived.Test.YtpagfikhcmeciaaNumD
namespace Go.Proofs.Ytpagfikhcmeciaa
open Go.RowKit

theorem floorMod_any (n m : Int) (w : World) (hm : 0 < m) (hm2 : m ≤ 9223372036854775807) (h1 : -4611686018427387904 ≤ n) (h2 : n ≤ 9223372036854775807) (hm3 : m ≤ 4611686018427387904) :
    Calls Try.prog 67 #[.int .i64 n, .int .i64 m] w fun e w' => e = .returned (.int .i64 (n % m)) ∧ w = w' := by
  have e1 := Int.mul_ediv_add_emod n m
  have e2 := Int.emod_nonneg n (show m ≠ 0 by omega)
  have e3 := Int.emod_lt_of_pos n hm
  generalize hp : m * (n / m) = p at *
  have e4 : n - p = n % m := by omega
  go_enter Try.func67, Try.ntmps67
  go_wp2_with (go_at_call 77; refine (floorDiv_any _ _ _ (by omega) (by omega) (by omega) (by omega)).mono ?_; rintro e w1 ⟨rfl, rfl⟩)
  go_ret
  exact ⟨by first | rfl | (rw [e4]; rfl), rfl⟩

theorem specMod_any (n m : Int) (w : World) (hm : 0 < m) (hm2 : m ≤ 4611686018427387904) :
    Calls Try.prog 70 #[.int .i64 n, .int .i64 m] w fun e w' => e = .returned (.int .i64 (n % m)) ∧ w = w' := by
  have e := mod_spec (n := n) hm
  have hr1 := Int.lt_tmod_of_pos n hm
  have hr2 := Int.tmod_lt_of_pos n hm
  have hm0 : ¬ m = 0 := by omega
  have q1 := Int.emod_nonneg n (show m ≠ 0 by omega)
  have q2 := Int.emod_lt_of_pos n hm
  go_enter Try.func70, Try.ntmps70
  go_wp2
  go_ret
  exact ⟨by first | rfl | (rw [e]; rfl), rfl⟩

end Go.Proofs.Ytpagfikhcmeciaa
