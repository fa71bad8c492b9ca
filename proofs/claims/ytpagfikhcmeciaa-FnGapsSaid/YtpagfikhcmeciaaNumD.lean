/- Quotients that are rounded down, in the program. -/
import Derived.Test.YtpagfikhcmeciaaNumG
namespace Go.Proofs.Ytpagfikhcmeciaa
open Go.RowKit

theorem floorDiv_any (n m : Int) (w : World) (hm : 0 < m) (hm2 : m ≤ 9223372036854775807) (h1 : -9223372036854775807 ≤ n) (h2 : n ≤ 9223372036854775807) :
    Calls Try.prog 77 #[.int .i64 n, .int .i64 m] w fun e w' => e = .returned (.int .i64 (n / m)) ∧ w = w' := by
  have hd := hide (floor_impl (n := n) hm)
  have hb := tdiv_bd (n := n) hm 9223372036854775807 (by omega)
  have hb2 := ediv_bd (n := n) hm 9223372036854775807 (by omega)
  have hr1 := Int.lt_tmod_of_pos n hm
  have hr2 := Int.tmod_lt_of_pos n hm
  have hm0 : ¬ m = 0 := by omega
  generalize hq : n.tdiv m = q at *
  generalize hr : n.tmod m = r at *
  go_enter Try.func77, Try.ntmps77
  by_cases h : r = 0
  · have e : n / m = q := by rw [← hd.out, if_neg (by simp [h])]
    go_wp2
    go_ret
    exact ⟨by first | rfl | (rw [e]; rfl), rfl⟩
  · have hB : (r != 0) = true := by simp [h]
    have hM : decide (m < 0) = false := by simp; omega
    by_cases h' : n < 0
    · have e : n / m = q - 1 := by rw [← hd.out, if_pos ⟨h, h'⟩]
      go_wp2
      go_ret
      exact ⟨by first | rfl | (rw [e]; rfl), rfl⟩
    · have e : n / m = q := by rw [← hd.out, if_neg (by simp [h'])]
      go_wp2
      go_ret
      exact ⟨by first | rfl | (rw [e]; rfl), rfl⟩

end Go.Proofs.Ytpagfikhcmeciaa
