/- Fractions in lowest terms in the reference. -/
import Derived.Test.YtpagfikhcmeciaaNumG
import Derived.Test.YtpagfikhcmeciaaBlk
namespace Go.Proofs.Ytpagfikhcmeciaa
open Go.RowKit

theorem gcd_div {a b : Int} (hb : b ≠ 0) : a.tdiv (Int.gcd a b : Nat) = a / (Int.gcd a b : Nat) ∧ b.tdiv (Int.gcd a b : Nat) = b / (Int.gcd a b : Nat) := by
  have hg : ((Int.gcd a b : Nat) : Int) ≠ 0 := by
    have := Int.gcd_pos_of_ne_zero_right a hb
    omega
  exact ⟨tdiv_ediv hg (Int.gcd_dvd_left ..), tdiv_ediv hg (Int.gcd_dvd_right ..)⟩

theorem l02Make_any (a b : Int) (w : World) (ha : -9223372036854775807 ≤ a ∧ a ≤ 9223372036854775807) (hb : 0 < b) (hb2 : b ≤ 9223372036854775807) :
    Calls Try.prog 54 #[.int .i64 a, .int .i64 b] w fun e w' => e = .returned (.agg #[.int .i64 (a / (Int.gcd a b : Nat)), .int .i64 (b / (Int.gcd a b : Nat))]) ∧ Below w.heap.size w w' := by
  have hd := gcd_div (a := a) (b := b) (by omega)
  have hg0 := Int.gcd_pos_of_ne_zero_right a (show b ≠ 0 by omega)
  have q1 := ediv_bd (n := a) (m := (Int.gcd a b : Nat)) (by omega) 9223372036854775807 ha
  have q2 := ediv_bd (n := b) (m := (Int.gcd a b : Nat)) (by omega) 9223372036854775807 (by omega)
  have hsz : Int.gcd (sz a) b = Int.gcd a b := by rw [sz_nat]; simp [Int.gcd]
  have hs : 0 ≤ sz a ∧ sz a ≤ 9223372036854775807 := by have := sz_nat a; omega
  have hG := specGcdI_any (sz a) b
  rw [hsz] at hG
  generalize hg : (Int.gcd a b : Nat) = g at *
  have hgn : ¬ (g : Int) = 0 := by omega
  obtain ⟨d1, d2⟩ := hd
  clear hsz hg
  have s1 : IntKind.i64.wrap (a / g) = a / g := IntWalk.i64_in _ (by omega)
  have s2 : IntKind.i64.wrap (b / g) = b / g := IntWalk.i64_in _ (by omega)
  go_enter Try.func54, Try.ntmps54
  go_wp2_with fail
  refine (specSize_any _ _ (by omega) (by omega)).mono ?_
  rintro e w1 ⟨rfl, rfl⟩
  go_wp2_with fail
  refine (hG _ (by omega) (by omega) (by omega) (by omega)).mono ?_
  rintro e w1 ⟨rfl, rfl⟩
  go_wp2
  go_region
  go_wp2
  refine bodyPost_ret (v := .agg #[.int .i64 (a / g), .int .i64 (b / g)]) (by simp [results, Try.results54, go_sem]) rfl ⟨rfl, ?_⟩
  go_grown

end Go.Proofs.Ytpagfikhcmeciaa
