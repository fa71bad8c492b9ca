/- Sizes and divisors in common, in the program and in the reference. -/
import Derived.Test.YtpagfikhcmeciaaCf
import Derived.Test.YtpagfikhcmeciaaDiv
namespace Go.Proofs.Ytpagfikhcmeciaa
open Go.RowKit

theorem implAbs_any (n : Int) (w : World) (h1 : -9223372036854775807 ≤ n) (h2 : n ≤ 9223372036854775807) :
    Calls Try.prog 76 #[.int .i64 n] w fun e w' => e = .returned (.int .i64 (sz n)) ∧ w = w' := by
  go_enter Try.func76, Try.ntmps76
  by_cases h : n < 0
  · have e : sz n = -n := by unfold sz; rw [if_pos h]
    go_wp2
    go_ret
    exact ⟨by first | rfl | (rw [e]; rfl), rfl⟩
  · have e : sz n = n := by unfold sz; rw [if_neg h]
    go_wp2
    go_ret
    exact ⟨by first | rfl | (rw [e]; rfl), rfl⟩

theorem specSize_any (n : Int) (w : World) (h1 : -9223372036854775807 ≤ n) (h2 : n ≤ 9223372036854775807) :
    Calls Try.prog 69 #[.int .i64 n] w fun e w' => e = .returned (.int .i64 (sz n)) ∧ w = w' := by
  go_enter Try.func69, Try.ntmps69
  by_cases h : n < 0
  · have e : sz n = -n := by unfold sz; rw [if_pos h]
    go_wp2
    go_ret
    exact ⟨by first | rfl | (rw [e]; rfl), rfl⟩
  · have e : sz n = n := by unfold sz; rw [if_neg h]
    go_wp2
    go_ret
    exact ⟨by first | rfl | (rw [e]; rfl), rfl⟩

theorem gcd_step (p q : Nat) : Nat.gcd q (p % q) = Nat.gcd p q := by rw [Nat.gcd_comm, ← Nat.gcd_rec, Nat.gcd_comm]

theorem specGcd_any (x y : Nat) (w : World) (h1 : x ≤ 9223372036854775807) (h2 : y ≤ 9223372036854775807) :
    Calls Try.prog 68 #[.int .i64 x, .int .i64 y] w fun e w' => e = .returned (.int .i64 (Nat.gcd x y)) ∧ w = w' := by
  go_enter Try.func68, Try.ntmps68
  go_wp2
  go_loopw [0, 1] (fun a b wr => ∃ p q : Nat, a = .int .i64 p ∧ b = .int .i64 q ∧ p ≤ 9223372036854775807 ∧ q ≤ 9223372036854775807 ∧ Nat.gcd p q = Nat.gcd x y ∧ wr = w) (fun _ b _ => (intOf b).toNat)
  case atStart => exact ⟨x, y, rfl, rfl, h1, h2, rfl, rfl⟩
  case round =>
    obtain ⟨p, q, rfl, rfl, hp, hq, hg, rfl⟩ := hrel
    have HG := hide hg
    clear hg
    by_cases h0 : q = 0
    · subst h0
      have e : Nat.gcd x y = p := by rw [← HG.out]; simp
      go_wp2
      go_ret
      exact ⟨by first | rfl | (rw [e]; rfl), rfl⟩
    · have et : ((p : Int)).tmod (q : Int) = ((p % q : Nat) : Int) := by rw [Int.tmod_eq_emod_of_nonneg (by omega), Int.natCast_emod]
      have hlt : p % q < q := Nat.mod_lt _ (by omega)
      have hq0 : ¬ (q : Int) = 0 := by omega
      go_wp2
      go_roundw
      case rel => exact ⟨q, p % q, rfl, rfl, hq, by omega, by rw [gcd_step]; exact HG.out, trivial⟩
      case measure => simp [intOf]; omega

theorem specGcdI_any (a b : Int) (w : World) (h0 : 0 ≤ a) (h1 : a ≤ 9223372036854775807) (h2 : 0 ≤ b) (h3 : b ≤ 9223372036854775807) :
    Calls Try.prog 68 #[.int .i64 a, .int .i64 b] w fun e w' => e = .returned (.int .i64 (Int.gcd a b : Nat)) ∧ w = w' := by
  obtain ⟨x, rfl⟩ := Int.eq_ofNat_of_zero_le h0
  obtain ⟨y, rfl⟩ := Int.eq_ofNat_of_zero_le h2
  exact specGcd_any x y w (by omega) (by omega)

theorem implGcd_any (a b : Int) (w : World) (h1 : -9223372036854775807 ≤ a) (h2 : a ≤ 9223372036854775807) (h3 : -9223372036854775807 ≤ b) (h4 : b ≤ 9223372036854775807) :
    Calls Try.prog 66 #[.int .i64 a, .int .i64 b] w fun e w' => e = .returned (.int .i64 (Int.gcd a b : Nat)) ∧ ∃ m, w' = w.drewN m := by
  have ea := sz_nat a
  have eb := sz_nat b
  have la : a.natAbs ≤ 9223372036854775807 := by omega
  have lb : b.natAbs ≤ 9223372036854775807 := by omega
  have eg : Nat.gcd a.natAbs b.natAbs = Int.gcd a b := rfl
  generalize a.natAbs = x at *
  generalize b.natAbs = y at *
  go_enter Try.func66, Try.ntmps66
  go_wp2_with (go_at_call 76; refine (implAbs_any _ _ (by omega) (by omega)).mono ?_; rintro e w1 ⟨rfl, rfl⟩)
  go_loopw [0, 1] (fun a b wr => ∃ p q : Nat, a = .int .i64 p ∧ b = .int .i64 q ∧ p ≤ 9223372036854775807 ∧ q ≤ 9223372036854775807 ∧ Nat.gcd p q = Nat.gcd x y ∧ ∃ m, wr = w.drewN m) (fun _ b _ => (intOf b).toNat)
  case atStart => exact ⟨x, y, by first | rfl | (rw [ea]), by first | rfl | (rw [eb]), la, lb, rfl, 0, rfl⟩
  case round =>
    obtain ⟨p, q, rfl, rfl, hp, hq, hg, m, rfl⟩ := hrel
    have HG := hide hg
    have EG := hide eg
    clear hg eg
    by_cases h0 : q = 0
    · subst h0
      have e : Int.gcd a b = p := by rw [← EG.out, ← HG.out]; simp
      go_wp2
      go_ret
      exact ⟨by first | rfl | (rw [e]; rfl), _, rfl⟩
    · have et : ((p : Int)).tmod (q : Int) = ((p % q : Nat) : Int) := by rw [Int.tmod_eq_emod_of_nonneg (by omega), Int.natCast_emod]
      have hlt : p % q < q := Nat.mod_lt _ (by omega)
      have hq0 : ¬ (q : Int) = 0 := by omega
      go_wp2
      go_quiet (fail)
      go_wp2
      go_roundw
      case rel => exact ⟨q, p % q, rfl, rfl, hq, by omega, by rw [gcd_step]; exact HG.out, _, by rw [World.drewN_drewN]⟩
      case measure => simp [intOf]; omega

end Go.Proofs.Ytpagfikhcmeciaa
