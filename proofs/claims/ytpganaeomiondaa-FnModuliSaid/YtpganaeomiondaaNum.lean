/- Contracts of the small functions on numbers: sizes, signs, divisors in common, quotients and rests. -/
import Derived.Test.YtpganaeomiondaaCf
import Derived.Test.YtpganaeomiondaaDiv
namespace Go.Proofs.Ytpganaeomiondaa
open Go.RowKit

theorem implAbs_any (n : Int) (w : World) (h1 : -9223372036854775807 ≤ n) (h2 : n ≤ 9223372036854775807) :
    Calls Try.prog 75 #[.int .i64 n] w fun e w' => e = .returned (.int .i64 (sz n)) ∧ w = w' := by
  go_enter Try.func75, Try.ntmps75
  by_cases h : n < 0
  · have e : sz n = -n := by unfold sz; rw [if_pos h]
    go_wp2
    go_ret
    exact ⟨by first | rfl | (rw [e]; rfl), rfl⟩
  · have e : sz n = n := by unfold sz; rw [if_neg h]
    go_wp2
    go_ret
    exact ⟨by first | rfl | (rw [e]; rfl), rfl⟩

theorem specSize_any (n : Int) (w : World) (h1 : -9223372036854775807 ≤ n) (h2 : n ≤ 9223372036854775807) :
    Calls Try.prog 49 #[.int .i64 n] w fun e w' => e = .returned (.int .i64 (sz n)) ∧ w = w' := by
  go_enter Try.func49, Try.ntmps49
  by_cases h : n < 0
  · have e : sz n = -n := by unfold sz; rw [if_pos h]
    go_wp2
    go_ret
    exact ⟨by first | rfl | (rw [e]; rfl), rfl⟩
  · have e : sz n = n := by unfold sz; rw [if_neg h]
    go_wp2
    go_ret
    exact ⟨by first | rfl | (rw [e]; rfl), rfl⟩

theorem gcd_step (p q : Nat) : Nat.gcd q (p % q) = Nat.gcd p q := by rw [Nat.gcd_comm, ← Nat.gcd_rec, Nat.gcd_comm]

theorem specGcd_any (x y : Nat) (w : World) (h1 : x ≤ 9223372036854775807) (h2 : y ≤ 9223372036854775807) :
    Calls Try.prog 48 #[.int .i64 x, .int .i64 y] w fun e w' => e = .returned (.int .i64 (Nat.gcd x y)) ∧ w = w' := by
  go_enter Try.func48, Try.ntmps48
  go_wp2
  go_loopw [0, 1] (fun a b wr => ∃ p q : Nat, a = .int .i64 p ∧ b = .int .i64 q ∧ p ≤ 9223372036854775807 ∧ q ≤ 9223372036854775807 ∧ Nat.gcd p q = Nat.gcd x y ∧ wr = w) (fun _ b _ => (intOf b).toNat)
  case atStart => exact ⟨x, y, rfl, rfl, h1, h2, rfl, rfl⟩
  case round =>
    obtain ⟨p, q, rfl, rfl, hp, hq, hg, rfl⟩ := hrel
    have HG := hide hg
    clear hg
    by_cases h0 : q = 0
    · subst h0
      have e : Nat.gcd x y = p := by rw [← HG.out]; simp
      go_wp2
      go_ret
      exact ⟨by first | rfl | (rw [e]; rfl), rfl⟩
    · have et : ((p : Int)).tmod (q : Int) = ((p % q : Nat) : Int) := by rw [Int.tmod_eq_emod_of_nonneg (by omega), Int.natCast_emod]
      have hlt : p % q < q := Nat.mod_lt _ (by omega)
      have hq0 : ¬ (q : Int) = 0 := by omega
      go_wp2
      go_roundw
      case rel => exact ⟨q, p % q, rfl, rfl, hq, by omega, by rw [gcd_step]; exact HG.out, trivial⟩
      case measure => simp [intOf]; omega

theorem specGcdI_any (a b : Int) (w : World) (h0 : 0 ≤ a) (h1 : a ≤ 9223372036854775807) (h2 : 0 ≤ b) (h3 : b ≤ 9223372036854775807) :
    Calls Try.prog 48 #[.int .i64 a, .int .i64 b] w fun e w' => e = .returned (.int .i64 (Int.gcd a b : Nat)) ∧ w = w' := by
  obtain ⟨x, rfl⟩ := Int.eq_ofNat_of_zero_le h0
  obtain ⟨y, rfl⟩ := Int.eq_ofNat_of_zero_le h2
  exact specGcd_any x y w (by omega) (by omega)

theorem implGcd_any (a b : Int) (w : World) (h1 : -9223372036854775807 ≤ a) (h2 : a ≤ 9223372036854775807) (h3 : -9223372036854775807 ≤ b) (h4 : b ≤ 9223372036854775807) :
    Calls Try.prog 61 #[.int .i64 a, .int .i64 b] w fun e w' => e = .returned (.int .i64 (Int.gcd a b : Nat)) ∧ ∃ m, w' = w.drewN m := by
  have ea := sz_nat a
  have eb := sz_nat b
  have la : a.natAbs ≤ 9223372036854775807 := by omega
  have lb : b.natAbs ≤ 9223372036854775807 := by omega
  have eg : Nat.gcd a.natAbs b.natAbs = Int.gcd a b := rfl
  generalize a.natAbs = x at *
  generalize b.natAbs = y at *
  go_enter Try.func61, Try.ntmps61
  go_wp2_with (go_at_call 75; refine (implAbs_any _ _ (by omega) (by omega)).mono ?_; rintro e w1 ⟨rfl, rfl⟩)
  go_loopw [0, 1] (fun a b wr => ∃ p q : Nat, a = .int .i64 p ∧ b = .int .i64 q ∧ p ≤ 9223372036854775807 ∧ q ≤ 9223372036854775807 ∧ Nat.gcd p q = Nat.gcd x y ∧ ∃ m, wr = w.drewN m) (fun _ b _ => (intOf b).toNat)
  case atStart => exact ⟨x, y, by first | rfl | (rw [ea]), by first | rfl | (rw [eb]), la, lb, rfl, 0, rfl⟩
  case round =>
    obtain ⟨p, q, rfl, rfl, hp, hq, hg, m, rfl⟩ := hrel
    have HG := hide hg
    have EG := hide eg
    clear hg eg
    by_cases h0 : q = 0
    · subst h0
      have e : Int.gcd a b = p := by rw [← EG.out, ← HG.out]; simp
      go_wp2
      go_ret
      exact ⟨by first | rfl | (rw [e]; rfl), _, rfl⟩
    · have et : ((p : Int)).tmod (q : Int) = ((p % q : Nat) : Int) := by rw [Int.tmod_eq_emod_of_nonneg (by omega), Int.natCast_emod]
      have hlt : p % q < q := Nat.mod_lt _ (by omega)
      have hq0 : ¬ (q : Int) = 0 := by omega
      go_wp2
      go_quiet (fail)
      go_wp2
      go_roundw
      case rel => exact ⟨q, p % q, rfl, rfl, hq, by omega, by rw [gcd_step]; exact HG.out, _, by rw [World.drewN_drewN]⟩
      case measure => simp [intOf]; omega

theorem floorDiv_any (n m : Int) (w : World) (hm : 0 < m) (hm2 : m ≤ 9223372036854775807) (h1 : -9223372036854775807 ≤ n) (h2 : n ≤ 9223372036854775807) :
    Calls Try.prog 77 #[.int .i64 n, .int .i64 m] w fun e w' => e = .returned (.int .i64 (n / m)) ∧ w = w' := by
  have hd := hide (floor_impl (n := n) hm)
  have hb := tdiv_bd (n := n) hm 9223372036854775807 (by omega)
  have hb2 := ediv_bd (n := n) hm 9223372036854775807 (by omega)
  have hr1 := Int.lt_tmod_of_pos n hm
  have hr2 := Int.tmod_lt_of_pos n hm
  have hm0 : ¬ m = 0 := by omega
  generalize hq : n.tdiv m = q at *
  generalize hr : n.tmod m = r at *
  go_enter Try.func77, Try.ntmps77
  by_cases h : r = 0
  · have e : n / m = q := by rw [← hd.out, if_neg (by simp [h])]
    go_wp2
    go_ret
    exact ⟨by first | rfl | (rw [e]; rfl), rfl⟩
  · have hB : (r != 0) = true := by simp [h]
    have hM : decide (m < 0) = false := by simp; omega
    by_cases h' : n < 0
    · have e : n / m = q - 1 := by rw [← hd.out, if_pos ⟨h, h'⟩]
      go_wp2
      go_ret
      exact ⟨by first | rfl | (rw [e]; rfl), rfl⟩
    · have e : n / m = q := by rw [← hd.out, if_neg (by simp [h'])]
      go_wp2
      go_ret
      exact ⟨by first | rfl | (rw [e]; rfl), rfl⟩

theorem floorMod_any (n m : Int) (w : World) (hm : 0 < m) (hm2 : m ≤ 9223372036854775807) (h1 : -4611686018427387904 ≤ n) (h2 : n ≤ 9223372036854775807) (hm3 : m ≤ 4611686018427387904) :
    Calls Try.prog 60 #[.int .i64 n, .int .i64 m] w fun e w' => e = .returned (.int .i64 (n % m)) ∧ w = w' := by
  have e1 := Int.mul_ediv_add_emod n m
  have e2 := Int.emod_nonneg n (show m ≠ 0 by omega)
  have e3 := Int.emod_lt_of_pos n hm
  generalize hp : m * (n / m) = p at *
  have e4 : n - p = n % m := by omega
  go_enter Try.func60, Try.ntmps60
  go_wp2_with (go_at_call 77; refine (floorDiv_any _ _ _ (by omega) (by omega) (by omega) (by omega)).mono ?_; rintro e w1 ⟨rfl, rfl⟩)
  go_ret
  exact ⟨by first | rfl | (rw [e4]; rfl), rfl⟩

theorem specMod_any (n m : Int) (w : World) (hm : 0 < m) (hm2 : m ≤ 4611686018427387904) :
    Calls Try.prog 56 #[.int .i64 n, .int .i64 m] w fun e w' => e = .returned (.int .i64 (n % m)) ∧ w = w' := by
  have e := mod_spec (n := n) hm
  have hr1 := Int.lt_tmod_of_pos n hm
  have hr2 := Int.tmod_lt_of_pos n hm
  have hm0 : ¬ m = 0 := by omega
  have q1 := Int.emod_nonneg n (show m ≠ 0 by omega)
  have q2 := Int.emod_lt_of_pos n hm
  go_enter Try.func56, Try.ntmps56
  go_wp2
  go_ret
  exact ⟨by first | rfl | (rw [e]; rfl), rfl⟩

theorem specFloor_any (n m : Int) (w : World) (hm : 0 < m) (hm2 : m ≤ 9223372036854775807) (h1 : -9223372036854775807 ≤ n) (h2 : n ≤ 9223372036854775807) :
    Calls Try.prog 81 #[.int .i64 n, .int .i64 m] w fun e w' => e = .returned (.int .i64 (n / m)) ∧ w = w' := by
  have hd := hide (floor_spec (n := n) hm)
  have hb := tdiv_bd (n := n) hm 9223372036854775807 (by omega)
  have hb2 := ediv_bd (n := n) hm 9223372036854775807 (by omega)
  have hr1 := Int.lt_tmod_of_pos n hm
  have hr2 := Int.tmod_lt_of_pos n hm
  have hm0 : ¬ m = 0 := by omega
  generalize hq : n.tdiv m = q at *
  generalize hr : n.tmod m = r at *
  go_enter Try.func81, Try.ntmps81
  by_cases h : r < 0
  · have e : n / m = q - 1 := by rw [← hd.out, if_pos h]
    go_wp2
    go_ret
    exact ⟨by first | rfl | (rw [e]; rfl), rfl⟩
  · have e : n / m = q := by rw [← hd.out, if_neg h]
    go_wp2
    go_ret
    exact ⟨by first | rfl | (rw [e]; rfl), rfl⟩

theorem sign_any (n : Int) (w : World) :
    Calls Try.prog 76 #[.int .i64 n] w fun e w' => e = .returned (.int .i64 (sg n)) ∧ w = w' := by
  rcases (show n < 0 ∨ n = 0 ∨ 0 < n from by omega) with h | h | h
  · have e : sg n = -1 := by unfold sg; rw [if_pos h]
    go_enter Try.func76, Try.ntmps76
    go_wp2
    go_ret
    exact ⟨by first | rfl | (rw [e]; rfl), rfl⟩
  · subst h
    go_enter Try.func76, Try.ntmps76
    go_wp2
    go_ret
    exact ⟨rfl, rfl⟩
  · have e : sg n = 1 := by unfold sg; rw [if_neg (by omega), if_pos h]
    go_enter Try.func76, Try.ntmps76
    go_wp2
    go_ret
    exact ⟨by first | rfl | (rw [e]; rfl), rfl⟩

end Go.Proofs.Ytpganaeomiondaa
