/- The plain fraction of two numbers in the program. -/
import Derived.Test.YtpagfikhcmeciaaFrac
import Derived.Test.YtpagfikhcmeciaaMake
namespace Go.Proofs.Ytpagfikhcmeciaa
open Go.RowKit

/-- The plain fraction of two numbers. -/
theorem gcd_quot {a b : Int} (hb : b ≠ 0) : Int.gcd (a / (Int.gcd a b : Nat)) (b / (Int.gcd a b : Nat)) = 1 := by
  have hg0 := Int.gcd_pos_of_ne_zero_right a hb
  exact Int.gcd_ediv_gcd_ediv_gcd hg0

theorem quot_bd {x g : Int} (hg : 0 < g) {M : Int} (h : -M ≤ x ∧ x ≤ M) (hd : g ∣ x) : -M ≤ x / g ∧ x / g ≤ M := by
  obtain ⟨k, rfl⟩ := hd
  rw [Int.mul_ediv_cancel_left _ (by omega)]
  by_cases hk : 0 ≤ k
  · have : 1 * k ≤ g * k := Int.mul_le_mul_of_nonneg_right (by omega) hk
    omega
  · have : 1 * (-k) ≤ g * (-k) := Int.mul_le_mul_of_nonneg_right (by omega) (by omega)
    have e : g * (-k) = -(g * k) := Int.mul_neg ..
    omega

theorem okF_quot {a b : Int} (ha : -1000000000 ≤ a ∧ a ≤ 1000000000) (hb : 1 ≤ b ∧ b ≤ 1000000000) : okF (a / (Int.gcd a b : Nat)) (b / (Int.gcd a b : Nat)) = true := by
  have hg0 := Int.gcd_pos_of_ne_zero_right a (show b ≠ 0 by omega)
  have h1 := quot_bd (M := 1000000000) (show (0 : Int) < (Int.gcd a b : Nat) by omega) ha (Int.gcd_dvd_left ..)
  have h2 := quot_bd (M := 1000000000) (show (0 : Int) < (Int.gcd a b : Nat) by omega) (x := b) (by omega) (Int.gcd_dvd_right ..)
  have h3 : 0 < b / (Int.gcd a b : Nat) := Int.ediv_pos_of_pos_of_dvd (by omega) (by omega) (Int.gcd_dvd_right ..)
  exact okF_iff.2 ⟨⟨by omega, by omega⟩, h1, gcd_quot (by omega)⟩

theorem plainOf_any (a b : Int) (w : World) (ha : -1000000000 ≤ a ∧ a ≤ 1000000000) (hb : 1 ≤ b ∧ b ≤ 1000000000) :
    Calls Try.prog 50 #[.int .i64 a, .int .i64 b] w fun e w' => e = .returned (.tuple #[.agg #[.int .i64 (a / (Int.gcd a b : Nat)), .int .i64 (b / (Int.gcd a b : Nat))], .int .i64 0]) ∧ Below w.heap.size w w' := by
  have hd := gcd_div (a := a) (b := b) (by omega)
  have hg0 := Int.gcd_pos_of_ne_zero_right a (show b ≠ 0 by omega)
  have q1 := ediv_bd (n := a) (m := (Int.gcd a b : Nat)) (by omega) 1000000000 (by omega)
  have q2 := ediv_bd (n := b) (m := (Int.gcd a b : Nat)) (by omega) 1000000000 (by omega)
  have hV := implValid_any (a / (Int.gcd a b : Nat)) (b / (Int.gcd a b : Nat))
  rw [okF_quot ha hb] at hV
  have hG := implGcd_any a b
  generalize hg : (Int.gcd a b : Nat) = g at *
  have hgn : ¬ (g : Int) = 0 := by omega
  obtain ⟨d1, d2⟩ := hd
  clear hg
  have s1 : IntKind.i64.wrap (a / g) = a / g := IntWalk.i64_in _ (by omega)
  have s2 : IntKind.i64.wrap (b / g) = b / g := IntWalk.i64_in _ (by omega)
  have n1 : ¬ b < 0 := by omega
  go_enter Try.func50, Try.ntmps50
  go_wp2_with fail
  refine (hG _ (by omega) (by omega) (by omega) (by omega)).mono ?_
  rintro e w1 ⟨rfl, m, rfl⟩
  go_wp2_with fail
  go_region
  go_wp2_with fail
  refine (hV _).mono ?_
  rintro e w1 ⟨rfl, hb1⟩
  obtain ⟨c1, c2, c3, H1⟩ := (((Blk.new w 25 #[.int .i64 0, .int .i64 0]).drewN (m + 1)).alloc (.cells #[.int .i64 (a / g), .int .i64 (b / g)] 25)).after hb1 (by simp; omega)
  obtain ⟨k1, k2, k3, H2⟩ := (Blk.newAt (w := (w.alloc (.cells #[.int .i64 0, .int .i64 0] 25)).drewN (m + 1)) (g := w.heap.size + 1) (t := 25) (cs := #[.int .i64 (a / g), .int .i64 (b / g)]) (by simp)).after hb1 (by simp)
  have c4 := c1 0
  have c5 := c1 1
  have k4 := k1 0
  have k5 := k1 1
  have hB := bstep (show Below w.heap.size w _ from (belowN ((Below.refl w.heap.size w).alloc (Nat.le_refl _) _) (m + 1)).alloc (by simp) _) hb1 (by simp; omega)
  go_wp2_with fail
  have z3 := H1.out.set2 (x := .int .i64 (a / g)) (y := .int .i64 (b / g))
  obtain ⟨z4, _, _, _⟩ := z3.after (Below.refl _ _) z3.lt
  refine bodyPost_ret (v := .tuple #[.agg #[.int .i64 (a / g), .int .i64 (b / g)], .int .i64 0]) (by simp [results, Try.results50, go_sem, z4]) rfl ⟨rfl, ?_⟩
  exact (hB.setCell (Nat.le_refl _) _).setCell (Nat.le_refl _) _

end Go.Proofs.Ytpagfikhcmeciaa
