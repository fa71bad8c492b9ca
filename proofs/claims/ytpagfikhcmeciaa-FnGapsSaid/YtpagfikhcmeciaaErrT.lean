/- ErrorTimes: the program's and the reference's; fractions in lowest terms that may be too great. -/
import Derived.Test.YtpagfikhcmeciaaFracP
import Derived.Test.YtpagfikhcmeciaaNumD
import Derived.StillTailTactics
namespace Go.Proofs.Ytpagfikhcmeciaa
open Go.RowKit

/-- The fraction of two numbers in lowest terms, or none if it is too great. -/
def pln (a b : Int) : Value := if okF (a / (Int.gcd a b : Nat)) (b / (Int.gcd a b : Nat)) = true then .tuple #[.agg #[.int .i64 (a / (Int.gcd a b : Nat)), .int .i64 (b / (Int.gcd a b : Nat))], .int .i64 0] else .tuple #[.agg #[.int .i64 0, .int .i64 0], .int .i64 5]
theorem pln_form (a b : Int) : ∃ x y c : Int, pln a b = .tuple #[.agg #[.int .i64 x, .int .i64 y], .int .i64 c] := by
  unfold pln; split
  · exact ⟨_, _, _, rfl⟩
  · exact ⟨_, _, _, rfl⟩

set_option maxRecDepth 100000 in
theorem plainOfG_any (a b : Int) (w : World) (ha : -4000000000000000000 ≤ a ∧ a ≤ 4000000000000000000) (hb : 1 ≤ b ∧ b ≤ 1000000000000000000) :
    Calls Try.prog 50 #[.int .i64 a, .int .i64 b] w fun e w' => e = .returned (pln a b) ∧ Below w.heap.size w w' := by
  have hd := gcd_div (a := a) (b := b) (by omega)
  have hg0 := Int.gcd_pos_of_ne_zero_right a (show b ≠ 0 by omega)
  have q1 := ediv_bd (n := a) (m := (Int.gcd a b : Nat)) (by omega) 4000000000000000000 (by omega)
  have q2 := ediv_bd (n := b) (m := (Int.gcd a b : Nat)) (by omega) 4000000000000000000 (by omega)
  have hV := implValid_any (a / (Int.gcd a b : Nat)) (b / (Int.gcd a b : Nat))
  have hP : Hid (pln a b = if okF (a / (Int.gcd a b : Nat)) (b / (Int.gcd a b : Nat)) = true then .tuple #[.agg #[.int .i64 (a / (Int.gcd a b : Nat)), .int .i64 (b / (Int.gcd a b : Nat))], .int .i64 0] else .tuple #[.agg #[.int .i64 0, .int .i64 0], .int .i64 5]) := rfl
  have hG := implGcd_any a b
  generalize pln a b = R at *
  generalize hg : (Int.gcd a b : Nat) = g at *
  have hgn : ¬ (g : Int) = 0 := by omega
  obtain ⟨d1, d2⟩ := hd
  clear hg
  have s1 : IntKind.i64.wrap (a / g) = a / g := IntWalk.i64_in _ (by omega)
  have s2 : IntKind.i64.wrap (b / g) = b / g := IntWalk.i64_in _ (by omega)
  have n1 : ¬ b < 0 := by omega
  generalize okF (a / (g : Int)) (b / (g : Int)) = k at *
  go_enter Try.func50, Try.ntmps50
  go_wp2_with fail
  refine (hG _ (by omega) (by omega) (by omega) (by omega)).mono ?_
  rintro e w1 ⟨rfl, m, rfl⟩
  go_wp2_with fail
  go_region
  go_wp2_with fail
  refine (hV _).mono ?_
  rintro e w1 ⟨rfl, hb1⟩
  obtain ⟨c1, c2, c3, H1⟩ := (((Blk.new w 25 #[.int .i64 0, .int .i64 0]).drewN (m + 1)).alloc (.cells #[.int .i64 (a / g), .int .i64 (b / g)] 25)).after hb1 (by simp; omega)
  obtain ⟨k1, k2, k3, H2⟩ := (Blk.newAt (w := (w.alloc (.cells #[.int .i64 0, .int .i64 0] 25)).drewN (m + 1)) (g := w.heap.size + 1) (t := 25) (cs := #[.int .i64 (a / g), .int .i64 (b / g)]) (by simp)).after hb1 (by simp)
  have c4 := c1 0
  have c5 := c1 1
  have k4 := k1 0
  have k5 := k1 1
  have hB := bstep (show Below w.heap.size w _ from (belowN ((Below.refl w.heap.size w).alloc (Nat.le_refl _) _) (m + 1)).alloc (by simp) _) hb1 (by simp; omega)
  cases k
  · rw [if_neg (by simp)] at hP
    clear c1 k1
    go_wp2_with fail
    have z3 := H1.out.set2 (x := .int .i64 0) (y := .int .i64 0)
    obtain ⟨z4, _, _, _⟩ := z3.after (Below.refl _ _) z3.lt
    refine bodyPost_ret (v := .tuple #[.agg #[.int .i64 0, .int .i64 0], .int .i64 5]) (by simp [results, Try.results50, go_sem, z4]) rfl ⟨by rw [hP.out], (hB.setCell (Nat.le_refl _) _).setCell (Nat.le_refl _) _⟩
  · rw [if_pos rfl] at hP
    clear c1 k1
    go_wp2_with fail
    have z3 := H1.out.set2 (x := .int .i64 (a / g)) (y := .int .i64 (b / g))
    obtain ⟨z4, _, _, _⟩ := z3.after (Below.refl _ _) z3.lt
    refine bodyPost_ret (v := .tuple #[.agg #[.int .i64 (a / g), .int .i64 (b / g)], .int .i64 0]) (by simp [results, Try.results50, go_sem, z4]) rfl ⟨by rw [hP.out], (hB.setCell (Nat.le_refl _) _).setCell (Nat.le_refl _) _⟩

end Go.Proofs.Ytpagfikhcmeciaa
