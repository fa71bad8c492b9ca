/- Plain facts on the least solution: bounds of all that is reckoned. -/
import Derived.Test.YtikpiigamnpafaaDoorLinP
import Derived.Test.YtikpiigamnpafaaDoorDiv
namespace Go.Proofs.YtikpiigamnpafaaDoor

theorem mulb {x y : Int} {A B : Nat} (hx : -(A : Int) ≤ x ∧ x ≤ A) (hy : -(B : Int) ≤ y ∧ y ≤ B) : -((A * B : Nat) : Int) ≤ x * y ∧ x * y ≤ ((A * B : Nat) : Int) := by
  have h1 : x.natAbs ≤ A := by omega
  have h2 : y.natAbs ≤ B := by omega
  have h3 := Nat.mul_le_mul h1 h2
  rw [← Int.natAbs_mul] at h3
  omega

/-- The step of y. -/
def lv (a b : Int) : Int := -(a / (Int.gcd a b : Nat)) * sg b

theorem sg_bd (a : Int) : -1 ≤ sg a ∧ sg a ≤ 1 := by unfold sg; split <;> (try split) <;> omega

theorem bzX_bd {a b : Int} (ha : a ≠ 0) (hb : -1000000000 ≤ b ∧ b ≤ 1000000000) : -1000000000 ≤ bzX a b ∧ bzX a b ≤ 1000000000 := by
  have h := bzC_bd (b := b) ha
  have hs := sg_bd a
  have hb' := sz_nat b
  have h1 := mulb (x := (bzC a b).q) (y := sg a) (A := 1000000000) (B := 1) (by omega) (by omega)
  have h2 := mulb (x := -(bzC a b).q) (y := sg a) (A := 1000000000) (B := 1) (by omega) (by omega)
  unfold bzX
  split <;> omega

theorem sol_facts {a b c : Int} (ha0 : a ≠ 0) (ha : -1000000 ≤ a ∧ a ≤ 1000000) (hb0 : b ≠ 0) (hb : -1000000 ≤ b ∧ b ≤ 1000000) (hc : -4000000000 ≤ c ∧ c ≤ 4000000000) (hd : ((Int.gcd a b : Nat) : Int) ∣ c) :
    c.tmod (Int.gcd a b : Nat) = 0 ∧ c.tdiv (Int.gcd a b : Nat) = c / (Int.gcd a b : Nat) ∧ (-4000000000 ≤ c / (Int.gcd a b : Nat) ∧ c / (Int.gcd a b : Nat) ≤ 4000000000) ∧
    (sz b).tdiv (Int.gcd a b : Nat) = lu a b ∧ (1 ≤ lu a b ∧ lu a b ≤ 1000000) ∧
    (-4000000000000000000 ≤ bzX a b * (c / (Int.gcd a b : Nat)) ∧ bzX a b * (c / (Int.gcd a b : Nat)) ≤ 4000000000000000000) ∧
    bzX a b * (c / (Int.gcd a b : Nat)) % lu a b = lx a b c ∧ (0 ≤ lx a b c ∧ lx a b c < lu a b) ∧ (-1000000000000 ≤ a * lx a b c ∧ a * lx a b c ≤ 1000000000000) ∧
    (c - a * lx a b c).tdiv b = ly a b c ∧ (-1004000000000 ≤ ly a b c ∧ ly a b c ≤ 1004000000000) ∧
    (-1000000000000 ≤ -a * lu a b ∧ -a * lu a b ≤ 1000000000000) ∧ (-a * lu a b).tdiv b = lv a b ∧ (-1000000 ≤ lv a b ∧ lv a b ≤ 1000000) := by
  have hg := gcd_pos (a := a) hb0
  have hu := lu_pos (a := a) hb0
  have hsb := sz_nat b
  have hX := lx_bd (a := a) hb0 c
  have hY := ly_main (a := a) hb0 hd
  have hV := lv_main (a := a) hb0
  have hz := bzX_bd (b := b) ha0 (by omega)
  have hk := ediv_bd (n := c) (m := (Int.gcd a b : Nat)) hg 4000000000 hc
  have hag := ediv_bd (n := a) (m := (Int.gcd a b : Nat)) hg 1000000 ha
  have p1 := mulb (x := bzX a b) (y := c / (Int.gcd a b : Nat)) (A := 1000000000) (B := 4000000000) (by omega) (by omega)
  have p2 := mulb (x := a) (y := lx a b c) (A := 1000000) (B := 1000000) (by omega) (by omega)
  have p3 := mulb (x := -a) (y := lu a b) (A := 1000000) (B := 1000000) (by omega) (by omega)
  have hs := sg_bd b
  have p4 := mulb (x := -(a / (Int.gcd a b : Nat))) (y := sg b) (A := 1000000) (B := 1) (by omega) (by omega)
  have e1 := tdiv_exact hb0 hY.symm
  have e2 : (sz b).tdiv (Int.gcd a b : Nat) = lu a b := Int.tdiv_eq_ediv_of_nonneg (by omega)
  have hyb : -1004000000000 ≤ ly a b c ∧ ly a b c ≤ 1004000000000 := by
    have h1 : (b * ly a b c).natAbs = b.natAbs * (ly a b c).natAbs := Int.natAbs_mul ..
    rw [hY] at h1
    have h2 : 1 * (ly a b c).natAbs ≤ b.natAbs * (ly a b c).natAbs := Nat.mul_le_mul_right _ (by omega)
    omega
  refine ⟨tmod_dvd.2 hd, tdiv_ediv (by omega) hd, hk, e2, ⟨hu.1, by omega⟩, by omega, rfl, hX, by omega, e1, hyb, by omega, tdiv_exact hb0 hV, p4⟩

/-- The count of the solutions that are not negative. -/
def lcnt (a b c : Int) : Int := if ((Int.gcd a b : Nat) : Int) ∣ c ∧ 0 ≤ ly a b c then ly a b c / (a / (Int.gcd a b : Nat)) + 1 else 0

theorem lxspec {a b c : Int} : (bzX a b % lu a b) * ((c / (Int.gcd a b : Nat)) % lu a b) % lu a b = lx a b c := by
  unfold lx; rw [← Int.mul_emod]


theorem nat_facts {a b c : Int} (ha : 1 ≤ a ∧ a ≤ 1000000) (hb : 1 ≤ b ∧ b ≤ 1000000) (hd : ((Int.gcd a b : Nat) : Int) ∣ c) :
    lv a b = -(a / (Int.gcd a b : Nat)) ∧ (1 ≤ a / (Int.gcd a b : Nat) ∧ a / (Int.gcd a b : Nat) ≤ 1000000) ∧ b / (Int.gcd a b : Nat) = lu a b ∧ b.tdiv (Int.gcd a b : Nat) = lu a b ∧
    a * lu a b = a / (Int.gcd a b : Nat) * b ∧ (0 < a * lu a b ∧ a * lu a b ≤ 1000000000000) ∧ (c < a * lx a b c ↔ ly a b c < 0) ∧
    (0 ≤ ly a b c → (c - a * lx a b c).tdiv (a * lu a b) = ly a b c / (a / (Int.gcd a b : Nat)) ∧ (ly a b c).tdiv (a / (Int.gcd a b : Nat)) = ly a b c / (a / (Int.gcd a b : Nat))) := by
  have hb0 : b ≠ 0 := by omega
  have hg := gcd_pos (a := a) hb0
  have hu := lu_mul a b
  have hu1 := (lu_pos (a := a) hb0).1
  have hsb : sz b = b := by unfold sz; rw [if_neg (by omega)]
  have hsg : sg b = 1 := by unfold sg; rw [if_neg (by omega), if_pos (by omega)]
  obtain ⟨a', hA⟩ : ((Int.gcd a b : Nat) : Int) ∣ a := Int.gcd_dvd_left ..
  have eA : a / (Int.gcd a b : Nat) = a' := Int.ediv_eq_of_eq_mul_right (by omega) hA
  have hY := ly_main (a := a) hb0 hd
  have eU : b / (Int.gcd a b : Nat) = lu a b := by unfold lu; rw [hsb]
  have hP : a * lu a b = a' * b := (alu hu hA).trans (by rw [hsb])
  have h1 : 1 ≤ a' := by
    rcases Int.lt_or_le 0 a' with h | h
    · omega
    · have : ((Int.gcd a b : Nat) : Int) * a' ≤ 0 := Int.mul_nonpos_of_nonneg_of_nonpos (by omega) h
      omega
  have h2 : a' ≤ a := by
    have : 1 * a' ≤ ((Int.gcd a b : Nat) : Int) * a' := Int.mul_le_mul_of_nonneg_right (by omega) (by omega)
    omega
  have hpb := mulb (x := a') (y := b) (A := 1000000) (B := 1000000) (by omega) (by omega)
  have hpp : 0 < a' * b := Int.mul_pos (by omega) (by omega)
  have hv : lv a b = -a' := by unfold lv; rw [eA, hsg]; omega
  rw [eA]
  refine ⟨hv, ⟨h1, by omega⟩, eU, ?_, hP, by omega, ?_, fun h0 => ⟨?_, Int.tdiv_eq_ediv_of_nonneg h0⟩⟩
  · rw [← eU]; exact Int.tdiv_eq_ediv_of_nonneg (by omega)
  · constructor
    · intro h
      rcases Int.lt_or_le (ly a b c) 0 with h3 | h3
      · exact h3
      · have := Int.mul_nonneg (show 0 ≤ b by omega) h3
        omega
    · intro h
      have : b * ly a b c < 0 := Int.mul_neg_of_pos_of_neg (by omega) h
      omega
  · rw [hP, ← hY, Int.tdiv_eq_ediv_of_nonneg (Int.mul_nonneg (by omega) h0), Int.mul_comm a' b, Int.mul_ediv_mul_of_pos _ _ (by omega)]

theorem cnt_bd {y k : Int} (hy : 0 ≤ y ∧ y ≤ 1004000000000) (hk : 1 ≤ k) : 0 ≤ y / k ∧ y / k ≤ 1004000000000 :=
  ⟨Int.ediv_nonneg hy.1 (by omega), Int.le_trans (Int.ediv_le_self _ hy.1) hy.2⟩

end Go.Proofs.YtikpiigamnpafaaDoor
