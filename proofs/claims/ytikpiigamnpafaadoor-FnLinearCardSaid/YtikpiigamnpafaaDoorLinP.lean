/- Plain facts on linear equations in two numbers: the least solution and the steps to the next one. -/
import Derived.Test.YtikpiigamnpafaaDoorCf
namespace Go.Proofs.YtikpiigamnpafaaDoor

/-- The size of b, divided by the divisor that a and b have in common. -/
def lu (a b : Int) : Int := sz b / (Int.gcd a b : Nat)
def lx (a b c : Int) : Int := bzX a b * (c / (Int.gcd a b : Nat)) % lu a b
def ly (a b c : Int) : Int := (c - a * lx a b c) / b

theorem gcd_pos {a b : Int} (hb : b ≠ 0) : (0 : Int) < (Int.gcd a b : Nat) := by
  have := Int.gcd_pos_of_ne_zero_right a hb
  omega
theorem lu_mul (a b : Int) : lu a b * (Int.gcd a b : Nat) = sz b := by
  unfold lu
  refine Int.ediv_mul_cancel ?_
  rw [sz_nat]
  exact Int.natCast_dvd_natCast.2 (Int.gcd_dvd_natAbs_right ..)
theorem lu_pos {a b : Int} (hb : b ≠ 0) : 1 ≤ lu a b ∧ lu a b ≤ sz b := by
  have h := lu_mul a b
  have hg := gcd_pos (a := a) hb
  have hs : 1 ≤ sz b := by rw [sz_nat]; omega
  have h1 : 1 ≤ lu a b := by
    rcases Int.lt_or_le 0 (lu a b) with h1 | h1
    · omega
    · have : lu a b * (Int.gcd a b : Nat) ≤ 0 := Int.mul_nonpos_of_nonpos_of_nonneg h1 (by omega)
      omega
  refine ⟨h1, ?_⟩
  have : lu a b * 1 ≤ lu a b * (Int.gcd a b : Nat) := Int.mul_le_mul_of_nonneg_left (by omega) (by omega)
  omega
theorem lx_bd {a b : Int} (hb : b ≠ 0) (c : Int) : 0 ≤ lx a b c ∧ lx a b c < lu a b := by
  have := (lu_pos (a := a) hb).1
  exact ⟨Int.emod_nonneg _ (by omega), Int.emod_lt_of_pos _ (by omega)⟩

theorem sgsg (b : Int) : sz b * sg b = b := by
  unfold sg sz; split <;> (try split) <;> omega

theorem alu {a a' u g S : Int} (hu : u * g = S) (ha : a = g * a') : a * u = a' * S := by subst hu; subst ha; grind
theorem ly_main {a b c : Int} (hb : b ≠ 0) (hc : ((Int.gcd a b : Nat) : Int) ∣ c) : b * ly a b c = c - a * lx a b c := by
  obtain ⟨k, hk⟩ := hc
  have hg := gcd_pos (a := a) hb
  have hz := bz_main (a := a) hb
  have hu := lu_mul a b
  have e1 : c / (Int.gcd a b : Nat) = k := by rw [hk]; exact Int.mul_ediv_cancel_left _ (by omega)
  have e2 := Int.mul_ediv_add_emod (bzX a b * k) (lu a b)
  obtain ⟨a', ha⟩ : ((Int.gcd a b : Nat) : Int) ∣ a := Int.gcd_dvd_left ..
  have hd : b ∣ c - a * lx a b c := by
    unfold lx
    rw [e1]
    generalize (bzX a b * k) % lu a b = r at *
    generalize (bzX a b * k) / lu a b = m at *
    have hs := sgsg b
    refine ⟨bzY a b * k + a' * sg b * m, ?_⟩
    have h1 : c - a * r = c - a * bzX a b * k + a * lu a b * m := by rw [show r = bzX a b * k - lu a b * m by omega]; grind
    have h2 : a * bzX a b * k = c - b * bzY a b * k := by
      have : (a * bzX a b + b * bzY a b) * k = c := by rw [hz, hk]
      grind
    have h3 : a * lu a b = a' * sz b := alu hu ha
    have h4 : sz b = b * sg b := (sg_sz b).symm
    rw [h1, h2, h3, h4]
    grind
  unfold ly
  exact Int.mul_ediv_cancel' hd

/-- What the step of y is. -/
theorem lv_main {a b : Int} (hb : b ≠ 0) : -a * lu a b = b * (-(a / (Int.gcd a b : Nat)) * sg b) := by
  obtain ⟨a', ha⟩ : ((Int.gcd a b : Nat) : Int) ∣ a := Int.gcd_dvd_left ..
  have hg := gcd_pos (a := a) hb
  have e1 : a / (Int.gcd a b : Nat) = a' := Int.ediv_eq_of_eq_mul_right (by omega) ha
  rw [e1]
  have hu := lu_mul a b
  have h3 : a * lu a b = a' * sz b := alu hu ha
  have h4 : sz b = b * sg b := (sg_sz b).symm
  rw [h4] at h3
  grind

end Go.Proofs.YtikpiigamnpafaaDoor
