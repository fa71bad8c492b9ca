/- Plain facts on quotients and rests as the program takes them. -/
import Derived.Test.YtpagfikhcmeciaaBase
namespace Go.Proofs.Ytpagfikhcmeciaa

/-- An exact quotient, as the program takes it. -/
theorem tdiv_exact {n b q : Int} (hb : b ≠ 0) (h : n = b * q) : n.tdiv b = q := by subst h; exact Int.mul_tdiv_cancel_left _ hb
theorem tmod_dvd {n b : Int} : n.tmod b = 0 ↔ b ∣ n := by
  constructor
  · exact Int.dvd_of_tmod_eq_zero
  · exact Int.tmod_eq_zero_of_dvd
theorem tdiv_ediv {n b : Int} (hb : b ≠ 0) (h : b ∣ n) : n.tdiv b = n / b := by
  obtain ⟨q, rfl⟩ := h
  rw [Int.mul_tdiv_cancel_left _ hb, Int.mul_ediv_cancel_left _ hb]
/-- The program's remainder that is not negative. -/
theorem mod_spec {n m : Int} (hm : 0 < m) : (n.tmod m + m).tmod m = n % m := by
  have h0 : 0 ≤ n.tmod m + m := by
    have := Int.lt_tmod_of_pos n hm
    omega
  rw [Int.tmod_eq_emod_of_nonneg h0, Int.add_emod_right, Int.emod_eq_emod_iff_emod_sub_eq_zero]
  rw [show n.tmod m - n = -(m * n.tdiv m) by have := Int.mul_tdiv_add_tmod n m; omega]
  simp
theorem tmod_nonpos {n m : Int} (hn : n ≤ 0) : n.tmod m ≤ 0 := by
  have h1 := Int.tmod_nonneg m (show 0 ≤ -n by omega)
  rw [Int.neg_tmod] at h1
  omega
theorem floor_impl {n m : Int} (hm : 0 < m) : (if n.tmod m ≠ 0 ∧ n < 0 then n.tdiv m - 1 else n.tdiv m) = n / m := by
  have h1 := Int.mul_tdiv_add_tmod n m
  have h2 := Int.mul_ediv_add_emod n m
  have h3 := Int.emod_nonneg n (show m ≠ 0 by omega)
  have h4 := Int.emod_lt_of_pos n hm
  have h5 := Int.lt_tmod_of_pos n hm
  have h6 := Int.tmod_lt_of_pos n hm
  rcases Int.lt_or_le n 0 with hn | hn
  · have h7 : n.tmod m ≤ 0 := tmod_nonpos (by omega)
    by_cases hz : n.tmod m = 0
    · rw [if_neg (by simp [hz])]
      have : m * n.tdiv m = n := by omega
      conv => rhs; rw [← this]
      rw [Int.mul_ediv_cancel_left _ (by omega)]
    · rw [if_pos ⟨hz, hn⟩]
      have e : n = m * (n.tdiv m - 1) + (n.tmod m + m) := by rw [Int.mul_sub]; omega
      conv => rhs; rw [e]
      rw [Int.mul_add_ediv_left _ _ (by omega), Int.ediv_eq_zero_of_lt (by omega) (by omega)]; omega
  · rw [if_neg (by omega), Int.tdiv_eq_ediv_of_nonneg hn]
theorem floor_spec {n m : Int} (hm : 0 < m) : (if n.tmod m < 0 then n.tdiv m - 1 else n.tdiv m) = n / m := by
  rw [← floor_impl hm]
  have h6 : 0 ≤ n → 0 ≤ n.tmod m := fun h => Int.tmod_nonneg _ h
  have h7 : n ≤ 0 → n.tmod m ≤ 0 := fun h => tmod_nonpos h
  by_cases h : n.tmod m < 0
  · rw [if_pos h, if_pos (by omega)]
  · rw [if_neg h, if_neg (by omega)]
theorem tdiv_bd {n m : Int} (hm : 0 < m) (B : Int) (h : -B ≤ n ∧ n ≤ B) : -B ≤ n.tdiv m ∧ n.tdiv m ≤ B := by
  rcases Int.le_total 0 n with hn | hn
  · have h1 := Int.tdiv_nonneg hn (show 0 ≤ m by omega)
    have h2 : n.tdiv m ≤ n := Int.tdiv_le_self _ hn
    omega
  · have h1 := Int.tdiv_nonneg (show 0 ≤ -n by omega) (show 0 ≤ m by omega)
    have h2 : (-n).tdiv m ≤ -n := Int.tdiv_le_self _ (by omega)
    rw [Int.neg_tdiv] at h1 h2
    omega
theorem ediv_bd {n m : Int} (hm : 0 < m) (B : Int) (h : -B ≤ n ∧ n ≤ B) : -B ≤ n / m ∧ n / m ≤ B := by
  constructor
  · refine Int.le_ediv_of_mul_le hm ?_
    have : -B * m ≤ -B * 1 ∨ B < 0 := by
      rcases Int.lt_or_le B 0 with hB | hB
      · exact .inr hB
      · exact .inl (Int.mul_le_mul_of_nonpos_left (by omega) (by omega))
    omega
  · have : n / m < B + 1 := by
      refine Int.ediv_lt_of_lt_mul hm ?_
      have : (B + 1) * 1 ≤ (B + 1) * m := Int.mul_le_mul_of_nonneg_left (by omega) (by omega)
      omega
    omega

end Go.Proofs.Ytpagfikhcmeciaa
