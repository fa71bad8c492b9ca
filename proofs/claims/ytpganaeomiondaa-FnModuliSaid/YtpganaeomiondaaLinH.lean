/- What solutions modulo a number and joined rests are good for: they solve their equations; the greatest missing number is missing. -/
import Derived.Test.YtpganaeomiondaaLin7
namespace Go.Proofs.Ytpganaeomiondaa

theorem sm_solves {a c m : Int} (hm : 1 ≤ m) (h : smc a c m = 0) : m ∣ a % m * smx a c m - c ∧ 0 ≤ smx a c m ∧ smx a c m < smu a c m := by
  rcases sm_ways a c m with ⟨-, w2, -, e1, e2, -⟩ | ⟨-, -, -, -, -, e3⟩ | ⟨w1, w2, -, e1, e2, -⟩ | ⟨-, -, -, -, -, e3⟩
  · rw [e1, e2, Int.mul_zero, Int.zero_sub]
    exact ⟨Int.dvd_neg.2 w2, by omega, by omega⟩
  · omega
  · have hb := lx_bd (a := a % m) (b := m) (by omega) c
    rw [e1, e2]
    refine ⟨⟨-ly (a % m) m c, ?_⟩, hb⟩
    have := ly_main (a := a % m) (b := m) (c := c) (by omega) w2
    rw [Int.mul_neg, this]; omega
  · omega

theorem sm_tmod {a x c m : Int} (h : m ∣ a % m * x - c) : (a.tmod m * x - c).tmod m = 0 := by
  rw [tmod_dvd]
  have e1 := Int.mul_ediv_add_emod a m
  have e2 := Int.mul_tdiv_add_tmod a m
  have : a.tmod m * x - c = (a % m * x - c) + m * ((a / m - a.tdiv m) * x) := by
    have e3 : a.tmod m = a % m + m * (a / m - a.tdiv m) := by rw [Int.mul_sub]; omega
    rw [e3]
    generalize a % m = p
    generalize a / m - a.tdiv m = q
    grind
  rw [this]
  exact (dvd_addmul (Int.dvd_refl m)).2 h

theorem join_solves {r m s n : Int} (hm : 1 ≤ m) (hn : 1 ≤ n) (h : smc m (s - r % m) n = 0) :
    m ∣ (r % m + m * smx m (s - r % m) n) % (m * smu m (s - r % m) n) - r ∧ n ∣ (r % m + m * smx m (s - r % m) n) % (m * smu m (s - r % m) n) - s ∧
    0 ≤ (r % m + m * smx m (s - r % m) n) % (m * smu m (s - r % m) n) ∧ (r % m + m * smx m (s - r % m) n) % (m * smu m (s - r % m) n) < m * smu m (s - r % m) n := by
  obtain ⟨d1, d2, d3⟩ := sm_solves hn h
  obtain ⟨-, -, -, j4⟩ := join_spec (r := r) (m := m) (s := s) hn
  have hk := j4 h
  have hpos : 0 < m * smu m (s - r % m) n := Int.mul_pos (by omega) (by omega)
  refine ⟨?_, ?_, Int.emod_nonneg _ (by omega), Int.emod_lt_of_pos _ hpos⟩
  · have e1 := Int.mul_ediv_add_emod r m
    have e2 := Int.mul_ediv_add_emod (r % m + m * smx m (s - r % m) n) (m * smu m (s - r % m) n)
    generalize (r % m + m * smx m (s - r % m) n) / (m * smu m (s - r % m) n) = q at *
    generalize (r % m + m * smx m (s - r % m) n) % (m * smu m (s - r % m) n) = z at *
    refine ⟨smx m (s - r % m) n - r / m - smu m (s - r % m) n * q, ?_⟩
    rw [Int.mul_sub, Int.mul_sub, ← Int.mul_assoc]; omega
  · have e1 := Int.mul_ediv_add_emod m n
    have e2 := Int.mul_ediv_add_emod (r % m + m * smx m (s - r % m) n) (m * smu m (s - r % m) n)
    rw [← hk] at e2 ⊢
    obtain ⟨t, ht⟩ := d1
    generalize (r % m + m * smx m (s - r % m) n) / (m / (Int.gcd m n : Nat) * n) = q at *
    generalize (r % m + m * smx m (s - r % m) n) % (m / (Int.gcd m n : Nat) * n) = z at *
    generalize smx m (s - r % m) n = X at *
    generalize m / (Int.gcd m n : Nat) = M at *
    refine ⟨m / n * X + t - M * q, ?_⟩
    have e3 : m * X = n * (m / n * X) + m % n * X := by
      have : (n * (m / n) + m % n) * X = m * X := by rw [e1]
      rw [← this, Int.add_mul, Int.mul_assoc]
    have e4 : M * n * q = n * (M * q) := by rw [Int.mul_comm M n, Int.mul_assoc]
    rw [Int.mul_sub, Int.mul_add]
    omega

theorem alg3 {d e X t p q : Int} (h1 : d * X = e * t) (h2 : d * p + e * q = (1 : Nat)) : X = e * (p * t + q * X) := by
  have h3 : X = X * (d * p + e * q) := by rw [h2]; simp
  grind

/-- The greatest number without a solution has none; the next one has. -/
theorem frob {d e : Int} (hd : 2 ≤ d) (he : 2 ≤ e) (hg : Int.gcd d e = 1) : ly d e (d * e - d - e) < 0 ∧ 0 ≤ ly d e (d * e - d - e + 1) := by
  have h1 : ∀ c : Int, ((Int.gcd d e : Nat) : Int) ∣ c := fun c => by rw [hg]; exact ⟨c, by simp⟩
  have hu : lu d e = e := by
    have := lu_mul d e
    rw [hg] at this
    have hs : sz e = e := by unfold sz; rw [if_neg (by omega)]
    rw [hs] at this; simpa using this
  constructor
  · have hm := ly_main (a := d) (b := e) (by omega) (h1 (d * e - d - e))
    have hx := lx_bd (a := d) (b := e) (by omega) (d * e - d - e)
    rw [hu] at hx
    generalize lx d e (d * e - d - e) = X at *
    generalize ly d e (d * e - d - e) = Y at *
    rcases Int.lt_or_le Y 0 with h | h
    · exact h
    · have hdv : e ∣ d * (X + 1) := ⟨d - 1 - Y, by rw [Int.mul_sub, Int.mul_sub, Int.mul_add, Int.mul_comm e d]; omega⟩
      have hc : e ∣ X + 1 := by
        obtain ⟨t, ht⟩ := hdv
        have hz := bz_main (a := d) (b := e) (by omega)
        rw [hg] at hz
        exact ⟨_, alg3 ht hz⟩
      have := Int.le_of_dvd (by omega) hc
      have e1 : X = e - 1 := by omega
      rw [e1, Int.mul_sub] at hm
      have : 0 ≤ e * Y := Int.mul_nonneg (by omega) h
      omega
  · have hm := ly_main (a := d) (b := e) (by omega) (h1 (d * e - d - e + 1))
    have hx := lx_bd (a := d) (b := e) (by omega) (d * e - d - e + 1)
    rw [hu] at hx
    generalize lx d e (d * e - d - e + 1) = X at *
    generalize ly d e (d * e - d - e + 1) = Y at *
    rcases Int.lt_or_le Y 0 with h | h
    · have h2 : d * X ≤ d * (e - 1) := Int.mul_le_mul_of_nonneg_left (by omega) (by omega)
      have h3 : e * Y ≤ e * (-1) := Int.mul_le_mul_of_nonneg_left (by omega) (by omega)
      rw [Int.mul_sub] at h2
      omega
    · exact h

end Go.Proofs.Ytpganaeomiondaa
