/- Plain facts on solutions modulo a number: they depend on the rest alone. -/
import Derived.Test.YtpganaeomiondaaLinF
namespace Go.Proofs.Ytpganaeomiondaa

theorem dvd_addmul {g c b q : Int} (hb : g ∣ b) : g ∣ c + b * q ↔ g ∣ c := by
  constructor
  · intro h
    have := Int.dvd_sub h (Int.dvd_trans hb (Int.dvd_mul_right b q))
    rwa [Int.add_sub_cancel] at this
  · intro h
    exact Int.dvd_add h (Int.dvd_trans hb (Int.dvd_mul_right b q))

theorem dvd_emod' {g c b : Int} (hb : g ∣ b) : g ∣ c % b ↔ g ∣ c := by
  have := dvd_addmul (g := g) (c := c % b) (b := b) (q := c / b) hb
  rw [Int.add_comm, Int.mul_ediv_add_emod] at this
  exact this.symm

/-- The two numbers, divided by what they have in common. -/
theorem parts {a b : Int} (hb : b ≠ 0) : ∃ a' b' : Int, a = (Int.gcd a b : Nat) * a' ∧ b = (Int.gcd a b : Nat) * b' ∧ a' * bzX a b + b' * bzY a b = 1 ∧ lu a b = b' * sg b := by
  have hg := gcd_pos (a := a) hb
  obtain ⟨a', hA⟩ : ((Int.gcd a b : Nat) : Int) ∣ a := Int.gcd_dvd_left ..
  obtain ⟨b', hB⟩ : ((Int.gcd a b : Nat) : Int) ∣ b := Int.gcd_dvd_right ..
  refine ⟨a', b', hA, hB, ?_, ?_⟩
  · have hz := bz_main (a := a) hb
    have : ((Int.gcd a b : Nat) : Int) * (a' * bzX a b + b' * bzY a b) = (Int.gcd a b : Nat) * 1 := by
      rw [Int.mul_one]
      have e : ((Int.gcd a b : Nat) : Int) * (a' * bzX a b + b' * bzY a b) = (Int.gcd a b : Nat) * a' * bzX a b + (Int.gcd a b : Nat) * b' * bzY a b := by grind
      rw [e, ← hA, ← hB, hz]
    exact Int.eq_of_mul_eq_mul_left (by omega) this
  · unfold lu
    refine Int.ediv_eq_of_eq_mul_right (by omega) ?_
    rw [← sg_sz b]
    rw [← Int.mul_assoc, ← hB]

theorem lx_per {a b c : Int} (q : Int) (hb : b ≠ 0) (hd : ((Int.gcd a b : Nat) : Int) ∣ c) : lx a b (c + b * q) = lx a b c := by
  have hg := gcd_pos (a := a) hb
  obtain ⟨a', b', hA, hB, h1, hu⟩ := parts (a := a) hb
  obtain ⟨c', hc⟩ := hd
  unfold lx
  have e1 : c / (Int.gcd a b : Nat) = c' := Int.ediv_eq_of_eq_mul_right (by omega) hc
  have e2 : (c + b * q) / (Int.gcd a b : Nat) = c' + b' * q := by
    refine Int.ediv_eq_of_eq_mul_right (by omega) ?_
    have : b * q = (Int.gcd a b : Nat) * b' * q := by rw [← hB]
    rw [this, Int.mul_add]
    conv => lhs; rw [hc]
    rw [Int.mul_assoc]
  rw [e1, e2, Int.mul_add]
  have e3 : bzX a b * (b' * q) = lu a b * (bzX a b * q * sg b) := by
    have hs : sg b * sg b = 1 := by unfold sg; split <;> (try split) <;> omega
    rw [hu]; grind
  rw [e3, Int.add_mul_emod_self_left]

theorem alg1 {X c' a' j U x1 x2 S Y : Int} (h1 : a' * X + U * S * Y = 1) : X * (c' + a' * j) - U * x1 - (X * c' - U * x2) - j = U * (x2 - x1 - S * Y * j) := by
  have : a' * X * j + U * S * Y * j = j := by rw [← Int.add_mul, h1, Int.one_mul]
  grind
theorem lx_shift {a b c : Int} (j : Int) (hb : b ≠ 0) (hd : ((Int.gcd a b : Nat) : Int) ∣ c) : lu a b ∣ lx a b (c + a * j) - lx a b c - j := by
  have hg := gcd_pos (a := a) hb
  obtain ⟨a', b', hA, hB, h1, hu⟩ := parts (a := a) hb
  obtain ⟨c', hc⟩ := hd
  unfold lx
  have e1 : c / (Int.gcd a b : Nat) = c' := Int.ediv_eq_of_eq_mul_right (by omega) hc
  have e2 : (c + a * j) / (Int.gcd a b : Nat) = c' + a' * j := by
    refine Int.ediv_eq_of_eq_mul_right (by omega) ?_
    have : a * j = (Int.gcd a b : Nat) * a' * j := by rw [← hA]
    rw [this, Int.mul_add]
    conv => lhs; rw [hc]
    rw [Int.mul_assoc]
  rw [e1, e2]
  have m1 := Int.mul_ediv_add_emod (bzX a b * (c' + a' * j)) (lu a b)
  have m2 := Int.mul_ediv_add_emod (bzX a b * c') (lu a b)
  have hs : sg b * sg b = 1 := by unfold sg; split <;> (try split) <;> omega
  have e3 : b' = lu a b * sg b := by rw [hu, Int.mul_assoc, hs, Int.mul_one]
  refine ⟨(bzX a b * c') / lu a b - (bzX a b * (c' + a' * j)) / lu a b - sg b * bzY a b * j, ?_⟩
  rw [show bzX a b * (c' + a' * j) % lu a b = bzX a b * (c' + a' * j) - lu a b * (bzX a b * (c' + a' * j) / lu a b) by omega]
  rw [show bzX a b * c' % lu a b = bzX a b * c' - lu a b * (bzX a b * c' / lu a b) by omega]
  generalize (bzX a b * (c' + a' * j)) / lu a b = x1
  generalize (bzX a b * c') / lu a b = x2
  rw [e3] at h1
  exact alg1 h1

theorem lu_one {a b : Int} (hb : 0 < b) (h : ((Int.gcd a b : Nat) : Int) ∣ 1) : lu a b = b := by
  have hg := gcd_pos (a := a) (show b ≠ 0 by omega)
  have : ((Int.gcd a b : Nat) : Int) = 1 := by
    have := Int.le_of_dvd (by omega) h
    omega
  unfold lu
  rw [this, Int.ediv_one]
  unfold sz; rw [if_neg (by omega)]

theorem gcd_emod' (m n : Int) : Int.gcd (m % n) n = Int.gcd m n := by
  apply Nat.dvd_antisymm
  · have h1 : ((Int.gcd (m % n) n : Nat) : Int) ∣ m % n := Int.gcd_dvd_left ..
    have h2 : ((Int.gcd (m % n) n : Nat) : Int) ∣ n := Int.gcd_dvd_right ..
    exact Int.dvd_gcd ((dvd_emod' h2).1 h1) h2
  · have h1 : ((Int.gcd m n : Nat) : Int) ∣ m := Int.gcd_dvd_left ..
    have h2 : ((Int.gcd m n : Nat) : Int) ∣ n := Int.gcd_dvd_right ..
    exact Int.dvd_gcd ((dvd_emod' h2).2 h1) h2

theorem alg2 {m m' g U n : Int} (hM : m = g * m') (q : U * g = n) : m' * n = m * U := by subst hM; subst q; grind

/-- The number that two rests have: what the program reckons is what the reference reckons. -/
theorem join_eq {r m s n : Int} (hn : 0 < n) :
    (((Int.gcd (m % n) n : Nat) : Int) ∣ s - r % m ↔ ((Int.gcd (m % n) n : Nat) : Int) ∣ (s - r) % n) ∧
    (((Int.gcd (m % n) n : Nat) : Int) ∣ s - r % m → (r % m + m * lx (m % n) n (s - r % m)) % (m * lu (m % n) n) = (r + m * lx (m % n) n ((s - r) % n)) % (m * lu (m % n) n)) ∧
    m / (Int.gcd m n : Nat) * n = m * lu (m % n) n := by
  have hnn : n ≠ 0 := by omega
  have g1 : ((Int.gcd (m % n) n : Nat) : Int) ∣ n := Int.gcd_dvd_right ..
  have g2 : ((Int.gcd (m % n) n : Nat) : Int) ∣ m := by rw [gcd_emod']; exact Int.gcd_dvd_left ..
  have em := Int.mul_ediv_add_emod r m
  have en := Int.mul_ediv_add_emod m n
  have es := Int.mul_ediv_add_emod (s - r) n
  have e1 : s - r % m = (s - r) + m * (r / m) := by omega
  have d1 : ((Int.gcd (m % n) n : Nat) : Int) ∣ s - r % m ↔ ((Int.gcd (m % n) n : Nat) : Int) ∣ (s - r) := by rw [e1]; exact dvd_addmul g2
  refine ⟨d1.trans (dvd_emod' g1).symm, fun h => ?_, ?_⟩
  · have h' := d1.1 h
    have e2 : lx (m % n) n ((s - r) % n) = lx (m % n) n (s - r) := by
      have := lx_per (a := m % n) (b := n) (c := (s - r) % n) ((s - r) / n) hnn ((dvd_emod' g1).2 h')
      rw [← this]; congr 1; omega
    have e3 : lx (m % n) n (s - r % m) = lx (m % n) n ((s - r) + m % n * (r / m)) := by
      have hd : ((Int.gcd (m % n) n : Nat) : Int) ∣ (s - r) + m % n * (r / m) := (dvd_addmul (Int.gcd_dvd_left ..)).2 h'
      have := lx_per (a := m % n) (b := n) (c := (s - r) + m % n * (r / m)) (m / n * (r / m)) hnn hd
      rw [← this]; congr 1
      rw [e1]
      have : m * (r / m) = (n * (m / n) + m % n) * (r / m) := by rw [en]
      rw [this]; grind
    obtain ⟨t, ht⟩ := lx_shift (a := m % n) (b := n) (c := s - r) (r / m) hnn h'
    rw [e2, e3]
    rw [Int.emod_eq_emod_iff_emod_sub_eq_zero]
    refine Int.emod_eq_zero_of_dvd ⟨t, ?_⟩
    have e4 : r % m - r = -(m * (r / m)) := by omega
    have e5 : lx (m % n) n (s - r + m % n * (r / m)) = lx (m % n) n (s - r) + r / m + lu (m % n) n * t := by omega
    rw [e5]
    have : r % m + m * (lx (m % n) n (s - r) + r / m + lu (m % n) n * t) - (r + m * lx (m % n) n (s - r)) = (r % m - r) + m * (r / m) + m * (lu (m % n) n * t) := by grind
    rw [this, e4, Int.mul_assoc]; omega
  · have hg := gcd_pos (a := m) hnn
    obtain ⟨m', hM⟩ : ((Int.gcd m n : Nat) : Int) ∣ m := Int.gcd_dvd_left ..
    have q1 : m / (Int.gcd m n : Nat) = m' := Int.ediv_eq_of_eq_mul_right (by omega) hM
    have q2 : lu (m % n) n * (Int.gcd m n : Nat) = n := by
      have := lu_mul (m % n) n
      rw [gcd_emod'] at this
      rw [this]; unfold sz; rw [if_neg (by omega)]
    rw [q1]
    exact alg2 hM q2

theorem join_zero {r m s n : Int} (hn : 0 < n) (h0 : m % n = 0) :
    (n ∣ s - r % m ↔ n ∣ (s - r) % n) ∧ m / (Int.gcd m n : Nat) * n = m ∧ (r % m) % m = r % m := by
  have hd : n ∣ m := Int.dvd_of_emod_eq_zero h0
  have em := Int.mul_ediv_add_emod r m
  have e1 : s - r % m = (s - r) + m * (r / m) := by omega
  refine ⟨?_, ?_, Int.emod_emod_of_dvd _ (Int.dvd_refl _)⟩
  · rw [e1, dvd_addmul hd, dvd_emod' (Int.dvd_refl n)]
  · have : ((Int.gcd m n : Nat) : Int) = n := by
      have h1 : ((Int.gcd m n : Nat) : Int) ∣ n := Int.gcd_dvd_right ..
      have h2 : n ∣ ((Int.gcd m n : Nat) : Int) := Int.dvd_coe_gcd hd (Int.dvd_refl n)
      have h3 := Int.le_of_dvd hn h1
      have h4 := Int.le_of_dvd (gcd_pos (a := m) (show n ≠ 0 by omega)) h2
      omega
    rw [this]
    exact Int.ediv_mul_cancel hd

end Go.Proofs.Ytpganaeomiondaa
