/- The nearest fractions on both sides of a fraction, of those with denominators up to a number: plain facts. -/
import Derived.Test.YtnjilpldfidbjaaBase
namespace Go.Proofs.Ytnjilpldfidbjaa

/-- a / b < p / q < c / d are neighbours, with denominators up to m. -/
structure Sides (p q m a b c d : Int) : Prop where
  b1 : 1 ≤ b
  bm : b ≤ m
  d1 : 1 ≤ d
  dm : d ≤ m
  lo : 0 < p * b - a * q
  hi : 0 < c * q - p * d
  det : c * b - a * d = 1

theorem pos_mul {x y : Int} (hx : 0 < x) (hy : 0 < y) : 0 < x * y := Int.mul_pos hx hy
theorem Sides.sum {p q m a b c d : Int} (h : Sides p q m a b c d) : (p * b - a * q) * d + (c * q - p * d) * b = q := by
  have := h.det
  clear h
  grind
theorem Sides.le {p q m a b c d : Int} (h : Sides p q m a b c d) : p * b - a * q ≤ q - 1 ∧ c * q - p * d ≤ q - 1 := by
  have h1 := h.sum
  have h2 : 1 * 1 ≤ (c * q - p * d) * b := Int.mul_le_mul (by have := h.hi; omega) h.b1 (by omega) (by have := h.hi; omega)
  have h3 : (p * b - a * q) * 1 ≤ (p * b - a * q) * d := Int.mul_le_mul_of_nonneg_left h.d1 (by have := h.lo; omega)
  have h4 : 1 * 1 ≤ (p * b - a * q) * d := Int.mul_le_mul (by have := h.lo; omega) h.d1 (by omega) (by have := h.lo; omega)
  have h5 : (c * q - p * d) * 1 ≤ (c * q - p * d) * b := Int.mul_le_mul_of_nonneg_left h.b1 (by have := h.hi; omega)
  omega
theorem dvd_left {p q y : Int} (h : q ∣ p * y) (hg : Int.gcd p q = 1) : q ∣ y := by
  have h3 := Int.natAbs_dvd_natAbs.2 h
  rw [Int.natAbs_mul] at h3
  exact Int.natAbs_dvd_natAbs.1 (Nat.Coprime.dvd_of_dvd_mul_left (by rw [Nat.Coprime, Nat.gcd_comm]; exact hg) h3)
theorem not_on {p q x y m : Int} (hg : Int.gcd p q = 1) (hy : 1 ≤ y) (hm : y ≤ m) (hq : m < q) : p * y - x * q ≠ 0 := by
  intro h
  have h1 : q ∣ p * y := ⟨x, by rw [Int.mul_comm q x]; omega⟩
  have h2 : q ∣ y := dvd_left h1 hg
  have := Int.le_of_dvd (by omega) h2
  omega
theorem Sides.low {p q m a b c d k : Int} (h : Sides p q m a b c d) (hg : Int.gcd p q = 1) (hq : m < q) (k0 : 0 ≤ k) (k1 : k * (c * q - p * d) ≤ p * b - a * q) (k2 : k * d ≤ m - b) : Sides p q m (a + k * c) (b + k * d) c d := by
  have hb := h.b1
  have hd := h.d1
  have e0 : 0 ≤ k * d := Int.mul_nonneg k0 (by omega)
  have e1 : p * (b + k * d) - (a + k * c) * q = p * b - a * q - k * (c * q - p * d) := by grind
  have e2 := not_on (p := p) (q := q) (x := a + k * c) (y := b + k * d) (m := m) hg (by omega) (by omega) hq
  refine ⟨by omega, by omega, h.d1, h.dm, by omega, h.hi, ?_⟩
  have := h.det
  clear k1 k2 e1 e2 h
  grind
theorem Sides.high {p q m a b c d j : Int} (h : Sides p q m a b c d) (hg : Int.gcd p q = 1) (hq : m < q) (j0 : 0 ≤ j) (j1 : j * (p * b - a * q) ≤ c * q - p * d) (j2 : j * b ≤ m - d) : Sides p q m a b (c + j * a) (d + j * b) := by
  have hb := h.b1
  have hd := h.d1
  have e0 : 0 ≤ j * b := Int.mul_nonneg j0 (by omega)
  have e1 : (c + j * a) * q - p * (d + j * b) = c * q - p * d - j * (p * b - a * q) := by grind
  have e2 := not_on (p := p) (q := q) (x := c + j * a) (y := d + j * b) (m := m) hg (by omega) (by omega) hq
  refine ⟨h.b1, h.bm, by omega, by omega, h.lo, by omega, ?_⟩
  have := h.det
  clear j1 j2 e1 e2 h
  grind
/-- How often the low one goes on. -/
def kLow (p q m a b c d : Int) : Int := min ((p * b - a * q) / (c * q - p * d)) ((m - b) / d)
def kHigh (p q m a b c d : Int) : Int := min ((c * q - p * d) / (p * b - a * q)) ((m - d) / b)
theorem min_facts {B A r d : Int} (hB : 0 < B) (hA : 0 < A) (hd : 0 < d) (hr : 0 ≤ r) : 0 ≤ min (B / A) (r / d) ∧ min (B / A) (r / d) * A ≤ B ∧ min (B / A) (r / d) * d ≤ r ∧ min (B / A) (r / d) ≤ B ∧ min (B / A) (r / d) ≤ r := by
  have h1 : 0 ≤ B / A := Int.ediv_nonneg (by omega) (by omega)
  have h2 : 0 ≤ r / d := Int.ediv_nonneg hr (by omega)
  have h3 : B / A * A ≤ B := Int.ediv_mul_le _ (by omega)
  have h4 : r / d * d ≤ r := Int.ediv_mul_le _ (by omega)
  have h5 : min (B / A) (r / d) * A ≤ B / A * A := Int.mul_le_mul_of_nonneg_right (by omega) (by omega)
  have h6 : min (B / A) (r / d) * d ≤ r / d * d := Int.mul_le_mul_of_nonneg_right (by omega) (by omega)
  have h7 : B / A ≤ B := Int.ediv_le_self _ (by omega)
  have h8 : r / d ≤ r := Int.ediv_le_self _ hr
  omega
theorem Sides.klow {p q m a b c d : Int} (h : Sides p q m a b c d) (hg : Int.gcd p q = 1) (hq : m < q) : 0 ≤ kLow p q m a b c d ∧ Sides p q m (a + kLow p q m a b c d * c) (b + kLow p q m a b c d * d) c d ∧ (kLow p q m a b c d = 0 ∨ b + 1 ≤ b + kLow p q m a b c d * d) := by
  obtain ⟨f1, f2, f3, _⟩ := min_facts (r := m - b) h.lo h.hi (show 0 < d by have := h.d1; omega) (by have := h.bm; omega)
  refine ⟨f1, h.low hg hq f1 f2 f3, ?_⟩
  by_cases hz : kLow p q m a b c d = 0
  · exact .inl hz
  · have : 1 * 1 ≤ kLow p q m a b c d * d := Int.mul_le_mul (by unfold kLow at *; omega) h.d1 (by omega) f1
    exact .inr (by omega)
theorem Sides.khigh {p q m a b c d : Int} (h : Sides p q m a b c d) (hg : Int.gcd p q = 1) (hq : m < q) : 0 ≤ kHigh p q m a b c d ∧ Sides p q m a b (c + kHigh p q m a b c d * a) (d + kHigh p q m a b c d * b) ∧ (kHigh p q m a b c d = 0 ∨ d + 1 ≤ d + kHigh p q m a b c d * b) := by
  obtain ⟨f1, f2, f3, _⟩ := min_facts (r := m - d) h.hi h.lo (show 0 < b by have := h.b1; omega) (by have := h.dm; omega)
  refine ⟨f1, h.high hg hq f1 f2 f3, ?_⟩
  by_cases hz : kHigh p q m a b c d = 0
  · exact .inl hz
  · have : 1 * 1 ≤ kHigh p q m a b c d * b := Int.mul_le_mul (by unfold kHigh at *; omega) h.b1 (by omega) f1
    exact .inr (by omega)
theorem div_zero_lt {x y : Int} (hy : 0 < y) (_ : 0 ≤ x) (h : x / y = 0) : x < y := by
  have h1 := Int.mul_ediv_add_emod x y
  have h2 := Int.emod_lt_of_pos x hy
  rw [h] at h1
  simp at h1
  omega
/-- Where both stay, no fraction with such a denominator lies between them. -/
theorem Sides.done {p q m a b c d : Int} (h : Sides p q m a b c d) (h1 : kLow p q m a b c d = 0) (h2 : kHigh p q m a b c d = 0) : m < b + d := by
  have hb := h.b1
  have hd := h.d1
  have hbm := h.bm
  have hdm := h.dm
  have hl := h.lo
  have hh := h.hi
  unfold kLow at h1
  unfold kHigh at h2
  generalize p * b - a * q = B at *
  generalize c * q - p * d = A at *
  have z1 : 0 ≤ B / A := Int.ediv_nonneg (by omega) (by omega)
  have z2 : 0 ≤ A / B := Int.ediv_nonneg (by omega) (by omega)
  have z3 : 0 ≤ (m - b) / d := Int.ediv_nonneg (by omega) (by omega)
  have z4 : 0 ≤ (m - d) / b := Int.ediv_nonneg (by omega) (by omega)
  rcases (show B / A = 0 ∨ (m - b) / d = 0 by omega) with g1 | g1
  · rcases (show A / B = 0 ∨ (m - d) / b = 0 by omega) with g2 | g2
    · have := div_zero_lt hh (by omega) g1
      have := div_zero_lt hl (by omega) g2
      omega
    · have := div_zero_lt (by omega) (by omega) g2
      omega
  · have := div_zero_lt (by omega) (by omega) g1
    omega
/-- What lies between two neighbours has a denominator that is at least the sum of theirs. -/
theorem between {a b c d x y : Int} (hb : 1 ≤ b) (hd : 1 ≤ d) (det : c * b - a * d = 1) (h1 : a * y < x * b) (h2 : x * d < c * y) : b + d ≤ y := by
  have e : y = b * (c * y - x * d) + d * (x * b - a * y) := by
    have : y = y * (c * b - a * d) := by rw [det]; omega
    clear h1 h2 hb hd
    grind
  have g1 : b * 1 ≤ b * (c * y - x * d) := Int.mul_le_mul_of_nonneg_left (by omega) (by omega)
  have g2 : d * 1 ≤ d * (x * b - a * y) := Int.mul_le_mul_of_nonneg_left (by omega) (by omega)
  omega
theorem cross_lt {a b c d p q : Int} (hq : 0 < q) (hb : 0 < b) (hd : 0 < d) (h1 : 0 < p * b - a * q) (h2 : 0 < c * q - p * d) : a * d < c * b := by
  have g1 : 0 < (p * b - a * q) * d := Int.mul_pos h1 hd
  have g2 : 0 < (c * q - p * d) * b := Int.mul_pos h2 hb
  have e : (p * b - a * q) * d + (c * q - p * d) * b = (c * b - a * d) * q := by grind
  have h : 0 < (c * b - a * d) * q := by omega
  have := Int.pos_of_mul_pos_left h (by omega) 
  omega
theorem coprime_of_det {a b c d : Int} (det : c * b - a * d = 1) : Int.gcd a b = 1 ∧ Int.gcd c d = 1 := by
  have h : ∀ g : Nat, ((g : Int) ∣ a ∧ (g : Int) ∣ b) ∨ ((g : Int) ∣ c ∧ (g : Int) ∣ d) → g = 1 := by
    intro g hg
    have h1 : (g : Int) ∣ 1 := by
      rw [← det]
      rcases hg with ⟨h1, h2⟩ | ⟨h1, h2⟩
      · exact Int.dvd_sub (Int.dvd_mul_of_dvd_right h2) (Int.dvd_mul_of_dvd_left h1)
      · exact Int.dvd_sub (Int.dvd_mul_of_dvd_left h1) (Int.dvd_mul_of_dvd_right h2)
    have h2 : g ∣ 1 := by exact_mod_cast h1
    exact Nat.dvd_one.1 h2
  exact ⟨h _ (.inl ⟨Int.gcd_dvd_left .., Int.gcd_dvd_right ..⟩), h _ (.inr ⟨Int.gcd_dvd_left .., Int.gcd_dvd_right ..⟩)⟩
theorem frac_eq {a b x y : Int} (hb : 1 ≤ b) (hy : 1 ≤ y) (h1 : Int.gcd a b = 1) (h2 : Int.gcd x y = 1) (h : a * y = x * b) : a = x ∧ b = y := by
  have d1 : b ∣ y := by
    have : b ∣ a * y := ⟨x, by rw [h, Int.mul_comm]⟩
    exact dvd_left this h1
  have d2 : y ∣ b := by
    have : y ∣ x * b := ⟨a, by rw [← h, Int.mul_comm]⟩
    exact dvd_left this h2
  have e1 := Int.le_of_dvd (by omega) d1
  have e2 := Int.le_of_dvd (by omega) d2
  have e : b = y := by omega
  subst e
  exact ⟨Int.eq_of_mul_eq_mul_right (by omega) h, rfl⟩
/-- The low one is the greatest fraction that is not greater. -/
theorem Sides.most {p q m a b c d x y : Int} (h : Sides p q m a b c d) (hq : m < q) (hs : m < b + d) (hy : 1 ≤ y) (hm : y ≤ m) (hx : x * q ≤ p * y) : x * b ≤ a * y := by
  apply Int.not_lt.1
  intro hlt
  have hb := h.b1
  have hd := h.d1
  have hbm := h.bm
  have h2 : x * d < c * y := by
    have g1 : x * q * d ≤ p * y * d := Int.mul_le_mul_of_nonneg_right hx (by omega)
    have g2 : 0 < (c * q - p * d) * y := Int.mul_pos h.hi (by omega)
    have e : (c * q - p * d) * y + (p * y * d - x * q * d) = (c * y - x * d) * q := by grind
    have h : 0 < (c * y - x * d) * q := by omega
    have := Int.pos_of_mul_pos_left h (by omega)
    omega
  have := between hb hd h.det hlt h2
  omega
/-- The high one is the least fraction that is not less. -/
theorem Sides.least {p q m a b c d x y : Int} (h : Sides p q m a b c d) (hq : m < q) (hs : m < b + d) (hy : 1 ≤ y) (hm : y ≤ m) (hx : p * y ≤ x * q) : c * y ≤ x * d := by
  apply Int.not_lt.1
  intro hlt
  have hb := h.b1
  have hd := h.d1
  have hbm := h.bm
  have h2 : a * y < x * b := by
    have g1 : p * y * b ≤ x * q * b := Int.mul_le_mul_of_nonneg_right hx (by omega)
    have g2 : 0 < (p * b - a * q) * y := Int.mul_pos h.lo (by omega)
    have e : (p * b - a * q) * y + (x * q * b - p * y * b) = (x * b - a * y) * q := by grind
    have h : 0 < (x * b - a * y) * q := by omega
    have := Int.pos_of_mul_pos_left h (by omega)
    omega
  have := between hb hd h.det h2 hlt
  omega
theorem Sides.uniq {p q m a b c d a' b' c' d' : Int} (h : Sides p q m a b c d) (h' : Sides p q m a' b' c' d') (hq : m < q) (hs : m < b + d) (hs' : m < b' + d') : a = a' ∧ b = b' ∧ c = c' ∧ d = d' := by
  obtain ⟨g1, g2⟩ := coprime_of_det h.det
  obtain ⟨g3, g4⟩ := coprime_of_det h'.det
  have l1 := h.most (x := a') (y := b') hq hs h'.b1 h'.bm (by have := h'.lo; omega)
  have l2 := h'.most (x := a) (y := b) hq hs' h.b1 h.bm (by have := h.lo; omega)
  have l3 := h.least (x := c') (y := d') hq hs h'.d1 h'.dm (by have := h'.hi; omega)
  have l4 := h'.least (x := c) (y := d) hq hs' h.d1 h.dm (by have := h.hi; omega)
  obtain ⟨e1, e2⟩ := frac_eq (a := a) (b := b) (x := a') (y := b') h.b1 h'.b1 g1 g3 (by omega)
  obtain ⟨e3, e4⟩ := frac_eq (a := c) (b := d) (x := c') (y := d') h.d1 h'.d1 g2 g4 (by omega)
  exact ⟨e1, e2, e3, e4⟩
/-- Bounds of the numerators. -/
theorem Sides.bd {p q m a b c d : Int} (h : Sides p q m a b c d) (hq : m < q) (hp : -1000000000 ≤ p ∧ p ≤ 1000000000) : (-1000000000 ≤ a ∧ a ≤ 1000000000) ∧ (-1000000000 ≤ c ∧ c ≤ 1000000000) := by
  have hb := h.b1
  have hd := h.d1
  have hbm := h.bm
  have hdm := h.dm
  obtain ⟨l1, l2⟩ := h.le
  have hl := h.lo
  have hh := h.hi
  have p1 : p * b ≤ 1000000000 * b := Int.mul_le_mul_of_nonneg_right hp.2 (by omega)
  have p2 : -1000000000 * b ≤ p * b := Int.mul_le_mul_of_nonneg_right hp.1 (by omega)
  have p3 : p * d ≤ 1000000000 * d := Int.mul_le_mul_of_nonneg_right hp.2 (by omega)
  have p4 : -1000000000 * d ≤ p * d := Int.mul_le_mul_of_nonneg_right hp.1 (by omega)
  have key : ∀ x y : Int, -1000000000 * (q - 1) - (q - 1) ≤ x * q → x * q ≤ 1000000000 * (q - 1) + (q - 1) → (-1000000000 ≤ x ∧ x ≤ 1000000000) := by
    intro x y h1 h2
    constructor
    · apply Int.not_lt.1
      intro hlt
      have : x * q ≤ -1000000001 * q := Int.mul_le_mul_of_nonneg_right (by omega) (by omega)
      omega
    · apply Int.not_lt.1
      intro hlt
      have : 1000000001 * q ≤ x * q := Int.mul_le_mul_of_nonneg_right (by omega) (by omega)
      omega
  exact ⟨key a b (by omega) (by omega), key c d (by omega) (by omega)⟩
/-- The first two. -/
theorem Sides.start {p q m : Int} (hg : Int.gcd p q = 1) (hm : 1 ≤ m) (hq : m < q) : Sides p q m (p / q) 1 (p / q + 1) 1 := by
  have h1 := Int.mul_ediv_add_emod p q
  have h2 := Int.emod_lt_of_pos p (show 0 < q by omega)
  have h3 := Int.emod_nonneg p (show q ≠ 0 by omega)
  have e2 := not_on (p := p) (q := q) (x := p / q) (y := 1) (m := m) hg (by omega) hm hq
  have e3 : (p / q + 1) * q = p / q * q + q := by rw [Int.add_mul]; omega
  rw [Int.mul_comm] at h1
  refine ⟨by omega, hm, by omega, hm, by omega, by omega, by omega⟩

end Go.Proofs.Ytnjilpldfidbjaa
