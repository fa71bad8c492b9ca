/- One round towards the nearest fractions on both sides: plain facts. -/
import Derived.Test.YtnjilpldfidbjaaSidP
namespace Go.Proofs.Ytnjilpldfidbjaa

theorem Sides.round {p q m a b c d : Int} (h : Sides p q m a b c d) (hg : Int.gcd p q = 1) (hq : m < q) (hp : -1000000000 ≤ p ∧ p ≤ 1000000000) (hq1 : q ≤ 1000000000) :
    ∃ A B k kc kd kB a2 b2 A2 j ja jb c2 d2 pb aq cq pd pb2 aq2 : Int,
      (p * b = pb ∧ a * q = aq ∧ c * q = cq ∧ p * d = pd ∧ p * b2 = pb2 ∧ a2 * q = aq2) ∧ (pb - aq = A ∧ cq - pd = B ∧ pb2 - aq2 = A2 ∧ A - kB = A2) ∧
      ((-1000000000000000000 ≤ pb ∧ pb ≤ 1000000000000000000) ∧ (-1000000000000000000 ≤ aq ∧ aq ≤ 1000000000000000000) ∧ (-1000000000000000000 ≤ cq ∧ cq ≤ 1000000000000000000) ∧ (-1000000000000000000 ≤ pd ∧ pd ≤ 1000000000000000000) ∧ (-1000000000000000000 ≤ pb2 ∧ pb2 ≤ 1000000000000000000) ∧ (-1000000000000000000 ≤ aq2 ∧ aq2 ≤ 1000000000000000000)) ∧
      ((1 ≤ A ∧ A ≤ 1000000000) ∧ (1 ≤ B ∧ B ≤ 1000000000) ∧ (1 ≤ A2 ∧ A2 ≤ 1000000000)) ∧
      (min (A / B) ((m - b) / d) = k ∧ (0 ≤ k ∧ k ≤ 1000000000) ∧ k * c = kc ∧ k * d = kd ∧ k * B = kB ∧ a + kc = a2 ∧ b + kd = b2) ∧
      ((-2000000000 ≤ kc ∧ kc ≤ 2000000000) ∧ (0 ≤ kd ∧ kd ≤ 1000000000) ∧ (0 ≤ kB ∧ kB ≤ 1000000000)) ∧
      (min (B / A2) ((m - d) / b2) = j ∧ (0 ≤ j ∧ j ≤ 1000000000) ∧ j * a2 = ja ∧ j * b2 = jb ∧ c + ja = c2 ∧ d + jb = d2) ∧
      ((-2000000000 ≤ ja ∧ ja ≤ 2000000000) ∧ (0 ≤ jb ∧ jb ≤ 1000000000)) ∧
      (Sides p q m a2 b2 c d ∧ Sides p q m a2 b2 c2 d2) ∧ ((k = 0 ∧ j = 0 ∧ m < b2 + d2) ∨ (¬ (k = 0 ∧ j = 0) ∧ b + d < b2 + d2)) := by
  obtain ⟨k0, h2, k3⟩ := h.klow hg hq
  obtain ⟨j0, h3, j3⟩ := h2.khigh hg hq
  have hd := h.done
  obtain ⟨b1, b2⟩ := h.bd hq hp
  obtain ⟨b3, _⟩ := h2.bd hq hp
  obtain ⟨_, b4⟩ := h3.bd hq hp
  obtain ⟨f1, f2, f3, f4, f5⟩ := min_facts (r := m - b) h.lo h.hi (show 0 < d by have := h.d1; omega) (by have := h.bm; omega)
  obtain ⟨g1, g2, g3, g4, g5⟩ := min_facts (r := m - d) h2.hi h2.lo (show 0 < b + kLow p q m a b c d * d by have := h2.b1; omega) (by have := h2.dm; omega)
  have e1 : p * (b + kLow p q m a b c d * d) - (a + kLow p q m a b c d * c) * q = p * b - a * q - kLow p q m a b c d * (c * q - p * d) := by
    generalize kLow p q m a b c d = k
    grind
  have l1 := h.le
  have l2 := h2.le
  have q1 := h.b1; have q2 := h.bm; have q3 := h.d1; have q4 := h.dm; have q5 := h.lo; have q6 := h.hi
  have r1 := h2.b1; have r2 := h2.bm; have r5 := h2.lo
  have s3 := h3.d1; have s4 := h3.dm
  have pr : ∀ x y : Int, (-1000000000 ≤ x ∧ x ≤ 1000000000) → (1 ≤ y ∧ y ≤ 1000000000) → -1000000000000000000 ≤ x * y ∧ x * y ≤ 1000000000000000000 := by
    intro x y hx hy
    have h1 : -1000000000 * y ≤ x * y := Int.mul_le_mul_of_nonneg_right hx.1 (by omega)
    have h2 : x * y ≤ 1000000000 * y := Int.mul_le_mul_of_nonneg_right hx.2 (by omega)
    omega
  have p1 := pr p b hp (by omega)
  have p2 := pr a q b1 (by omega)
  have p3 := pr c q b2 (by omega)
  have p4 := pr p d hp (by omega)
  have p5 := pr p (b + kLow p q m a b c d * d) hp (by omega)
  have p6 := pr (a + kLow p q m a b c d * c) q b3 (by omega)
  have kB0 : 0 ≤ kLow p q m a b c d * (c * q - p * d) := Int.mul_nonneg k0 (by omega)
  have kd0 : 0 ≤ kLow p q m a b c d * d := Int.mul_nonneg k0 (by omega)
  have jb0 : 0 ≤ kHigh p q m (a + kLow p q m a b c d * c) (b + kLow p q m a b c d * d) c d * (b + kLow p q m a b c d * d) := Int.mul_nonneg j0 (by omega)
  refine ⟨_, _, kLow p q m a b c d, _, _, _, _, _, _, kHigh p q m (a + kLow p q m a b c d * c) (b + kLow p q m a b c d * d) c d, _, _, _, _, _, _, _, _, _, _, ⟨rfl, rfl, rfl, rfl, rfl, rfl⟩, ⟨rfl, rfl, rfl, e1.symm⟩, ⟨p1, p2, p3, p4, p5, p6⟩, ⟨by omega, by omega, by omega⟩, ⟨rfl, ⟨k0, by unfold kLow; omega⟩, rfl, rfl, rfl, rfl, rfl⟩, ⟨by omega, by omega, by omega⟩, ⟨rfl, ⟨j0, by unfold kHigh; omega⟩, rfl, rfl, rfl, rfl⟩, ⟨by omega, by omega⟩, ⟨h2, h3⟩, ?_⟩
  by_cases hk : kLow p q m a b c d = 0
  · by_cases hj : kHigh p q m (a + kLow p q m a b c d * c) (b + kLow p q m a b c d * d) c d = 0
    · have hj2 : kHigh p q m a b c d = 0 := by
        have h := hj
        rw [hk, Int.zero_mul, Int.zero_mul, Int.add_zero, Int.add_zero] at h
        exact h
      have := hd hk hj2
      exact .inl ⟨hk, hj, by omega⟩
    · exact .inr ⟨fun e => hj e.2, by omega⟩
  · exact .inr ⟨fun e => hk e.1, by omega⟩

end Go.Proofs.Ytnjilpldfidbjaa
