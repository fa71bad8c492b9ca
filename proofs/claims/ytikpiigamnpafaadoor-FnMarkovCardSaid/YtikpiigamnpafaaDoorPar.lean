/- Parents of Markov triples: plain facts. -/
import Derived.Test.YtikpiigamnpafaaDoorTree2
namespace Go.Proofs.YtikpiigamnpafaaDoor

/-- The other root. -/
def T3.oth (t : T3) : Int := 3 * t.x * t.y - t.z
/-- The parent of a triple. -/
def T3.up (t : T3) : T3 := if t.oth ≤ t.x then ⟨t.oth, t.x, t.y⟩ else if t.oth ≤ t.y then ⟨t.x, t.oth, t.y⟩ else ⟨t.x, t.y, t.oth⟩
/-- A solution of Markov's equation, its numbers not falling. -/
def Mv (t : T3) : Prop := t.Up ∧ t.x * t.x + t.y * t.y + t.z * t.z = 3 * t.x * t.y * t.z

theorem oth_prod {t : T3} (h : Mv t) : t.oth * t.z = t.x * t.x + t.y * t.y := by
  have h2 := h.2
  unfold T3.oth
  generalize t.x = x at *
  generalize t.y = y at *
  generalize t.z = z at *
  clear h
  grind
theorem oth_pos {t : T3} (h : Mv t) : 1 ≤ t.oth := by
  obtain ⟨h1, h2, h3⟩ := h.1
  have hp := oth_prod h
  have hx : 1 * 1 ≤ t.x * t.x := Int.mul_le_mul h1 h1 (by omega) (by omega)
  have hy : 1 * 1 ≤ t.y * t.y := Int.mul_le_mul (by omega) (by omega) (by omega) (by omega)
  apply Int.not_lt.1
  intro hn
  have : t.oth * t.z ≤ 0 * t.z := Int.mul_le_mul_of_nonneg_right (by omega) (by omega)
  omega
/-- Where the greatest number is more than 2, the other root is less than the second number, and this is less than the greatest one. -/
theorem oth_lt {t : T3} (h : Mv t) (hz : 2 < t.z) : t.oth < t.y ∧ t.y < t.z := by
  obtain ⟨h1, h2, h3⟩ := h.1
  have he := h.2
  have hp := oth_prod h
  have h0 := oth_pos h
  -- (y - z) (y - oth) = 2 y y + x x - 3 x y y
  have hf : (t.y - t.z) * (t.y - t.oth) = 2 * (t.y * t.y) + t.x * t.x - 3 * (t.x * (t.y * t.y)) := by
    unfold T3.oth at *
    generalize t.x = x at *
    generalize t.y = y at *
    generalize t.z = z at *
    clear h h0 hp
    grind
  have hyy : 1 * 1 ≤ t.y * t.y := Int.mul_le_mul (by omega) (by omega) (by omega) (by omega)
  have hxx : t.x * t.x ≤ t.y * t.y := Int.mul_le_mul h2 h2 (by omega) (by omega)
  have hxy : 1 * (t.y * t.y) ≤ t.x * (t.y * t.y) := Int.mul_le_mul_of_nonneg_right h1 (by omega)
  -- it is less than 0, but for the two first triples
  have hne : (t.y - t.z) * (t.y - t.oth) < 0 := by
    rw [hf]
    by_cases hx1 : t.x = 1
    · rw [hx1] at he hxx hxy ⊢
      by_cases hy1 : t.y = 1
      · exfalso
        rw [hy1] at he
        have : (t.z - 1) * (t.z - 2) = 0 := by
          generalize t.z = z at *
          clear hf h hp h0
          grind
        rcases Int.mul_eq_zero.1 this with h | h <;> omega
      · have : 2 * 2 ≤ t.y * t.y := Int.mul_le_mul (by omega) (by omega) (by omega) (by omega)
        omega
    · have : 2 * (t.y * t.y) ≤ t.x * (t.y * t.y) := Int.mul_le_mul_of_nonneg_right (by omega) (by omega)
      omega
  constructor
  · apply Int.not_le.1
    intro hle
    have : 0 ≤ (t.z - t.y) * (t.oth - t.y) := Int.mul_nonneg (by omega) (by omega)
    have e : (t.z - t.y) * (t.oth - t.y) = (t.y - t.z) * (t.y - t.oth) := by
      generalize t.z = z at *
      generalize t.y = y at *
      generalize t.oth = o at *
      clear hf he hp h
      grind
    omega
  · apply Int.not_le.1
    intro hle
    have : t.y = t.z := by omega
    rw [this] at hne
    simp at hne
theorem up_mv {t : T3} (h : Mv t) (hz : 2 < t.z) : Mv t.up ∧ t.up.z = t.y := by
  obtain ⟨h1, h2, h3⟩ := h.1
  obtain ⟨l1, l2⟩ := oth_lt h hz
  have h0 := oth_pos h
  have he := h.2
  unfold T3.up
  by_cases hc : t.oth ≤ t.x
  · rw [if_pos hc]
    refine ⟨⟨⟨h0, hc, h2⟩, ?_⟩, rfl⟩
    simp only
    unfold T3.oth at *
    generalize t.x = x at *
    generalize t.y = y at *
    generalize t.z = z at *
    clear h h0 l1 l2 hc
    grind
  · rw [if_neg hc, if_pos (by omega)]
    refine ⟨⟨⟨h1, by simp only; omega, by simp only; omega⟩, ?_⟩, rfl⟩
    simp only
    unfold T3.oth at *
    generalize t.x = x at *
    generalize t.y = y at *
    generalize t.z = z at *
    clear h h0 l1 l2 hc
    grind
/-- A triple is its parent's right child just if its least number is the parent's second one. -/
theorem up_right {t : T3} (h : Mv t) (hz : 2 < t.z) : t.up.right = t ↔ t.x = t.up.y := by
  obtain ⟨h1, h2, h3⟩ := h.1
  obtain ⟨l1, l2⟩ := oth_lt h hz
  have e : t.z = 3 * t.x * t.y - t.oth := by unfold T3.oth; omega
  unfold T3.up
  by_cases hc : t.oth ≤ t.x
  · rw [if_pos hc]
    simp only [T3.right]
    constructor
    · intro _; trivial
    · intro _
      rw [← e]
  · rw [if_neg hc, if_pos (by omega)]
    simp only [T3.right]
    constructor
    · intro h
      have := congrArg T3.x h
      simp only at this
      omega
    · intro h; omega
/-- No triple has the greatest number 3 or 4. -/
theorem mv_small {t : T3} (h : Mv t) (hz : t.z = 3 ∨ t.z = 4) : False := by
  obtain ⟨h1, h2, h3⟩ := h.1
  have he := h.2
  obtain ⟨x, y, z⟩ := t
  simp only at *
  rcases hz with rfl | rfl
  · have : (x = 1 ∨ x = 2 ∨ x = 3) ∧ (y = 1 ∨ y = 2 ∨ y = 3) := by omega
    obtain ⟨h4, h5⟩ := this
    rcases h4 with rfl | rfl | rfl <;> rcases h5 with rfl | rfl | rfl <;> revert he <;> decide
  · have : (x = 1 ∨ x = 2 ∨ x = 3 ∨ x = 4) ∧ (y = 1 ∨ y = 2 ∨ y = 3 ∨ y = 4) := by omega
    obtain ⟨h4, h5⟩ := this
    rcases h4 with rfl | rfl | rfl | rfl <;> rcases h5 with rfl | rfl | rfl | rfl <;> revert he <;> decide

/-- The way from a triple up, the last step first: n steps at most. -/
def wayN : Nat → T3 → List Bool
  | 0, _ => []
  | n + 1, t => if 5 < t.z then wayN n t.up ++ [decide (t.x = t.up.y)] else []
theorem wayN_more : ∀ (n : Nat) (t : T3), Mv t → t.z ≤ (n : Int) → wayN (n + 1) t = wayN n t
  | 0, t, h, hz => by obtain ⟨h1, h2, h3⟩ := h.1; omega
  | n + 1, t, h, hz => by
    by_cases h5 : 5 < t.z
    · obtain ⟨u1, u2⟩ := up_mv h (by omega)
      have := (oth_lt h (by omega)).2
      have ih := wayN_more n t.up u1 (by omega)
      rw [wayN, if_pos h5, ih]
      conv => rhs; rw [wayN, if_pos h5]
    · have e1 : wayN (n + 1 + 1) t = [] := by rw [wayN, if_neg h5]
      have e2 : wayN (n + 1) t = [] := by rw [wayN, if_neg h5]
      rw [e1, e2]
theorem wayN_le {t : T3} (h : Mv t) {n : Nat} (hz : t.z ≤ n) : ∀ k, wayN (n + k) t = wayN n t
  | 0 => rfl
  | k + 1 => by
    rw [← Nat.add_assoc, wayN_more (n + k) t h (by omega), wayN_le h hz k]
/-- The way from {1 2 5} to a triple. -/
def way (t : T3) : List Bool := wayN t.z.toNat t
theorem way_up {t : T3} (h : Mv t) (h5 : 5 < t.z) : way t = way t.up ++ [decide (t.x = t.up.y)] := by
  obtain ⟨u1, u2⟩ := up_mv h (by omega)
  have := (oth_lt h (by omega)).2
  unfold way
  obtain ⟨n, hn⟩ : ∃ n, t.z.toNat = n + 1 := ⟨t.z.toNat - 1, by omega⟩
  rw [hn, wayN, if_pos h5]
  obtain ⟨k, hk⟩ : ∃ k, n = t.up.z.toNat + k := ⟨n - t.up.z.toNat, by omega⟩
  rw [hk, wayN_le u1 (by omega) k]
theorem way_done {t : T3} (h5 : ¬ 5 < t.z) : way t = [] := by
  unfold way
  cases t.z.toNat with
  | zero => rfl
  | succ n => rw [wayN, if_neg h5]

end Go.Proofs.YtikpiigamnpafaaDoor
