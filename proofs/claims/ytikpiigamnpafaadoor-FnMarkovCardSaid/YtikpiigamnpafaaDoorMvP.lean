/- Ways in the tree of Markov triples: a child's parent; the way to a triple leads to it. -/
import Derived.Test.YtikpiigamnpafaaDoorPar
import Derived.Test.YtikpiigamnpafaaDoorMvA
namespace Go.Proofs.YtikpiigamnpafaaDoor

theorem up_of_left {t : T3} (h : t.Up) : t.left.up = t := by
  obtain ⟨h1, h2, h3⟩ := h
  have e : t.left.oth = t.y := by simp only [T3.oth, T3.left]; omega
  have e2 : t.left.up = if t.y ≤ t.x then ⟨t.y, t.x, t.z⟩ else if t.y ≤ t.z then ⟨t.x, t.y, t.z⟩ else ⟨t.x, t.z, t.y⟩ := by unfold T3.up; rw [e]; rfl
  rw [e2]
  by_cases hc : t.y ≤ t.x
  · rw [if_pos hc]
    obtain ⟨x, y, z⟩ := t
    simp only at *
    have : x = y := by omega
    subst this; rfl
  · rw [if_neg hc, if_pos h3]
theorem up_of_right {t : T3} (h : t.Up) : t.right.up = t := by
  obtain ⟨h1, h2, h3⟩ := h
  have e : t.right.oth = t.x := by simp only [T3.oth, T3.right]; omega
  have e2 : t.right.up = if t.x ≤ t.y then ⟨t.x, t.y, t.z⟩ else if t.x ≤ t.z then ⟨t.y, t.x, t.z⟩ else ⟨t.y, t.z, t.x⟩ := by unfold T3.up; rw [e]; rfl
  rw [e2, if_pos h2]
/-- A child of a triple. -/
def T3.kid (r : Bool) (t : T3) : T3 := ⟨fst r t.x t.y, t.z, 3 * fst r t.x t.y * t.z - snd r t.x t.y⟩
theorem kid_up {t : T3} (h : t.Up) (r : Bool) : (t.kid r).up = t := by
  cases r
  · exact up_of_left h
  · exact up_of_right h
theorem kid_mv {t : T3} (h : Mv t) (r : Bool) : Mv (t.kid r) ∧ t.z < (t.kid r).z := by
  have hup := h.1
  have he := h.2
  obtain ⟨h1, h2, h3⟩ := hup
  have g1 := T3.Up.left h.1
  have g2 := T3.Up.right h.1
  cases r
  · refine ⟨⟨g1.1, ?_⟩, ?_⟩
    · simp only [T3.kid, fst, snd]
      generalize t.x = x at *
      generalize t.y = y at *
      generalize t.z = z at *
      clear g1 g2 h
      grind
    · have := g1.2
      simp only [T3.kid, fst, snd, T3.left] at *
      omega
  · refine ⟨⟨g2.1, ?_⟩, ?_⟩
    · simp only [T3.kid, fst, snd]
      generalize t.x = x at *
      generalize t.y = y at *
      generalize t.z = z at *
      clear g1 g2 h
      grind
    · have := g2.2
      simp only [T3.kid, fst, snd, T3.right] at *
      omega
theorem tAt_snoc : ∀ (bs : List Bool) (X Y Z : Int) (r : Bool), tAt X Y Z (bs ++ [r]) = (tAt X Y Z bs).bind fun p => if 3 * fst r p.1 p.2.1 * p.2.2 - snd r p.1 p.2.1 ≤ 1000000000 then some (fst r p.1 p.2.1, p.2.2, 3 * fst r p.1 p.2.1 * p.2.2 - snd r p.1 p.2.1) else none
  | [], X, Y, Z, r => by simp [tAt]
  | b :: bs, X, Y, Z, r => by
    rw [List.cons_append, tAt, tAt]
    by_cases hc : 3 * fst b X Y * Z - snd b X Y ≤ 1000000000
    · rw [if_pos hc, if_pos hc, tAt_snoc bs]
    · rw [if_neg hc, if_neg hc]; rfl
theorem small_z {t : T3} (h : Mv t) (hz : t.z ≤ 2) : t = ⟨1, 1, 1⟩ ∨ t = ⟨1, 1, 2⟩ := by
  obtain ⟨h1, h2, h3⟩ := h.1
  have he := h.2
  obtain ⟨x, y, z⟩ := t
  simp only at *
  have : (x = 1 ∨ x = 2) ∧ (y = 1 ∨ y = 2) ∧ (z = 1 ∨ z = 2) := by omega
  obtain ⟨a, b, c⟩ := this
  rcases a with rfl | rfl <;> rcases b with rfl | rfl <;> rcases c with rfl | rfl <;> simp_all
/-- A triple is a child of its parent: the right one just if its least number is the parent's second one. -/
theorem kid_of_up {t : T3} (h : Mv t) (hz : 5 < t.z) : t.up.kid (decide (t.x = t.up.y)) = t := by
  obtain ⟨h1, h2, h3⟩ := h.1
  obtain ⟨l1, l2⟩ := oth_lt h (by omega)
  have e : t.z = 3 * t.x * t.y - t.oth := by unfold T3.oth; omega
  by_cases hx : t.x = t.up.y
  · rw [decide_eq_true hx]
    exact (up_right h (by omega)).2 hx
  · rw [decide_eq_false hx]
    have hu : ¬ t.oth ≤ t.x := by
      intro hc
      apply hx
      unfold T3.up; rw [if_pos hc]
    have e2 : t.up = ⟨t.x, t.oth, t.y⟩ := by unfold T3.up; rw [if_neg hu, if_pos (by omega)]
    rw [e2]
    show (⟨t.x, t.y, 3 * t.x * t.y - t.oth⟩ : T3) = t
    rw [← e]
theorem up_five {t : T3} (h : Mv t) (hz : 5 < t.z) : 5 ≤ t.up.z := by
  obtain ⟨u1, u2⟩ := up_mv h (by omega)
  apply Int.not_lt.1
  intro hlt
  have h3 : t.up.z ≤ 2 := by
    apply Int.not_lt.1
    intro h
    exact mv_small u1 (by omega)
  have hk := kid_of_up h hz
  rcases small_z u1 h3 with e | e
  · rw [e] at hk
    rw [← hk] at hz
    revert hz
    cases decide (t.x = (1 : Int)) <;> simp [T3.kid, fst, snd]
  · rw [e] at hk
    rw [← hk] at hz
    revert hz
    cases decide (t.x = (1 : Int)) <;> simp [T3.kid, fst, snd]
theorem z_five {t : T3} (h : Mv t) (hz : t.z = 5) : t = ⟨1, 2, 5⟩ := by
  obtain ⟨h1, h2, h3⟩ := h.1
  have he := h.2
  obtain ⟨x, y, z⟩ := t
  simp only at *
  subst hz
  have : (x = 1 ∨ x = 2 ∨ x = 3 ∨ x = 4 ∨ x = 5) ∧ (y = 1 ∨ y = 2 ∨ y = 3 ∨ y = 4 ∨ y = 5) := by omega
  obtain ⟨a, b⟩ := this
  rcases a with rfl | rfl | rfl | rfl | rfl <;> rcases b with rfl | rfl | rfl | rfl | rfl <;> simp_all
theorem way_back : ∀ (n : Nat) (t : T3), Mv t → t.z ≤ (n : Int) → t.z ≤ 1000000000 → 5 ≤ t.z → tAt 1 2 5 (way t) = some (t.x, t.y, t.z)
  | 0, t, h, hn, _, h5 => by omega
  | n + 1, t, h, hn, hm, h5 => by
    by_cases hz : 5 < t.z
    · obtain ⟨u1, u2⟩ := up_mv h (by omega)
      obtain ⟨l1, l2⟩ := oth_lt h (by omega)
      rw [way_up h hz, tAt_snoc, way_back n t.up u1 (by omega) (by omega) (up_five h hz)]
      have hk := kid_of_up h hz
      show (if 3 * fst _ t.up.x t.up.y * t.up.z - snd _ t.up.x t.up.y ≤ 1000000000 then some _ else none) = _
      have k1 := congrArg T3.x hk
      have k2 := congrArg T3.y hk
      have k3 := congrArg T3.z hk
      simp only [T3.kid] at k1 k2 k3
      rw [k3, k1, k2, if_pos hm]
    · have := z_five h (by omega)
      subst this
      rfl

end Go.Proofs.YtikpiigamnpafaaDoor
