/- The tree of Markov triples up to a limit: plain facts, with no program in sight. -/
namespace Go.Proofs.YtikpiigamnpafaaDoor

structure T3 where
  x : Int
  y : Int
  z : Int
deriving DecidableEq, Inhabited

namespace T3
def left (t : T3) : T3 := ⟨t.x, t.z, 3 * t.x * t.z - t.y⟩
def right (t : T3) : T3 := ⟨t.y, t.z, 3 * t.y * t.z - t.x⟩
/-- The numbers are positive and do not fall. -/
def Up (t : T3) : Prop := 1 ≤ t.x ∧ t.x ≤ t.y ∧ t.y ≤ t.z
end T3

theorem dbl {f s Z : Int} (hf : 1 ≤ f) (hz : 1 ≤ Z) (hs : s ≤ Z) : 2 * Z ≤ 3 * f * Z - s := by
  have : 1 * Z ≤ f * Z := Int.mul_le_mul_of_nonneg_right hf (by omega)
  rw [Int.mul_assoc]; omega
theorem T3.Up.left {t : T3} (h : t.Up) : t.left.Up ∧ 2 * t.z ≤ t.left.z := by
  obtain ⟨h1, h2, h3⟩ := h
  have := dbl (f := t.x) (s := t.y) (Z := t.z) h1 (by omega) h3
  simp only [T3.left, T3.Up]
  exact ⟨⟨h1, by omega, by omega⟩, this⟩
theorem T3.Up.right {t : T3} (h : t.Up) : t.right.Up ∧ 2 * t.z ≤ t.right.z := by
  obtain ⟨h1, h2, h3⟩ := h
  have := dbl (f := t.y) (s := t.x) (Z := t.z) (by omega) (by omega) (by omega)
  simp only [T3.right, T3.Up]
  exact ⟨⟨by omega, h3, by omega⟩, this⟩

/-- A triple and all below it, as far as their greatest number is at most M. -/
def tree (M : Int) : Nat → T3 → List T3
  | 0, _ => []
  | f + 1, t => if t.z ≤ M then t :: (tree M f t.left ++ tree M f t.right) else []

theorem tree_more {M : Int} : ∀ (f : Nat) (t : T3), t.Up → M < t.z * 2 ^ f → tree M (f + 1) t = tree M f t
  | 0, t, _, hm => by
    have hm' : M < t.z := by simpa using hm
    show (if t.z ≤ M then _ else _) = _
    rw [if_neg (by omega)]; rfl
  | f + 1, t, h, hm => by
    have hp : (0 : Int) ≤ 2 ^ f := Int.pow_nonneg (by omega)
    have e : t.z * 2 ^ (f + 1) = 2 * t.z * 2 ^ f := by rw [Int.pow_succ, Int.mul_comm (2 ^ f) 2, ← Int.mul_assoc, Int.mul_comm t.z 2]
    have hl : M < t.left.z * 2 ^ f := Int.lt_of_lt_of_le (e ▸ hm) (Int.mul_le_mul_of_nonneg_right h.left.2 hp)
    have hr : M < t.right.z * 2 ^ f := Int.lt_of_lt_of_le (e ▸ hm) (Int.mul_le_mul_of_nonneg_right h.right.2 hp)
    rw [tree, tree_more f t.left h.left.1 hl, tree_more f t.right h.right.1 hr]; rfl

/-- 'M' is at most a million, so twenty levels hold all. -/
def tr (M : Int) (t : T3) : List T3 := tree M 20 t
theorem tr_eq {M : Int} {t : T3} (hM : M ≤ 1000000) (h : t.Up) : tr M t = if t.z ≤ M then t :: (tr M t.left ++ tr M t.right) else [] := by
  have hz : 1 ≤ t.z := by obtain ⟨_, _, _⟩ := h; omega
  have e : tr M t = tree M 21 t := (tree_more 20 t h (by show M < t.z * 1048576; omega)).symm
  rw [e]; rfl
theorem tree_len (M : Int) : ∀ (f : Nat) (t : T3), (tree M f t).length + 1 ≤ 2 ^ f
  | 0, _ => by simp [tree]
  | f + 1, t => by
    have h1 := tree_len M f t.left
    have h2 := tree_len M f t.right
    rw [tree]
    split
    · simp only [List.length_cons, List.length_append]
      rw [Nat.pow_succ]; omega
    · simp only [List.length_nil]
      have := Nat.one_le_two_pow (n := f + 1)
      omega
theorem tr_len (M : Int) (t : T3) : (tr M t).length < 1048576 := by
  have := tree_len M 20 t
  unfold tr; omega

theorem tree_mem (M : Int) : ∀ (f : Nat) (t u : T3), t.Up → u ∈ tree M f t → u.Up ∧ u.z ≤ M
  | 0, _, _, _, h => by simp [tree] at h
  | f + 1, t, u, ht, h => by
    rw [tree] at h
    split at h
    · rcases List.mem_cons.1 h with rfl | h
      · exact ⟨ht, by assumption⟩
      · rcases List.mem_append.1 h with h | h
        · exact tree_mem M f _ u ht.left.1 h
        · exact tree_mem M f _ u ht.right.1 h
    · simp at h

/-- How many triples a walk through the tree looks at. -/
def looks (M : Int) (t : T3) : Nat := 2 * (tr M t).length + 1
def looksAll (M : Int) : List T3 → Nat
  | [] => 0
  | t :: ts => looks M t + looksAll M ts
theorem looksAll_append (M : Int) (a b : List T3) : looksAll M (a ++ b) = looksAll M a + looksAll M b := by
  induction a with
  | nil => simp [looksAll]
  | cons t a ih => simp [looksAll, ih]; omega
theorem looksAll_flat (M : Int) (a : List T3) : looksAll M a = 2 * (a.flatMap (tr M)).length + a.length := by
  induction a with
  | nil => rfl
  | cons t a ih => simp only [looksAll, looks, ih, List.flatMap_cons, List.length_append, List.length_cons]; omega

/-- All triples up to M. -/
def small (M : Int) : List T3 := ⟨1, 1, 1⟩ :: (if 2 ≤ M then [⟨1, 1, 2⟩] else [])
def allT (M : Int) : List T3 := small M ++ tr M ⟨1, 2, 5⟩
theorem allT_len (M : Int) : (allT M).length ≤ 1048578 := by
  have := tr_len M ⟨1, 2, 5⟩
  unfold allT small
  split <;> simp <;> omega

/-- The step of a walk that takes the last triple of a list. -/
theorem last_step {M : Int} (hM : M ≤ 1000000) {L S : List T3} {t : T3} {A : List T3} (ht : t.Up) (h : (L ++ (S ++ [t]).flatMap (tr M)).Perm A) :
    (t.z ≤ M → ((L ++ [t]) ++ (S ++ [t.left, t.right]).flatMap (tr M)).Perm A) ∧ (M < t.z → (L ++ S.flatMap (tr M)).Perm A) := by
  rw [List.flatMap_append] at h
  have e : [t].flatMap (tr M) = tr M t := by simp
  rw [e, tr_eq hM ht] at h
  constructor
  · intro hz
    rw [if_pos hz] at h
    rw [List.flatMap_append]
    have e2 : [t.left, t.right].flatMap (tr M) = tr M t.left ++ tr M t.right := by simp
    rw [e2]
    refine List.Perm.trans ?_ h
    rw [List.append_assoc L]
    refine List.Perm.append_left L ?_
    exact (List.perm_middle (l₁ := S.flatMap (tr M)) (a := t) (l₂ := tr M t.left ++ tr M t.right)).symm
  · intro hz
    rw [if_neg (by omega), List.append_nil] at h
    exact h
theorem last_looks {M : Int} (hM : M ≤ 1000000) {S : List T3} {t : T3} (ht : t.Up) :
    (t.z ≤ M → looksAll M (S ++ [t.left, t.right]) + 1 = looksAll M (S ++ [t])) ∧ (M < t.z → looksAll M S + 1 = looksAll M (S ++ [t])) := by
  have e := tr_eq hM ht
  rw [looksAll_append, looksAll_append]
  simp only [looksAll, looks]
  constructor
  · intro hz
    rw [e, if_pos hz]
    simp only [List.length_cons, List.length_append]; omega
  · intro hz
    rw [e, if_neg (by omega)]
    simp

end Go.Proofs.YtikpiigamnpafaaDoor
