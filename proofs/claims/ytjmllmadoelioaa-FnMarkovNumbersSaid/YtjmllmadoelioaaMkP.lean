/- Markov triples with one greatest number: plain facts. -/
import Derived.Test.YtjmllmadoelioaaTree2
namespace Go.Proofs.Ytjmllmadoelioaa

/-- A solution of Markov's equation, its numbers not falling. -/
def Mk (t : T3) : Prop := t.Up ∧ t.x * t.x + t.y * t.y + t.z * t.z = 3 * t.x * t.y * t.z
theorem Mk.left {t : T3} (h : Mk t) : Mk t.left := by
  refine ⟨h.1.left.1, ?_⟩
  have h2 := h.2
  simp only [T3.left]
  generalize t.x = x at *
  generalize t.y = y at *
  generalize t.z = z at *
  clear h
  grind
theorem Mk.right {t : T3} (h : Mk t) : Mk t.right := by
  refine ⟨h.1.right.1, ?_⟩
  have h2 := h.2
  simp only [T3.right]
  generalize t.x = x at *
  generalize t.y = y at *
  generalize t.z = z at *
  clear h
  grind
theorem tree_mk (M : Int) : ∀ (f : Nat) (t u : T3), Mk t → u ∈ tree M f t → Mk u ∧ u.z ≤ M
  | 0, t, u, _, h => by simp [tree] at h
  | f + 1, t, u, ht, h => by
    rw [tree] at h
    by_cases hz : t.z ≤ M
    · rw [if_pos hz, List.mem_cons, List.mem_append] at h
      rcases h with rfl | h | h
      · exact ⟨ht, hz⟩
      · exact tree_mk M f _ u ht.left h
      · exact tree_mk M f _ u ht.right h
    · rw [if_neg hz] at h; cases h
theorem allT_mk {M : Int} (h1 : 1 ≤ M) {u : T3} (h : u ∈ allT M) : Mk u ∧ u.z ≤ M := by
  unfold allT small at h
  rw [List.mem_append, List.mem_cons] at h
  rcases h with (rfl | h) | h
  · exact ⟨by unfold Mk T3.Up; decide, h1⟩
  · by_cases h2 : 2 ≤ M
    · rw [if_pos h2, List.mem_singleton] at h
      subst h
      exact ⟨by unfold Mk T3.Up; decide, h2⟩
    · rw [if_neg h2] at h; cases h
  · exact tree_mk M 20 _ u (by unfold Mk T3.Up; decide) h

/-- Triples with one greatest number and one least number are one. -/
theorem mk_unique {s t : T3} (hs : Mk s) (ht : Mk t) (hz : s.z = t.z) (hx : s.x = t.x) : s = t := by
  obtain ⟨⟨s1, s2, s3⟩, se⟩ := hs
  obtain ⟨⟨t1, t2, t3⟩, te⟩ := ht
  obtain ⟨x, y, z⟩ := s
  obtain ⟨x', y', z'⟩ := t
  simp only at *
  subst hz hx
  have e : (y - y') * (y + y' - 3 * x * z) = 0 := by grind
  rcases Int.mul_eq_zero.1 e with h | h
  · have : y = y' := by omega
    rw [this]
  · exfalso
    have : 1 * z ≤ x * z := Int.mul_le_mul_of_nonneg_right s1 (by omega)
    rw [Int.mul_assoc] at h
    omega

/-- A list of triples with one greatest number, ordered by their least numbers, is one. -/
theorem mk_sorted_unique {A B C : List T3} {n : Int} (hm : ∀ t ∈ C, Mk t ∧ t.z = n) (ha : A.Perm C) (hb : B.Perm C) (sa : A.Pairwise fun a b => a.x ≤ b.x) (sb : B.Pairwise fun a b => a.x ≤ b.x) : A = B := by
  refine List.Perm.eq_of_pairwise (le := fun a b => a.x ≤ b.x) ?_ sa sb (ha.trans hb.symm)
  intro a b ha' hb' h1 h2
  have m1 := hm a (ha.mem_iff.1 ha')
  have m2 := hm b (hb.mem_iff.1 hb')
  exact mk_unique m1.1 m2.1 (by rw [m1.2, m2.2]) (by omega)

/-- The reference's way to put triples in order, one after the other. -/
def insT (L : List T3) (x : Int) : Nat → Nat
  | 0 => 0
  | k + 1 => if x < (L.getD k default).x then insT L x k else k + 1
theorem insT_le (L : List T3) (x : Int) : ∀ k, insT L x k ≤ k
  | 0 => Nat.le_refl _
  | k + 1 => by
    unfold insT
    have := insT_le L x k
    split <;> omega
theorem insT_hi (L : List T3) (x : Int) : ∀ k j, insT L x k ≤ j → j < k → x < (L.getD j default).x
  | 0, j, _, h => by omega
  | k + 1, j, h1, h2 => by
    unfold insT at h1
    by_cases h : x < (L.getD k default).x
    · rw [if_pos h] at h1
      by_cases hj : j = k
      · subst hj; exact h
      · exact insT_hi L x k j h1 (by omega)
    · rw [if_neg h] at h1; omega
theorem insT_lo (L : List T3) (x : Int) : ∀ k, 0 < insT L x k → (L.getD (insT L x k - 1) default).x ≤ x
  | 0, h => by simp [insT] at h
  | k + 1, h => by
    by_cases hc : x < (L.getD k default).x
    · have e : insT L x (k + 1) = insT L x k := by rw [insT, if_pos hc]
      rw [e] at h ⊢
      exact insT_lo L x k h
    · have e : insT L x (k + 1) = k + 1 := by rw [insT, if_neg hc]
      rw [e]
      simp only [Nat.add_sub_cancel]
      omega
def putT (L : List T3) (t : T3) : List T3 := L.take (insT L t.x L.length) ++ t :: L.drop (insT L t.x L.length)
theorem putT_perm (L : List T3) (t : T3) : (putT L t).Perm (t :: L) := by
  unfold putT
  refine List.perm_middle.trans ?_
  rw [List.take_append_drop]
theorem putT_len (L : List T3) (t : T3) : (putT L t).length = L.length + 1 := (putT_perm L t).length_eq
theorem putT_sorted {L : List T3} {t : T3} (hs : L.Pairwise fun a b => a.x ≤ b.x) : (putT L t).Pairwise fun a b => a.x ≤ b.x := by
  unfold putT
  have hk := insT_le L t.x L.length
  have hhi := insT_hi L t.x L.length
  have hlo := insT_lo L t.x L.length
  generalize insT L t.x L.length = k at *
  have hidx := List.pairwise_iff_getElem.1 hs
  rw [List.pairwise_append]
  refine ⟨hs.sublist (List.take_sublist _ _), ?_, ?_⟩
  · rw [List.pairwise_cons]
    refine ⟨fun b hb => ?_, hs.sublist (List.drop_sublist _ _)⟩
    obtain ⟨j, hj, rfl⟩ := List.mem_iff_getElem.1 hb
    rw [List.length_drop] at hj
    have := hhi (k + j) (by omega) (by omega)
    rw [List.getD_eq_getElem?_getD, List.getElem?_eq_getElem (by omega)] at this
    rw [List.getElem_drop]
    simp at this
    omega
  · intro a ha b hb
    have hab : ∀ b, (b = t ∨ b ∈ L.drop k) → a.x ≤ b.x := by
      obtain ⟨i, hi, rfl⟩ := List.mem_iff_getElem.1 ha
      rw [List.length_take] at hi
      intro b hb
      rw [List.getElem_take]
      rcases hb with rfl | hb
      · have h1 := hlo (by omega)
        rw [List.getD_eq_getElem?_getD, List.getElem?_eq_getElem (by omega)] at h1
        simp at h1
        by_cases he : i = k - 1
        · subst he; exact h1
        · exact Int.le_trans (hidx i (k - 1) (by omega) (by omega) (by omega)) h1
      · obtain ⟨j, hj, rfl⟩ := List.mem_iff_getElem.1 hb
        rw [List.length_drop] at hj
        rw [List.getElem_drop]
        exact hidx i (k + j) (by omega) (by omega) (by omega)
    exact hab b (List.mem_cons.1 hb)

/-- The triples of a list with a greatest number. -/
def ofz (n : Int) (ts : List T3) : List T3 := ts.filter fun t => decide (t.z = n)
theorem ofz_snoc (n : Int) (ts : List T3) (t : T3) : ofz n (ts ++ [t]) = if t.z = n then ofz n ts ++ [t] else ofz n ts := by
  unfold ofz
  rw [List.filter_append]
  by_cases h : t.z = n
  · rw [if_pos h]; simp [h]
  · rw [if_neg h]; simp [h]
def ofS (n : Int) (L : List T3) (t : T3) : List T3 := if t.z = n then putT L t else L
def ofs (n : Int) (ts : List T3) : List T3 := ts.foldl (ofS n) []
theorem ofs_snoc (n : Int) (ts : List T3) (t : T3) : ofs n (ts ++ [t]) = if t.z = n then putT (ofs n ts) t else ofs n ts := by simp [ofs, ofS]
theorem ofs_facts (n : Int) (ts : List T3) : (ofs n ts).Perm (ofz n ts) ∧ (ofs n ts).Pairwise fun a b => a.x ≤ b.x := by
  induction hn : ts.length generalizing ts with
  | zero => have := List.length_eq_zero_iff.1 hn; subst this; exact ⟨List.Perm.refl _, List.Pairwise.nil⟩
  | succ k ih =>
    have hne : ts ≠ [] := by intro h; rw [h] at hn; simp at hn
    have e := List.dropLast_concat_getLast hne
    obtain ⟨h1, h2⟩ := ih ts.dropLast (by simp; omega)
    rw [← e, ofs_snoc, ofz_snoc]
    by_cases h : (ts.getLast hne).z = n
    · rw [if_pos h, if_pos h]
      refine ⟨(putT_perm _ _).trans ((List.Perm.cons _ h1).trans (List.perm_append_singleton _ _).symm), putT_sorted h2⟩
    · rw [if_neg h, if_neg h]; exact ⟨h1, h2⟩
theorem ofz_len (n : Int) (ts : List T3) : (ofz n ts).length ≤ ts.length := List.length_filter_le _ _
/-- All triples with a greatest number, in order. -/
def tof (n : Int) : List T3 := ofs n (allT n)
theorem tof_unique {n : Int} (h1 : 1 ≤ n) {ts us : List T3} (hp : ts.Perm (allT n)) (hu : us.Perm (ofz n ts)) (hs : us.Pairwise fun a b => a.x ≤ b.x) : us = tof n := by
  have hm : ∀ t ∈ ofz n ts, Mk t ∧ t.z = n := fun t ht => by
    obtain ⟨a, b⟩ := List.mem_filter.1 ht
    exact ⟨(allT_mk h1 (hp.mem_iff.1 a)).1, by simpa using b⟩
  obtain ⟨f1, f2⟩ := ofs_facts n (allT n)
  exact mk_sorted_unique hm hu (f1.trans (hp.symm.filter _)) hs f2

end Go.Proofs.Ytjmllmadoelioaa
