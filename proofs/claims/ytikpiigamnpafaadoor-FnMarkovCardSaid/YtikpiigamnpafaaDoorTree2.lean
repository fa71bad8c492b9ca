/- The tree of Markov triples, walked level by level: plain facts. -/
import Derived.Test.YtikpiigamnpafaaDoorTree
namespace Go.Proofs.YtikpiigamnpafaaDoor

/-- The children that are looked at first, as far as they are small enough. -/
def kids (M : Int) (t : T3) (j : Nat) : List T3 := ([t.left, t.right].take j).filter fun u => decide (u.z ≤ M)
theorem kids_le (M : Int) (t : T3) (j : Nat) : (kids M t j).length ≤ 2 := by
  unfold kids
  refine Nat.le_trans (List.length_filter_le _ _) ?_
  simp; omega
theorem kids_flat {M : Int} (hM : M ≤ 1000000) {t : T3} (ht : t.Up) : (kids M t 2).flatMap (tr M) = tr M t.left ++ tr M t.right := by
  have nl : M < t.left.z → tr M t.left = [] := fun h => by rw [tr_eq hM ht.left.1, if_neg (by omega)]
  have nr : M < t.right.z → tr M t.right = [] := fun h => by rw [tr_eq hM ht.right.1, if_neg (by omega)]
  unfold kids
  by_cases hl : t.left.z ≤ M <;> by_cases hr : t.right.z ≤ M
  · simp [hl, hr]
  · simp [hl, hr, nr (by omega)]
  · simp [hl, hr, nl (by omega)]
  · simp [hl, hr, nl (by omega), nr (by omega)]
theorem kids_mem {M : Int} {t u : T3} {j : Nat} (ht : t.Up) (h : u ∈ kids M t j) : u.Up ∧ u.z ≤ M := by
  unfold kids at h
  obtain ⟨h1, h2⟩ := List.mem_filter.1 h
  have h3 := List.mem_of_mem_take h1
  simp at h2 h3
  refine ⟨?_, h2⟩
  rcases h3 with rfl | rfl
  · exact ht.left.1
  · exact ht.right.1

theorem flat_ge {M : Int} (hM : M ≤ 1000000) : ∀ Q : List T3, (∀ t ∈ Q, t.Up ∧ t.z ≤ M) → Q.length ≤ (Q.flatMap (tr M)).length
  | [], _ => by simp
  | t :: Q, h => by
    have h1 := flat_ge hM Q (fun u hu => h u (by simp [hu]))
    have ht := h t (by simp)
    have e : (tr M t).length ≠ 0 := by rw [tr_eq hM ht.1, if_pos ht.2]; simp
    simp only [List.flatMap_cons, List.length_append, List.length_cons]
    omega

/-- What holds when i triples of the list have been looked at. -/
def Lev (M : Int) (L : List T3) (i : Nat) : Prop := i ≤ L.length ∧ (L.take i ++ (L.drop i).flatMap (tr M)).Perm (allT M) ∧ ∀ t ∈ L.drop i, t.Up ∧ t.z ≤ M
theorem Lev.len {M : Int} (hM : M ≤ 1000000) {L : List T3} {i : Nat} (h : Lev M L i) : L.length ≤ (allT M).length := by
  obtain ⟨h1, h2, h3⟩ := h
  have e := h2.length_eq
  have g := flat_ge hM _ h3
  simp only [List.length_append, List.length_take, List.length_drop] at e g
  omega
theorem Lev.next {M : Int} (hM : M ≤ 1000000) {L : List T3} {i : Nat} (h : Lev M L i) (hi : i < L.length) : Lev M (L ++ kids M L[i] 2) (i + 1) := by
  obtain ⟨_, h2, h3⟩ := h
  rw [List.drop_eq_getElem_cons hi] at h2 h3
  have ht := h3 L[i] List.mem_cons_self
  refine ⟨by simp; omega, ?_, ?_⟩
  · rw [List.take_append_of_le_length (by omega), List.drop_append_of_le_length (by omega), List.flatMap_append, kids_flat hM ht.1]
    rw [List.flatMap_cons, tr_eq hM ht.1, if_pos ht.2] at h2
    refine List.Perm.trans ?_ h2
    rw [List.take_succ_eq_append_getElem hi, List.append_assoc]
    refine List.Perm.append_left _ ?_
    simp only [List.cons_append, List.nil_append]
    refine List.Perm.cons _ ?_
    exact List.perm_append_comm
  · intro u hu
    rw [List.drop_append_of_le_length (by omega)] at hu
    rcases List.mem_append.1 hu with hu | hu
    · exact h3 u (List.mem_cons_of_mem _ hu)
    · exact kids_mem ht.1 hu
theorem Lev.done {M : Int} {L : List T3} (h : Lev M L L.length) : L.Perm (allT M) := by
  have := h.2.1
  simpa using this
theorem Lev.start {M : Int} (h : 5 ≤ M) : Lev M (small M ++ [⟨1, 2, 5⟩]) (small M).length := by
  refine ⟨by simp, ?_, ?_⟩
  · simp [allT]
  · intro t ht
    simp at ht
    subst ht
    exact ⟨by simp [T3.Up], h⟩
theorem allT_few {M : Int} (h : M < 5) : allT M = small M := by
  have e : tr M ⟨1, 2, 5⟩ = [] := by rw [tr_eq (by omega) (by simp [T3.Up]), if_neg (by simpa using h)]
  rw [allT, e, List.append_nil]

end Go.Proofs.YtikpiigamnpafaaDoor
