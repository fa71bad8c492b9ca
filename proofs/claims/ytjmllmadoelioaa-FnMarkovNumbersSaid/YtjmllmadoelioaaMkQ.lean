/- Markov numbers up to a limit, and the triples of each: plain facts. -/
import Derived.Test.YtjmllmadoelioaaMkP
import Derived.Test.YtjmllmadoelioaaPut
import Derived.Test.YtjmllmadoelioaaMkN
namespace Go.Proofs.Ytjmllmadoelioaa

/-- What is left of a tree below a smaller limit. -/
theorem tree_filter {z M : Int} (hz : z ≤ M) : ∀ (f : Nat) (t : T3), t.Up → (tree M f t).filter (fun u => decide (u.z ≤ z)) = tree z f t
  | 0, _, _ => rfl
  | f + 1, t, h => by
    have hl := tree_filter hz f t.left h.left.1
    have hr := tree_filter hz f t.right h.right.1
    rw [tree, tree]
    by_cases h1 : t.z ≤ z
    · rw [if_pos (by omega : t.z ≤ M), if_pos h1, List.filter_cons, if_pos (decide_eq_true h1), List.filter_append, hl, hr]
    · rw [if_neg h1]
      by_cases h2 : t.z ≤ M
      · rw [if_pos h2, List.filter_eq_nil_iff]
        intro u hu
        have hle : t.z ≤ u.z := by
          rw [List.mem_cons, List.mem_append] at hu
          have hz1 : 1 ≤ t.z := by obtain ⟨a, b, c⟩ := h; omega
          rcases hu with rfl | hu | hu
          · exact Int.le_refl _
          · have := tree_ge M f t.left u h.left.1 hu
            have := h.left.2
            omega
          · have := tree_ge M f t.right u h.right.1 hu
            have := h.right.2
            omega
        simp; omega
      · rw [if_neg h2]; rfl
where
  tree_ge (M : Int) : ∀ (f : Nat) (t u : T3), t.Up → u ∈ tree M f t → t.z ≤ u.z
    | 0, t, u, _, h => by simp [tree] at h
    | f + 1, t, u, ht, h => by
      have hz1 : 1 ≤ t.z := by obtain ⟨a, b, c⟩ := ht; omega
      rw [tree] at h
      by_cases hz : t.z ≤ M
      · rw [if_pos hz, List.mem_cons, List.mem_append] at h
        rcases h with rfl | h | h
        · exact Int.le_refl _
        · have := tree_ge M f _ u ht.left.1 h
          have := ht.left.2
          omega
        · have := tree_ge M f _ u ht.right.1 h
          have := ht.right.2
          omega
      · rw [if_neg hz] at h; cases h
theorem allT_filter {z M : Int} (h1 : 1 ≤ z) (hz : z ≤ M) : (allT M).filter (fun u => decide (u.z ≤ z)) = allT z := by
  unfold allT small tr
  rw [List.filter_append, tree_filter hz 20 ⟨1, 2, 5⟩ (by unfold T3.Up; decide)]
  congr 1
  by_cases h2 : 2 ≤ z
  · rw [if_pos h2, if_pos (by omega)]
    simp [h1, h2]
  · rw [if_neg h2]
    by_cases h3 : 2 ≤ M
    · rw [if_pos h3]
      simp [h1, h2]
    · rw [if_neg h3]
      simp [h1]
theorem ofz_allT {z M : Int} (h1 : 1 ≤ z) (hz : z ≤ M) : ofz z (allT z) = ofz z (allT M) := by
  rw [← allT_filter h1 hz]
  unfold ofz
  rw [List.filter_filter]
  apply List.filter_congr
  intro t _
  by_cases h : t.z = z
  · simp [h]
  · simp [h]
theorem count_zl (z : Int) (ts : List T3) : (zl ts).count z = (ofz z ts).length := by
  unfold zl ofz
  induction ts with
  | nil => rfl
  | cons t ts ih =>
    rw [List.map_cons, List.count_cons, ih, List.filter_cons]
    by_cases h : t.z = z
    · rw [h]; simp
    · rw [beq_eq_false_iff_ne.2 h]; simp [h]
theorem tof_len {z M : Int} (h1 : 1 ≤ z) (hz : z ≤ M) : (tof z).length = (zl (allT M)).count z := by
  unfold tof
  rw [(ofs_facts z (allT z)).1.length_eq, ofz_allT h1 hz, count_zl]

/-- The counts of all numbers of a list make its length. -/
theorem sum_filter (p : Int → Nat) (D : List Int) (hD : D.Nodup) (x : Int) (hx : x ∈ D) (q : Int → Nat) (h : ∀ y, y ≠ x → q y = p y) (h2 : q x = p x + 1) : (D.map q).sum = (D.map p).sum + 1 := by
  induction D with
  | nil => cases hx
  | cons y D ih =>
    rw [List.nodup_cons] at hD
    simp only [List.map_cons, List.sum_cons]
    rcases List.mem_cons.1 hx with rfl | hx
    · have : D.map q = D.map p := List.map_congr_left (fun y hy => h y (fun e => hD.1 (e ▸ hy)))
      rw [this, h2]; omega
    · have := ih hD.2 hx
      have hy : y ≠ x := fun e => hD.1 (e ▸ hx)
      rw [this, h y hy]; omega
theorem count_sum (D : List Int) (hD : D.Nodup) : ∀ L : List Int, (∀ x ∈ L, x ∈ D) → (D.map fun z => L.count z).sum = L.length
  | [], _ => by
    have : (D.map fun z => ([] : List Int).count z) = D.map fun _ => 0 := by simp
    rw [this]
    clear this hD
    induction D with
    | nil => rfl
    | cons y D ih => simpa using ih
  | x :: L, h => by
    have ih := count_sum D hD L (fun y hy => h y (List.mem_cons_of_mem _ hy))
    rw [List.length_cons, ← ih]
    refine sum_filter (fun z => L.count z) D hD x (h x (by simp)) (fun z => (x :: L).count z) ?_ ?_
    · intro y hy
      exact List.count_cons_of_ne (fun e => hy e.symm)
    · exact List.count_cons_self
/-- The numbers of triples of all Markov numbers make the number of all triples. -/
theorem tof_sum {M : Int} (h1 : 1 ≤ M) : ((puts (zl (allT M))).map fun z => (tof z).length).sum = (allT M).length := by
  obtain ⟨p1, p2, _⟩ := puts_asc_mem (zl (allT M))
  have e : (puts (zl (allT M))).map (fun z => (tof z).length) = (puts (zl (allT M))).map (fun z => (zl (allT M)).count z) := by
    apply List.map_congr_left
    intro z hz
    obtain ⟨t, ht, rfl⟩ := List.mem_map.1 ((p2 z).1 hz)
    obtain ⟨hm, hle⟩ := allT_mk h1 ht
    obtain ⟨a, b, c⟩ := hm.1
    exact tof_len (by omega) hle
  rw [e, count_sum _ (asc_nodup p1) _ (fun x hx => (p2 x).2 hx)]
  simp [zl]
theorem mn_bd {M : Int} (h1 : 1 ≤ M) {z : Int} (hz : z ∈ puts (zl (allT M))) : 1 ≤ z ∧ z ≤ M ∧ 0 < (tof z).length := by
  obtain ⟨t, ht, rfl⟩ := List.mem_map.1 (((puts_asc_mem _).2.1 z).1 hz)
  obtain ⟨hm, hle⟩ := allT_mk h1 ht
  obtain ⟨a, b, c⟩ := hm.1
  refine ⟨by omega, hle, ?_⟩
  rw [tof_len (by omega) hle, List.count_pos_iff]
  exact List.mem_map.2 ⟨t, ht, rfl⟩
theorem mn_mem {n M : Int} (h1 : 1 ≤ n) (hn : n ≤ M) : (0 < (tof n).length) ↔ n ∈ puts (zl (allT M)) := by
  rw [tof_len h1 hn, List.count_pos_iff, (puts_asc_mem _).2.1]
theorem mn_first {M : Int} (h1 : 1 ≤ M) : ∃ L, puts (zl (allT M)) = 1 :: L := by
  obtain ⟨p1, p2, _⟩ := puts_asc_mem (zl (allT M))
  have h : (1 : Int) ∈ puts (zl (allT M)) := (p2 1).2 (List.mem_map.2 ⟨⟨1, 1, 1⟩, by simp [allT, small], rfl⟩)
  have hb := fun z hz => (mn_bd h1 (z := z) hz).1
  generalize puts (zl (allT M)) = D at *
  cases D with
  | nil => cases h
  | cons a L =>
    refine ⟨L, ?_⟩
    rcases List.mem_cons.1 h with h | h
    · rw [h]
    · have := (List.pairwise_cons.1 p1).1 1 h
      have := hb a (by simp)
      omega
theorem tof_mem {n : Int} (h1 : 1 ≤ n) {t : T3} (ht : t ∈ tof n) : Mk t ∧ t.z = n := by
  have := (ofs_facts n (allT n)).1.mem_iff.1 ht
  obtain ⟨a, b⟩ := List.mem_filter.1 this
  exact ⟨(allT_mk h1 a).1, by simpa using b⟩

end Go.Proofs.Ytjmllmadoelioaa
