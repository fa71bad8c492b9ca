/- The conjugates of a word in plain words: the one list in strict order that has them all. -/
import Derived.Test.YthfhjgmlcilmkaaGreatDoorStrL
import Derived.Test.YthfhjgmlcilmkaaGreatDoorWrd
import Derived.Lib.SlicesCompact
import Derived.Sort.EncStr
namespace Go.Proofs.YthfhjgmlcilmkaaGreatDoor
open Go.RowKit Go.Lib

/-- The letters of l, from the place i on, and those ahead of it behind them. -/
def rot (l : List UInt8) (i : Nat) : List UInt8 := l.drop i ++ l.take i
theorem rot_len (l : List UInt8) (i : Nat) : (rot l i).length = l.length := by
  unfold rot
  rw [List.length_append, List.length_drop, List.length_take]
  omega
theorem ss_eq : ∀ {a b : List (List UInt8)}, a.Pairwise (· < ·) → b.Pairwise (· < ·) → (∀ y, y ∈ a ↔ y ∈ b) → a = b
  | [], [], _, _, _ => rfl
  | [], y :: b, _, _, h => by have := (h y).2 (by simp); cases this
  | x :: a, [], _, _, h => by have := (h x).1 (by simp); cases this
  | x :: a, y :: b, ha, hb, h => by
    obtain ⟨ha1, ha2⟩ := List.pairwise_cons.1 ha
    obtain ⟨hb1, hb2⟩ := List.pairwise_cons.1 hb
    have hx : x = y := by
      rcases List.mem_cons.1 ((h x).1 (by simp)) with e | e
      · exact e
      · rcases List.mem_cons.1 ((h y).2 (by simp)) with e2 | e2
        · exact e2.symm
        · exact absurd (Std.lt_trans (hb1 x e) (ha1 y e2)) Std.lt_irrefl
    subst hx
    congr 1
    refine ss_eq ha2 hb2 (fun z => ?_)
    constructor
    · intro hz
      rcases List.mem_cons.1 ((h z).1 (List.mem_cons_of_mem _ hz)) with e | e
      · subst e; exact absurd (ha1 z hz) Std.lt_irrefl
      · exact e
    · intro hz
      rcases List.mem_cons.1 ((h z).2 (List.mem_cons_of_mem _ hz)) with e | e
      · subst e; exact absurd (hb1 z hz) Std.lt_irrefl
      · exact e

/-- In strict order, and just the first m conjugates. -/
def CR (l : List UInt8) (m : Nat) (out : List (List UInt8)) : Prop := out.Pairwise (· < ·) ∧ ∀ y, y ∈ out ↔ ∃ j, j < m ∧ y = rot l j
theorem CR.uniq {l : List UInt8} {m : Nat} {a b : List (List UInt8)} (h : CR l m a) (h' : CR l m b) : a = b := ss_eq h.1 h'.1 (fun y => (h.2 y).trans (h'.2 y).symm)
theorem CR.same {l : List UInt8} {i k : Nat} {out : List (List UInt8)} (h : CR l i out) (hk : k < out.length) (he : out[k] = rot l i) : CR l (i + 1) out := by
  refine ⟨h.1, fun y => ?_⟩
  rw [h.2]
  constructor
  · rintro ⟨j, hj, rfl⟩; exact ⟨j, by omega, rfl⟩
  · rintro ⟨j, hj, rfl⟩
    by_cases e : j = i
    · subst e
      rw [← he]
      exact (h.2 _).1 (List.getElem_mem hk)
    · exact ⟨j, by omega, rfl⟩
theorem CR.put {l : List UInt8} {i k : Nat} {out : List (List UInt8)} (h : CR l i out) (hk : k ≤ out.length) (hlow : ∀ j (hj : j < out.length), j < k → out[j] < rot l i) (hhigh : ∀ j (hj : j < out.length), k ≤ j → rot l i < out[j]) :
    CR l (i + 1) (out.take k ++ [rot l i] ++ out.drop k) := by
  refine ⟨?_, fun y => ?_⟩
  · rw [List.append_assoc, List.pairwise_append]
    have hhi : ∀ y, y ∈ out.drop k → rot l i < y := by
      intro y hy
      obtain ⟨j, hj, rfl⟩ := List.getElem_of_mem hy
      rw [List.getElem_drop]
      exact hhigh _ _ (by omega)
    have hlo : ∀ y, y ∈ out.take k → y < rot l i := by
      intro y hy
      obtain ⟨j, hj, rfl⟩ := List.getElem_of_mem hy
      rw [List.getElem_take]
      have : j < k := by rw [List.length_take] at hj; omega
      exact hlow _ _ this
    refine ⟨h.1.sublist (List.take_sublist k out), ?_, ?_⟩
    · show (rot l i :: out.drop k).Pairwise (· < ·)
      rw [List.pairwise_cons]
      exact ⟨hhi, h.1.sublist (List.drop_sublist k out)⟩
    · intro a ha b hb
      rcases List.mem_append.1 hb with hb | hb
      · rw [List.mem_singleton.1 hb]; exact hlo a ha
      · exact Std.lt_trans (hlo a ha) (hhi b hb)
  · have e : y ∈ out.take k ++ [rot l i] ++ out.drop k ↔ y ∈ out ∨ y = rot l i := by
      have : y ∈ out ↔ y ∈ out.take k ∨ y ∈ out.drop k := by
        rw [← List.mem_append, List.take_append_drop]
      rw [this]
      simp only [List.mem_append, List.mem_singleton]
      constructor
      · rintro ((h | h) | h)
        · exact .inl (.inl h)
        · exact .inr h
        · exact .inl (.inr h)
      · rintro ((h | h) | h)
        · exact .inl (.inl h)
        · exact .inr h
        · exact .inl (.inr h)
    rw [e, h.2]
    constructor
    · rintro (⟨j, hj, rfl⟩ | rfl)
      · exact ⟨j, by omega, rfl⟩
      · exact ⟨i, by omega, rfl⟩
    · rintro ⟨j, hj, rfl⟩
      by_cases e : j = i
      · subst e; exact .inr rfl
      · exact .inl ⟨j, by omega, rfl⟩
/-- In strict order: what lies below the place k - 1 lies below what is there. -/
theorem CR.below {l : List UInt8} {i k : Nat} {out : List (List UInt8)} (h : CR l i out) (hk : k < out.length) (hx : out[k] < rot l i) : ∀ j (hj : j < out.length), j < k + 1 → out[j] < rot l i := by
  intro j hj hjk
  by_cases e : j = k
  · subst e; exact hx
  · exact Std.lt_trans (List.pairwise_iff_getElem.1 h.1 j k hj hk (by omega)) hx

/-- Sorted, and each once. -/
def srtS (L : List (List UInt8)) : List (List UInt8) := L.mergeSort fun x y => decide (x ≤ y)
theorem srtS_perm (L : List (List UInt8)) : (srtS L).Perm L := List.mergeSort_perm _ _
theorem srtS_len (L : List (List UInt8)) : (srtS L).length = L.length := (srtS_perm L).length_eq
theorem srtS_sorted (L : List (List UInt8)) : (srtS L).Pairwise (· ≤ ·) := by
  have := List.pairwise_mergeSort (le := fun x y : List UInt8 => decide (x ≤ y)) (fun a b c h1 h2 => by simp only [decide_eq_true_eq] at *; exact Std.le_trans h1 h2) (fun a b => by simp only [Bool.or_eq_true, decide_eq_true_eq]; exact Std.le_total) L
  exact this.imp (fun h => by simpa using h)

theorem compact_ss {L : List (List UInt8)} (hs : L.Pairwise (· ≤ ·)) : ∀ m, m ≤ L.length → (compactUpTo L.toArray m).Pairwise (· < ·) ∧ (∀ y, y ∈ compactUpTo L.toArray m ↔ ∃ j, ∃ h : j < L.length, j < m ∧ y = L[j])
  | 0, _ => ⟨by simp [compactUpTo], fun y => by simp [compactUpTo]⟩
  | m + 1, hm => by
    obtain ⟨h1, h2⟩ := compact_ss hs m (by omega)
    have hat : ∀ j (hj : j < L.length), L.toArray[j]! = L[j] := fun j hj => by rw [getElem!_pos L.toArray j (by simpa using hj)]; simp
    have hle : ∀ j (hj : j < L.length) k (hk : k < L.length), j ≤ k → L[j] ≤ L[k] := by
      intro j hj k hk hjk
      by_cases e : j = k
      · subst e; exact Std.le_refl _
      · exact List.pairwise_iff_getElem.1 hs j k hj hk (by omega)
    rw [compactUpTo_succ]
    by_cases hk : m = 0 ∨ L.toArray[m]! ≠ L.toArray[m - 1]!
    · have : keeps L.toArray m = true := by unfold keeps; simpa using hk
      rw [if_pos this, hat m (by omega)]
      refine ⟨?_, fun y => ?_⟩
      · rw [List.pairwise_append]
        refine ⟨h1, List.pairwise_singleton _ _, ?_⟩
        intro a ha b hb
        rw [List.mem_singleton.1 hb]
        obtain ⟨j, hj, hjm, rfl⟩ := (h2 a).1 ha
        have hm0 : m ≠ 0 := by omega
        have hne : L[m] ≠ L[m - 1] := by
          rcases hk with h | h
          · exact absurd h hm0
          · rw [hat m (by omega), hat (m - 1) (by omega)] at h
            exact h
        have a1 := hle j hj (m - 1) (by omega) (by omega)
        have a2 := Std.lt_of_le_of_ne (hle (m - 1) (by omega) m (by omega) (by omega)) (Ne.symm hne)
        exact Std.lt_of_le_of_lt a1 a2
      · rw [List.mem_append, h2, List.mem_singleton]
        constructor
        · rintro (⟨j, hj, hjm, rfl⟩ | rfl)
          · exact ⟨j, hj, by omega, rfl⟩
          · exact ⟨m, by omega, by omega, rfl⟩
        · rintro ⟨j, hj, hjm, rfl⟩
          by_cases e : j = m
          · subst e; exact .inr rfl
          · exact .inl ⟨j, hj, by omega, rfl⟩
    · have : keeps L.toArray m = false := by
        unfold keeps
        simpa using hk
      rw [this]
      simp only [Bool.false_eq_true, if_false, List.append_nil]
      refine ⟨h1, fun y => ?_⟩
      rw [h2]
      have hm0 : m ≠ 0 := fun e => hk (.inl e)
      have heq : L[m] = L[m - 1] := by
        have : ¬ L.toArray[m]! ≠ L.toArray[m - 1]! := fun e => hk (.inr e)
        rw [hat m (by omega), hat (m - 1) (by omega)] at this
        exact Classical.not_not.1 this
      constructor
      · rintro ⟨j, hj, hjm, rfl⟩; exact ⟨j, hj, by omega, rfl⟩
      · rintro ⟨j, hj, hjm, rfl⟩
        by_cases e : j = m
        · subst e
          exact ⟨j - 1, by omega, by omega, heq⟩
        · exact ⟨j, hj, by omega, rfl⟩
/-- The conjugates, sorted, and each once. -/
theorem CR.sorted (l : List UInt8) : CR l l.length (compactUpTo (srtS ((List.range l.length).map (rot l))).toArray (srtS ((List.range l.length).map (rot l))).length) := by
  obtain ⟨h1, h2⟩ := compact_ss (srtS_sorted ((List.range l.length).map (rot l))) _ (Nat.le_refl _)
  refine ⟨h1, fun y => ?_⟩
  rw [h2]
  have hm : y ∈ srtS ((List.range l.length).map (rot l)) ↔ ∃ j, j < l.length ∧ y = rot l j := by
    rw [(srtS_perm _).mem_iff]
    simp only [List.mem_map, List.mem_range]
    constructor
    · rintro ⟨j, hj, rfl⟩; exact ⟨j, hj, rfl⟩
    · rintro ⟨j, hj, rfl⟩; exact ⟨j, hj, rfl⟩
  rw [← hm]
  constructor
  · rintro ⟨j, hj, _, rfl⟩; exact List.getElem_mem hj
  · intro h
    obtain ⟨j, hj, rfl⟩ := List.getElem_of_mem h
    exact ⟨j, hj, hj, rfl⟩

/-- What ConjugatesOf hands back: the code c and the words out. -/
def ConR (l : List UInt8) (c : Int) (out : List (List UInt8)) : Prop :=
  (okW l = false ∧ c = 1 ∧ out = []) ∨ (okW l = true ∧ 60 < l.length ∧ c = 2 ∧ out = []) ∨ (okW l = true ∧ l.length ≤ 60 ∧ c = 0 ∧ CR l l.length out)
theorem ConR.uniq {l : List UInt8} {c c' : Int} {a b : List (List UInt8)} (h : ConR l c a) (h' : ConR l c' b) : c = c' ∧ a = b := by
  rcases h with ⟨h1, rfl, rfl⟩ | ⟨h1, h2, rfl, rfl⟩ | ⟨h1, h2, rfl, h3⟩ <;> rcases h' with ⟨g1, rfl, rfl⟩ | ⟨g1, g2, rfl, rfl⟩ | ⟨g1, g2, rfl, g3⟩
  · exact ⟨rfl, rfl⟩
  · rw [h1] at g1; cases g1
  · rw [h1] at g1; cases g1
  · rw [h1] at g1; cases g1
  · exact ⟨rfl, rfl⟩
  · omega
  · rw [h1] at g1; cases g1
  · omega
  · exact ⟨rfl, h3.uniq g3⟩
def bas (out : List (List UInt8)) : List ByteArray := out.map fun l => ⟨l.toArray⟩
theorem bas_len (out : List (List UInt8)) : (bas out).length = out.length := by simp [bas]
theorem bas_at (out : List (List UInt8)) {j : Nat} (h : j < out.length) : (ssl (bas out))[j]? = some (.string ⟨(out[j]).toArray⟩) := by simp [ssl, bas, h]
theorem bas_enc (out : List (List UInt8)) : ssl (bas out) = out.map encStr := by simp [ssl, bas, Function.comp_def]

end Go.Proofs.YthfhjgmlcilmkaaGreatDoor
