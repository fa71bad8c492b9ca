/- Rising lists: how the reference makes them, one number after the other, and how the program makes them from an ordered list, with counts. -/
import Derived.Test.YtpagfikhcmeciaaBase
namespace Go.Proofs.Ytpagfikhcmeciaa

def putS (n : Int) (s : List Int × Bool) (a : Int) : List Int × Bool := if s.2 = false ∧ n ≤ a then ((if n < a then s.1 ++ [n] else s.1) ++ [a], true) else (s.1 ++ [a], s.2)
/-- The reference's way to put a number to its place. -/
def put (L : List Int) (n : Int) : List Int := if (L.foldl (putS n) ([], false)).2 = true then (L.foldl (putS n) ([], false)).1 else (L.foldl (putS n) ([], false)).1 ++ [n]
def putR : List Int → Int → List Int
  | [], n => [n]
  | a :: L, n => if n < a then n :: a :: L else if n = a then a :: L else a :: putR L n
theorem putS_true (n : Int) : ∀ (L o : List Int), L.foldl (putS n) (o, true) = (o ++ L, true)
  | [], o => by simp
  | a :: L, o => by
    rw [List.foldl_cons]
    have : putS n (o, true) a = (o ++ [a], true) := by unfold putS; simp
    rw [this, putS_true n L]; simp
theorem putS_all (n : Int) : ∀ (L o : List Int), (if (L.foldl (putS n) (o, false)).2 = true then (L.foldl (putS n) (o, false)).1 else (L.foldl (putS n) (o, false)).1 ++ [n]) = o ++ putR L n
  | [], o => by simp [putR]
  | a :: L, o => by
    rw [List.foldl_cons]
    by_cases h1 : n < a
    · have : putS n (o, false) a = (o ++ [n] ++ [a], true) := by unfold putS; rw [if_pos ⟨rfl, by omega⟩, if_pos h1]
      rw [this, putS_true, putR, if_pos h1]; simp
    · by_cases h2 : n = a
      · have : putS n (o, false) a = (o ++ [a], true) := by unfold putS; rw [if_pos ⟨rfl, by omega⟩, if_neg h1]
        rw [this, putS_true, putR, if_neg h1, if_pos h2]; simp
      · have : putS n (o, false) a = (o ++ [a], false) := by unfold putS; rw [if_neg (fun h => by omega)]
        rw [this, putS_all n L, putR, if_neg h1, if_neg h2]; simp
theorem put_eq (L : List Int) (n : Int) : put L n = putR L n := by
  have := putS_all n L []
  rw [List.nil_append] at this
  exact this
theorem mem_putR {x n : Int} : ∀ {L : List Int}, x ∈ putR L n ↔ x = n ∨ x ∈ L
  | [] => by simp [putR]
  | a :: L => by
    rw [putR]
    by_cases h1 : n < a
    · rw [if_pos h1]; simp
    · rw [if_neg h1]
      by_cases h2 : n = a
      · rw [if_pos h2]; subst h2; simp
      · rw [if_neg h2]; simp [mem_putR (L := L)]
        constructor
        · rintro (h | h | h) <;> simp [h]
        · rintro (h | h | h) <;> simp [h]
def Asc (L : List Int) : Prop := L.Pairwise (· < ·)
theorem asc_putR {n : Int} : ∀ {L : List Int}, Asc L → Asc (putR L n)
  | [], _ => by simp [putR, Asc]
  | a :: L, h => by
    have h' := List.pairwise_cons.1 h
    rw [putR]
    by_cases h1 : n < a
    · rw [if_pos h1]
      refine List.pairwise_cons.2 ⟨fun b hb => ?_, h⟩
      rcases List.mem_cons.1 hb with rfl | hb
      · exact h1
      · have := h'.1 b hb; omega
    · rw [if_neg h1]
      by_cases h2 : n = a
      · rw [if_pos h2]; exact h
      · rw [if_neg h2]
        refine List.pairwise_cons.2 ⟨fun b hb => ?_, asc_putR h'.2⟩
        rcases mem_putR.1 hb with rfl | hb
        · omega
        · exact h'.1 b hb
theorem put_len (L : List Int) (n : Int) : (put L n).length ≤ L.length + 1 := by
  rw [put_eq]
  induction L with
  | nil => simp [putR]
  | cons a L ih =>
    rw [putR]
    split
    · simp
    · split
      · simp
      · simp; omega
/-- All numbers of a list, rising. -/
def puts (L : List Int) : List Int := L.foldl put []
theorem puts_snoc (L : List Int) (n : Int) : puts (L ++ [n]) = put (puts L) n := by simp [puts]
theorem puts_asc_mem (L : List Int) : Asc (puts L) ∧ (∀ x, x ∈ puts L ↔ x ∈ L) ∧ (puts L).length ≤ L.length := by
  induction hn : L.length generalizing L with
  | zero => have := List.length_eq_zero_iff.1 hn; subst this; exact ⟨List.Pairwise.nil, fun x => Iff.rfl, Nat.le_refl _⟩
  | succ k ih =>
    have hne : L ≠ [] := by intro h; rw [h] at hn; simp at hn
    have e := List.dropLast_concat_getLast hne
    have hl : L.dropLast.length = k := by simp; omega
    obtain ⟨h1, h2, h3⟩ := ih L.dropLast hl
    rw [← e, puts_snoc]
    refine ⟨by rw [put_eq]; exact asc_putR h1, fun x => ?_, ?_⟩
    · rw [put_eq, mem_putR, h2 x, List.mem_append, List.mem_singleton, Or.comm]
    · have := put_len (puts L.dropLast) (L.getLast hne)
      omega
theorem asc_nodup {L : List Int} (h : Asc L) : L.Nodup := List.Pairwise.imp (fun h => by omega) h
theorem asc_unique {A B : List Int} (hA : Asc A) (hB : Asc B) (h : ∀ x, x ∈ A ↔ x ∈ B) : A = B := by
  refine List.Perm.eq_of_pairwise (le := fun a b => a < b) (fun a b _ _ h1 h2 => by omega) hA hB ?_
  exact (List.perm_ext_iff_of_nodup (asc_nodup hA) (asc_nodup hB)).2 h

/-- The program's round: a number that is not the last one is put to the list with the count 0; then the last count grows. -/
def ddA (s : List Int × List Int) (n : Int) : List Int × List Int := if s.1.getLast? = some n then s else (s.1 ++ [n], s.2 ++ [0])
def ddS (s : List Int × List Int) (n : Int) : List Int × List Int := ((ddA s n).1, (ddA s n).2.set ((ddA s n).2.length - 1) ((ddA s n).2.getD ((ddA s n).2.length - 1) 0 + 1))
def dd (L : List Int) : List Int × List Int := L.foldl ddS ([], [])
theorem dd_snoc (L : List Int) (n : Int) : dd (L ++ [n]) = ddS (dd L) n := by simp [dd]
theorem asc_snoc {L : List Int} {n : Int} (h : Asc L) (hn : ∀ x ∈ L, x < n) : Asc (L ++ [n]) := by
  refine List.pairwise_append.2 ⟨h, List.pairwise_singleton _ _, fun a ha b hb => ?_⟩
  rw [List.mem_singleton] at hb; subst hb; exact hn a ha
theorem dd_facts (L : List Int) (hs : L.Pairwise (· ≤ ·)) : Asc (dd L).1 ∧ (∀ x, x ∈ (dd L).1 ↔ x ∈ L) ∧ (dd L).2 = (dd L).1.map (fun x => (L.count x : Int)) ∧ (dd L).1.length ≤ L.length ∧ ((dd L).1 = [] → L = []) := by
  induction hn : L.length generalizing L with
  | zero => have := List.length_eq_zero_iff.1 hn; subst this; exact ⟨List.Pairwise.nil, fun x => Iff.rfl, rfl, Nat.le_refl _, fun _ => rfl⟩
  | succ k ih =>
    have hne : L ≠ [] := by intro h; rw [h] at hn; simp at hn
    have e := List.dropLast_concat_getLast hne
    have hl : L.dropLast.length = k := by simp; omega
    have hs' := hs
    rw [← e] at hs'
    obtain ⟨hs1, _, hs2⟩ := List.pairwise_append.1 hs'
    have hall : ∀ x ∈ L.dropLast, x ≤ L.getLast hne := fun x hx => hs2 x hx _ (by simp)
    obtain ⟨h1, h2, h3, h4, h5⟩ := ih L.dropLast hs1 hl
    rw [← e, dd_snoc]
    generalize L.getLast hne = n at *
    generalize L.dropLast = M at *
    by_cases hc : (dd M).1.getLast? = some n
    · have ha : ddA (dd M) n = dd M := by unfold ddA; rw [if_pos hc]
      have hd : ∃ D, (dd M).1 = D ++ [n] := by
        have hne2 : (dd M).1 ≠ [] := by intro h; rw [h] at hc; simp at hc
        have e2 := List.dropLast_concat_getLast hne2
        rw [List.getLast?_eq_some_getLast hne2] at hc
        injection hc with hc
        rw [hc] at e2
        exact ⟨_, e2.symm⟩
      obtain ⟨D, hD⟩ := hd
      have hmem : n ∈ M := (h2 n).1 (by rw [hD]; simp)
      unfold ddS
      rw [ha]
      refine ⟨h1, fun x => ?_, ?_, Nat.le_succ_of_le h4, fun h => ?_⟩
      · rw [h2 x, List.mem_append, List.mem_singleton]
        constructor
        · exact Or.inl
        · rintro (h | rfl)
          · exact h
          · exact hmem
      · show ((dd M).2.set _ _) = _
        rw [h3, hD]
        rw [hD] at h1
        have hlt := (List.pairwise_append.1 h1).2.2
        simp only [List.map_append, List.map_cons, List.map_nil, List.length_append, List.length_map, List.length_cons, List.length_nil, Nat.zero_add, Nat.add_sub_cancel]
        have hg : (D.map (fun x => (M.count x : Int)) ++ [(M.count n : Int)]).getD D.length 0 = (M.count n : Int) := by
          rw [List.getD_eq_getElem?_getD, List.getElem?_append_right (by simp)]; simp
        rw [hg, List.set_append_right _ _ (by simp)]
        simp only [List.length_map, Nat.sub_self, List.set_cons_zero]
        congr 1
        · apply List.map_congr_left
          intro x hx
          have := hlt x hx n (by simp)
          rw [List.count_append, List.count_singleton]
          have hb : (n == x) = false := beq_eq_false_iff_ne.2 (by omega)
          rw [hb]; simp
        · rw [List.count_append, List.count_singleton]; simp
      · exact absurd h (by rw [hD]; simp)
    · have ha : ddA (dd M) n = ((dd M).1 ++ [n], (dd M).2 ++ [0]) := by unfold ddA; rw [if_neg hc]
      have hlt : ∀ x ∈ M, x < n := by
        intro x hx
        have h0 := hall x hx
        by_cases hxn : x = n
        · exfalso
          subst hxn
          have hxd := (h2 x).2 hx
          have hne2 : (dd M).1 ≠ [] := by intro h; rw [h] at hxd; simp at hxd
          have e2 := List.dropLast_concat_getLast hne2
          have hl2 : (dd M).1.getLast hne2 ≤ x := hall _ ((h2 _).1 (List.getLast_mem hne2))
          have hxe : x = (dd M).1.getLast hne2 := by
            rw [← e2] at hxd h1
            rcases List.mem_append.1 hxd with h | h
            · have := (List.pairwise_append.1 h1).2.2 x h _ (List.mem_singleton.2 rfl)
              omega
            · simpa using h
          exact hc (by rw [List.getLast?_eq_some_getLast hne2, ← hxe])
        · omega
      have hnm : n ∉ M := fun h => by have := hlt n h; omega
      unfold ddS
      rw [ha]
      refine ⟨asc_snoc h1 (fun x hx => hlt x ((h2 x).1 hx)), fun x => ?_, ?_, by simp; omega, fun h => absurd h (by simp)⟩
      · simp [h2 x]
      · show (((dd M).2 ++ [0]).set _ _) = _
        have hl2 : (dd M).2.length = (dd M).1.length := by rw [h3]; simp
        simp only [List.map_append, List.map_cons, List.map_nil, List.length_append, List.length_cons, List.length_nil, Nat.zero_add, Nat.add_sub_cancel]
        rw [List.set_append_right _ _ (Nat.le_refl _), Nat.sub_self]
        have hg : ((dd M).2 ++ [(0 : Int)]).getD (dd M).2.length 0 = 0 := by
          rw [List.getD_eq_getElem?_getD, List.getElem?_append_right (Nat.le_refl _)]; simp
        rw [hg, List.set_cons_zero, h3]
        congr 1
        · apply List.map_congr_left
          intro x hx
          have := hlt x ((h2 x).1 hx)
          rw [List.count_append, List.count_singleton]
          have hb : (n == x) = false := beq_eq_false_iff_ne.2 (by omega)
          rw [hb]; simp
        · rw [List.count_append, List.count_singleton, List.count_eq_zero.2 hnm]; simp

/-- What the program makes of the ordered list is what the reference makes of the list as it was. -/
theorem dd_puts {L S : List Int} (hp : S.Perm L) (hs : S.Pairwise (· ≤ ·)) : (dd S).1 = puts L ∧ (dd S).2 = (puts L).map (fun x => (L.count x : Int)) := by
  obtain ⟨h1, h2, h3, _⟩ := dd_facts S hs
  obtain ⟨g1, g2, _⟩ := puts_asc_mem L
  have e : (dd S).1 = puts L := asc_unique h1 g1 (fun x => by rw [h2 x, g2 x, hp.mem_iff])
  refine ⟨e, ?_⟩
  rw [h3, e]
  apply List.map_congr_left
  intro x _
  rw [hp.count_eq]

end Go.Proofs.Ytpagfikhcmeciaa
