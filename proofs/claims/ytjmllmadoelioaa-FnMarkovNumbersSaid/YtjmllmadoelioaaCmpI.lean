/- slices.Compact at ordered lists of numbers. -/
import Derived.Test.YtjmllmadoelioaaSrtI
import Derived.Test.YtjmllmadoelioaaShelfC
import Derived.Shelf.SlicesE.Compact
namespace Go.Proofs.Ytjmllmadoelioaa
open Go.RowKit Go.Sort Go.Shelf Go.Lib

theorem Row.cut {w : World} {g k n m cap : Nat} {e : TypeId} {xs : List Value} (h : Row w g e k n cap xs) (hm : m ≤ n) : Row w g e k m cap (xs.take (m * k)) := by
  obtain ⟨cur, h1, h2, h3, h4, h5, h6⟩ := h
  have hmk : m * k ≤ n * k := Nat.mul_le_mul_right _ hm
  refine ⟨cur, h1, by omega, h3, h4, ?_, by rw [List.length_take, h6]; omega⟩
  rw [← h5, List.take_take, Nat.min_eq_left hmk]

theorem dd_last (L : List Int) (n : Int) : (dd (L ++ [n])).1.getLast? = some n := by
  rw [dd_snoc]
  unfold ddS ddA
  by_cases h : (dd L).1.getLast? = some n
  · rw [if_pos h]; exact h
  · rw [if_neg h]; simp
theorem arr_at (L : List Int) {j : Nat} (h : j < L.length) : L.toArray[j]! = L.getD j 0 := by
  rw [getElem!_pos L.toArray j (by simpa using h), List.getD_eq_getElem?_getD, List.getElem?_eq_getElem h]; rfl
theorem compact_dd (L : List Int) : ∀ m, m ≤ L.length → compactUpTo L.toArray m = (dd (L.take m)).1
  | 0, _ => by simp [compactUpTo, dd]
  | m + 1, h => by
    have e : L.take (m + 1) = L.take m ++ [L.getD m 0] := by
      rw [List.take_succ_eq_append_getElem (by omega), List.getD_eq_getElem?_getD, List.getElem?_eq_getElem (by omega)]; rfl
    rw [compactUpTo_succ, compact_dd L m (by omega), e, dd_snoc]
    unfold ddS ddA
    have hk : keeps L.toArray m = true ↔ ¬ (dd (L.take m)).1.getLast? = some (L.getD m 0) := by
      by_cases hm : m = 0
      · subst hm
        simp [keeps, dd]
      · have e2 : L.take m = L.take (m - 1) ++ [L.getD (m - 1) 0] := by
          obtain ⟨i, rfl⟩ : ∃ i, m = i + 1 := ⟨m - 1, by omega⟩
          rw [List.take_succ_eq_append_getElem (by omega), List.getD_eq_getElem?_getD, List.getElem?_eq_getElem (by omega)]; rfl
        rw [e2, dd_last]
        by_cases hx : L.toArray[m]! = L.toArray[m - 1]!
        · rw [keeps_neg (by omega) hx]
          rw [arr_at L (by omega), arr_at L (by omega)] at hx
          rw [hx]
          constructor
          · intro h; cases h
          · intro h; exact absurd rfl h
        · rw [keeps_pos hx]
          rw [arr_at L (by omega), arr_at L (by omega)] at hx
          simp only [true_iff]
          intro h; injection h with h; exact hx h.symm
    by_cases hc : (dd (L.take m)).1.getLast? = some (L.getD m 0)
    · have : keeps L.toArray m = false := by
        cases hkk : keeps L.toArray m
        · rfl
        · exact absurd hc (hk.1 hkk)
      rw [if_pos hc, this]; simp
    · rw [if_neg hc, if_pos (hk.2 hc), arr_at L (by omega)]

theorem compactI_any (g n cap : Nat) (L : List Int) (w : World) (hn : n ≤ 1000000000) (h : Row w g 2 1 n cap (il L)) :
    Calls Try.prog 58 #[.slice (some ⟨g, 0, none⟩) n cap] w fun e w' => e = .returned (.slice (some ⟨g, 0, none⟩) (dd L).1.length cap) ∧ Row w' g 2 1 (dd L).1.length cap (il (dd L).1) ∧ w.grownBy w' (some g) := by
  have hl : L.length = n := by have := h.len; rw [il_len] at this; omega
  subst hl
  have hcap := h.cap_
  have hr : Row w g 2 1 L.length cap (L.toArray.toList.map (Value.int .i64)) := h
  have hcon := AnyE.slices_Compact Try.compactI (Value.int .i64) (fun _ => rfl) (EqlAt.intD _ _ .i64) (NeqAt.intD _ _ .i64) 0 Try.zeroValue2 g 0 cap L.toArray w hr.holds (by simp; omega) (by simp; omega)
  have he : compactUpTo L.toArray L.toArray.size = (dd L).1 := by
    have := compact_dd L L.length (Nat.le_refl _)
    rw [List.take_length] at this
    exact this
  rw [he] at hcon
  have hle : (dd L).1.length ≤ L.length := by
    rw [← he]; unfold compactUpTo
    rw [List.length_map]
    exact Nat.le_trans (List.length_filter_le _ _) (by simp)
  refine Calls.mono (show Calls Try.prog 58 _ w _ from hcon) ?_
  rintro e w' ⟨rfl, m, rfl⟩
  obtain ⟨a1, a2⟩ := sort_row (d' := ((dd L).1 ++ List.replicate (L.toArray.size - (dd L).1.length) 0).toArray) hr (by simp; omega) m #[]
  have e2 : sortWorld (Value.int .i64) w g 0 m ((dd L).1 ++ List.replicate (L.toArray.size - (dd L).1.length) 0).toArray #[] = putRow (Value.int .i64) (Sort.ahead w m) g 0 ((dd L).1 ++ List.replicate (L.toArray.size - (dd L).1.length) 0).toArray := by unfold sortWorld; rw [grow_empty]
  rw [e2] at a1 a2
  refine ⟨rfl, ?_, a2⟩
  have := a1.cut hle
  rw [Nat.mul_one] at this
  simp only [List.map_append] at this
  rw [List.take_left' (by simp)] at this
  exact this

end Go.Proofs.Ytjmllmadoelioaa
