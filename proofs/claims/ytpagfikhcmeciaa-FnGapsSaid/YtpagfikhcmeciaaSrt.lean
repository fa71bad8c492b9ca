/- A row behind the library's sort: what it holds, and that nothing else has changed. -/
import Derived.Test.YtpagfikhcmeciaaRow
import Derived.Test.YtpagfikhcmeciaaInts
import Derived.Shelf.GgSortFunc.Insertion
namespace Go.Proofs.Ytpagfikhcmeciaa
open Go.RowKit Go.Sort

/-- Draws and new blocks alone. -/
theorem grow_below (w : World) (m : Nat) (os : Array Obj) : Below w.heap.size w (grow (w.drewN m) os) :=
  ⟨rfl, rfl, rfl, by simp, fun k hk => heap_grow_old (w.drewN m) os hk⟩

theorem grow_drew (w : World) (m : Nat) (os : Array Obj) : Below w.heap.size w (grow (w.drew.drewN m) os) :=
  ⟨rfl, rfl, rfl, (by rw [size_grow]; exact Nat.le_add_right _ _), fun k hk => heap_grow_old (w.drew.drewN m) os hk⟩

section
variable {α : Type} [Inhabited α] {enc : α → Value} {w : World} {g n cap : Nat} {e : TypeId} {d d' : Array α}
theorem arr_get {d : Array α} {j : Nat} (h : j < d.size) : (d.toList.map enc)[j]? = some (enc d[j]!) := by
  rw [List.getElem?_map, Array.getElem?_toList, Array.getElem?_eq_getElem h, getElem!_pos d j h]; rfl
theorem Row.holds (h : Row w g e 1 n cap (d.toList.map enc)) : Holds enc w g 0 d := fun j hj => by
  rw [Nat.zero_add]
  exact ⟨h.cell (arr_get hj), h.frozen j⟩
theorem sort_row (h : Row w g e 1 n cap (d.toList.map enc)) (hs : d'.size = d.size) (m : Nat) (os : Array Obj) :
    Row (sortWorld enc w g 0 m d' os) g e 1 n cap (d'.toList.map enc) ∧ w.grownBy (sortWorld enc w g 0 m d' os) (some g) := by
  have hlt := h.lt
  obtain ⟨cur, h1, h2, h3, h4, h5, h6⟩ := h
  rw [Nat.mul_one] at h4 h5 h6
  have hn : d.size = n := by simpa using h6
  have hb : (sortWorld enc w g 0 m d' os).heap[g]? = some (.cells (putCells enc 0 d' cur) e (0, 0)) := by
    unfold sortWorld
    rw [heap_grow_old _ _ (by simp [putRow, mapBlock]; exact hlt)]
    simp only [putRow, mapBlock, Array.getElem?_modify, if_true]
    show ((w.heap[g]?).map _) = _
    rw [h1]; rfl
  refine ⟨⟨_, hb, h2, h3, by rw [putCells, Array.size_mapIdx, h4, Nat.mul_one], ?_, by rw [List.length_map, Array.length_toList, hs, hn, Nat.mul_one]⟩, ?_⟩
  · rw [Nat.mul_one]
    apply List.ext_getElem?
    intro j
    by_cases hj : j < n
    · rw [arr_get (by omega), List.getElem?_take, if_pos hj, Array.getElem?_toList]
      have hc : j < cur.size := by omega
      simp only [putCells, Array.getElem?_mapIdx, Array.getElem?_eq_getElem hc, Option.map_some]
      rw [if_pos (by omega), Nat.sub_zero]
    · rw [List.getElem?_eq_none (by rw [List.length_take]; omega), List.getElem?_eq_none (by simp; omega)]
  · refine ⟨rfl, rfl, rfl, by unfold sortWorld; simp [putRow, mapBlock, Sort.ahead], fun b hb hne => ?_⟩
    unfold sortWorld
    rw [heap_grow_old _ _ (by simp [putRow, mapBlock]; exact hb)]
    simp only [putRow, mapBlock, Array.getElem?_modify]
    rw [if_neg (fun h => hne (by rw [h]))]
    rfl
end

end Go.Proofs.Ytpagfikhcmeciaa
