/- The library's sort at lists of triples, by their first numbers. -/
import Derived.Test.YtjmllmadoelioaaSrt
import Derived.Test.YtjmllmadoelioaaMkUp
import Derived.Test.YtjmllmadoelioaaShelfT
import Derived.Shelf.SlSortCmp.NoneTotal
namespace Go.Proofs.Ytjmllmadoelioaa
open Go.RowKit Go.Sort Go.Shelf

/-- A row of elements of k cells behind the sort. -/
theorem sort_rowK {w : World} {g n k cap : Nat} {e : TypeId} {d d' : Array Value} (h : Row w g e k n cap (d.toList.map id)) (hs : d'.size = d.size) (m : Nat) (os : Array Obj) :
    Row (sortWorld id w g 0 m d' os) g e k n cap (d'.toList.map id) ∧ w.grownBy (sortWorld id w g 0 m d' os) (some g) := by
  have hlt := h.lt
  obtain ⟨cur, h1, h2, h3, h4, h5, h6⟩ := h
  have hn : d.size = n * k := by simpa using h6
  have hnc : n * k ≤ cap * k := Nat.mul_le_mul_right _ h2
  have hb : (sortWorld id w g 0 m d' os).heap[g]? = some (.cells (putCells id 0 d' cur) e (0, 0)) := by
    unfold sortWorld
    rw [heap_grow_old _ _ (by simp [putRow, mapBlock]; exact hlt)]
    simp only [putRow, mapBlock, Array.getElem?_modify, if_true]
    show ((w.heap[g]?).map _) = _
    rw [h1]; rfl
  refine ⟨⟨_, hb, h2, h3, by rw [putCells, Array.size_mapIdx, h4], ?_, by rw [List.length_map, Array.length_toList, hs, hn]⟩, ?_⟩
  · apply List.ext_getElem?
    intro j
    by_cases hj : j < n * k
    · rw [arr_get (by omega), List.getElem?_take, if_pos hj, Array.getElem?_toList]
      have hc : j < cur.size := by omega
      simp only [putCells, Array.getElem?_mapIdx, Array.getElem?_eq_getElem hc, Option.map_some]
      rw [if_pos (by omega), Nat.sub_zero]
    · rw [List.getElem?_eq_none (by rw [List.length_take]; omega), List.getElem?_eq_none (by simp; omega)]
  · refine ⟨rfl, rfl, rfl, by unfold sortWorld; simp [putRow, mapBlock, Sort.ahead], fun b hb hne => ?_⟩
    unfold sortWorld
    rw [heap_grow_old _ _ (by simp [putRow, mapBlock]; exact hb)]
    simp only [putRow, mapBlock, Array.getElem?_modify]
    rw [if_neg (fun h => hne (by rw [h]))]
    rfl
theorem Row.holdsK {w : World} {g n k cap : Nat} {e : TypeId} {d : Array Value} (h : Row w g e k n cap (d.toList.map id)) : Holds id w g 0 d := fun j hj => by
  rw [Nat.zero_add]
  exact ⟨h.cell (arr_get hj), h.frozen j⟩

theorem flat_cs3 (ts : List T3) : (flatK c3 3 ts.toArray).toList.map id = cs3 ts := by
  rw [List.map_id]
  apply List.ext_getElem?
  intro t
  by_cases ht : t < ts.length * 3
  · have hi : t / 3 < ts.length := by omega
    obtain ⟨q1, q2, q3⟩ := cs3_at hi
    have hg := get_flatK c3 3 ts.toArray t (by simpa using ht)
    rw [getElem!_pos _ t (by simpa using ht), getElem!_pos ts.toArray (t / 3) (by simpa using hi)] at hg
    rw [Array.getElem?_toList, Array.getElem?_eq_getElem (by simpa using ht), hg]
    simp only [List.getElem_toArray]
    rcases (show t = t / 3 * 3 ∨ t = t / 3 * 3 + 1 ∨ t = t / 3 * 3 + 2 by omega) with h | h | h
    · have hr : t % 3 = 0 := by omega
      rw [hr]; conv => rhs; rw [h, q1]
      rfl
    · have hr : t % 3 = 1 := by omega
      rw [hr]; conv => rhs; rw [h, q2]
      rfl
    · have hr : t % 3 = 2 := by omega
      rw [hr]; conv => rhs; rw [h, q3]
      rfl
  · rw [List.getElem?_eq_none (by simp; omega), List.getElem?_eq_none (by rw [cs3_len]; omega)]

def cmp3 (x y : Int) : Int := if x < y then -1 else if y < x then 1 else 0
def cfT (a b : T3) : Int := cmp3 a.x b.x
theorem lt_cfT (a b : T3) : ltOf cfT a b = decide (a.x < b.x) := by
  unfold ltOf cfT cmp3
  by_cases h1 : a.x < b.x
  · simp [h1]
  · by_cases h2 : b.x < a.x <;> simp [h1, h2]
theorem swo_cfT : SWO (ltOf cfT) where
  irrefl x := by rw [lt_cfT]; simp
  trans x y z h1 h2 := by rw [lt_cfT] at *; simp at *; omega
  ntrans x y z h1 h2 := by rw [lt_cfT] at *; simp at *; omega

theorem isNaN_any (x : Int) (w : World) :
    Calls Try.prog 66 #[.int .i64 x] w fun e w' => e = .returned (.bool false) ∧ w = w' := by
  go_enter Try.func66, Try.ntmps66
  have : (x != x) = false := by simp
  go_wp2
  go_ret
  exact ⟨by first | rfl | simp, rfl⟩

theorem compare_any (x y : Int) (w : World) :
    Calls Try.prog 51 #[.int .i64 x, .int .i64 y] w fun e w' => e = .returned (.int .i64 (cmp3 x y)) ∧ w = w' := by
  have hc : (x < y ∧ cmp3 x y = -1) ∨ ((¬ x < y ∧ y < x) ∧ cmp3 x y = 1) ∨ ((¬ x < y ∧ ¬ y < x) ∧ cmp3 x y = 0) := by
    unfold cmp3
    by_cases h : x < y
    · exact .inl ⟨h, if_pos h⟩
    · by_cases h' : y < x
      · exact .inr (.inl ⟨⟨h, h'⟩, by rw [if_neg h, if_pos h']⟩)
      · exact .inr (.inr ⟨⟨h, h'⟩, by rw [if_neg h, if_neg h']⟩)
  go_enter Try.func51, Try.ntmps51
  rcases hc with ⟨h, hr⟩ | ⟨⟨h, h'⟩, hr⟩ | ⟨⟨h, h'⟩, hr⟩
  all_goals
    have HR := hide hr
    clear hr
    go_wp2_with fail
    refine (isNaN_any _ _).mono ?_
    rintro e w1 ⟨rfl, rfl⟩
    go_wp2_with fail
    refine (isNaN_any _ _).mono ?_
    rintro e w1 ⟨rfl, rfl⟩
    go_wp2_with fail
    go_ret
    exact ⟨by rw [HR.out]; rfl, rfl⟩

theorem triplesOf1_any (a b : T3) (w : World) :
    Calls Try.prog 50 #[.agg #[.int .i64 a.x, .int .i64 a.y, .int .i64 a.z], .agg #[.int .i64 b.x, .int .i64 b.y, .int .i64 b.z]] w fun e w' => e = .returned (.int .i64 (cfT a b)) ∧ ∃ m os, w' = grow (w.drewN m) os := by
  unfold cfT
  go_enter Try.func50, Try.ntmps50
  go_wp2_with fail
  refine (compare_any _ _ _).mono ?_
  rintro e w1 ⟨rfl, rfl⟩
  go_wp2_with fail
  go_ret
  exact ⟨rfl, 0, _, by rw [alloc_eq_grow, alloc_eq_grow, grow_grow]; rfl⟩

theorem sortT_any (g n cap : Nat) (ts : List T3) (w : World) (hn : n ≤ 1000000000) (h : Row w g 24 3 n cap (cs3 ts)) :
    Calls Try.prog 49 #[.slice (some ⟨g, 0, none⟩) n cap, .func (.func 50) #[] #[]] w fun e w' => e = .returned (.tuple #[]) ∧ w.grownBy w' (some g) ∧ ∃ us, us.Perm ts ∧ us.Pairwise (fun a b => a.x ≤ b.x) ∧ Row w' g 24 3 n cap (cs3 us) := by
  have hl : ts.length = n := by have := h.len; rw [cs3_len] at this; omega
  subst hl
  have eg : ∀ args w, (callFunc 50 args).run Try.prog w = .ok (.enter 50 args) w := enters_of Try.func50 (by kernel_rfl) rfl
  have hr : Row w g 24 3 ts.length cap ((flatK c3 3 ts.toArray).toList.map id) := by rw [flat_cs3]; exact h
  have hcmp : CmpLays Try.prog 50 #[] c3 3 cfT g 0 ts.toArray.size w := fun m os dk _ x y => triplesOf1_any x y _
  have hcon := AnyQ.slices_SortFunc Try.sortT 3 Try.isAgg24 Try.sizeOf24 c3 (fun _ => rfl) (fun x v hv => by simp [c3] at hv; rcases hv with rfl | rfl | rfl <;> rfl) cfT swo_cfT 50 #[] g 0 cap ts.toArray w eg hcmp hr.holdsK h.lt (by simp; omega)
  refine Calls.mono (show Calls Try.prog 49 _ w _ from hcon) ?_
  rintro e w' ⟨rfl, d', m, os, hpm, hst, rfl⟩
  obtain ⟨h1, _, h3⟩ := hpm
  have e1 : d'.extract 0 ts.toArray.size = d' := by rw [← h1]; simp
  have e2 : ts.toArray.extract 0 ts.toArray.size = ts.toArray := by simp
  rw [e1, e2] at h3
  obtain ⟨a1, a2⟩ := sort_rowK (d' := flatK c3 3 d') hr (by simp [h1]) m os
  refine ⟨rfl, a2, d'.toList, h3, ?_, ?_⟩
  · rw [List.pairwise_iff_getElem]
    intro i j hi hj hij
    rw [Array.length_toList] at hi hj
    have := hst i j (Nat.zero_le _) hij (by omega)
    rw [lt_cfT, getElem!_pos d' i (by omega), getElem!_pos d' j (by omega)] at this
    have := of_decide_eq_false this
    simp only [Array.getElem_toList]
    omega
  · have := flat_cs3 d'.toList
    rw [show d'.toList.toArray = d' from rfl] at this
    rw [this] at a1
    exact a1

theorem sortT_none (w : World) :
    Calls Try.prog 49 #[.slice none 0 0, .func (.func 50) #[] #[]] w fun e w' => e = .returned (.tuple #[]) ∧ w = w' :=
  Calls.mono (show Calls Try.prog 49 _ w _ from AnyF.slices_SortFunc_none Try.sortT none 0 (.func (.func 50) #[] #[]) w) fun _ _ ⟨h1, h2⟩ => ⟨h1, h2.symm⟩

end Go.Proofs.Ytjmllmadoelioaa
