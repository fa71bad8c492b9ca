/- A slice that the call itself made, its block known by number: what it holds, and that it stays so. -/
import Derived.Test.YtpagfikhcmeciaaBase
import Derived.Test.YtpagfikhcmeciaaSl
import Derived.Test.YtpagfikhcmeciaaBlk
import Derived.Deep.AppendLies
namespace Go.Proofs.Ytpagfikhcmeciaa
open Go.RowKit

/-- The slice '⟨g, 0⟩', n elements of k cells each, capacity cap, holds xs; its cells may be written. -/
def Row (w : World) (g : Nat) (e : TypeId) (k n cap : Nat) (xs : List Value) : Prop :=
  ∃ cur, w.heap[g]? = some (.cells cur e (0, 0)) ∧ n ≤ cap ∧ cap ≤ maxLen ∧ cur.size = cap * k ∧ cur.toList.take (n * k) = xs ∧ xs.length = n * k

section
variable {w w' : World} {g k n cap : Nat} {e : TypeId} {xs : List Value}
theorem Row.own (h : Row w g e k n cap xs) {base : Nat} (hb : base ≤ g) : w.ownsRow base e k (.slice (some ⟨g, 0, none⟩) n cap) n xs := by
  obtain ⟨cur, h1, h2, h3, h4, h5, h6⟩ := h
  exact ⟨h6, .inr ⟨g, cap, cur, rfl, hb, h1, h2, h3, h4, h5⟩⟩
theorem Row.of_own {base : Nat} (h : w.ownsRow base e k (.slice (some ⟨g, 0, none⟩) n cap) n xs) : Row w g e k n cap xs ∧ base ≤ g := by
  obtain ⟨h6, h | ⟨g', cap', cur, hv, hb, h1, h2, h3, h4, h5⟩⟩ := h
  · obtain ⟨h, _⟩ := h; cases h
  · cases hv
    exact ⟨⟨cur, h1, h2, h3, h4, h5, h6⟩, hb⟩
theorem Row.block (h : Row w g e k n cap xs) (hh : w'.heap[g]? = w.heap[g]?) : Row w' g e k n cap xs := by
  obtain ⟨cur, h1, r⟩ := h
  exact ⟨cur, hh.trans h1, r⟩
theorem Row.lt (h : Row w g e k n cap xs) : g < w.heap.size := by
  obtain ⟨cur, h1, _⟩ := h
  exact (Array.getElem?_eq_some_iff.1 h1).1
theorem Row.below {N : Nat} (h : Row w g e k n cap xs) (hb : Below N w w') (hg : g < N) : Row w' g e k n cap xs := h.block (hb.block g hg)
theorem Row.alloc (h : Row w g e k n cap xs) (o : Obj) : Row (w.alloc o) g e k n cap xs := h.block (Below.heap_alloc w o g h.lt)
theorem Row.drewN (h : Row w g e k n cap xs) (m : Nat) : Row (w.drewN m) g e k n cap xs := h
theorem Row.far (h : Row w g e k n cap xs) {p : Addr} (hp : g ≠ p.block) (u : Value) : Row (w.setCell p u) g e k n cap xs := h.block (Below.heap_setCell w p u g hp)
theorem Row.grown (h : Row w g e k n cap xs) {row : Option Nat} (hg : w.grownBy w' row) (hne : some g ≠ row) : Row w' g e k n cap xs := h.block (hg.block g h.lt hne)
theorem Row.cell (h : Row w g e k n cap xs) {j : Nat} {u : Value} (hu : xs[j]? = some u) : w.cell? ⟨g, j, none⟩ = some u := by
  obtain ⟨cur, h1, _, _, _, h5, _⟩ := h
  rw [cell_of_row w g j cur e (0, 0) h1, ← Array.getElem?_toList]
  rw [← h5, List.getElem?_take] at hu
  split at hu
  · exact hu
  · cases hu
theorem Row.frozen (h : Row w g e k n cap xs) (j : Nat) : w.frozen? ⟨g, j, none⟩ = false := by
  obtain ⟨cur, h1, _⟩ := h
  exact frozen_of_row w g j cur e h1
theorem Row.len (h : Row w g e k n cap xs) : xs.length = n * k := h.choose_spec.2.2.2.2.2
theorem Row.cap_ (h : Row w g e k n cap xs) : n ≤ cap ∧ cap ≤ maxLen := ⟨h.choose_spec.2.1, h.choose_spec.2.2.1⟩
theorem Row.lit {cs : Array Value} (hg : g = w.heap.size) (hs : cs.size = n * k) (hm : n ≤ maxLen) : Row (w.alloc (.cells cs e)) g e k n n cs.toList := by
  subst hg
  exact ⟨cs, heap_alloc_new w _, Nat.le_refl _, hm, hs, List.take_of_length_le (by rw [Array.length_toList, hs]; exact Nat.le_refl _), by simpa using hs⟩
/-- The last element is cut off. -/
theorem Row.pop {last : List Value} (h : Row w g e k (n + 1) cap (xs ++ last)) (hx : xs.length = n * k) : Row w g e k n cap xs := by
  obtain ⟨cur, h1, h2, h3, h4, h5, h6⟩ := h
  refine ⟨cur, h1, by omega, h3, h4, ?_, hx⟩
  have h7 : (cur.toList.take ((n + 1) * k)).take (n * k) = (xs ++ last).take (n * k) := by rw [h5]
  rw [List.take_take, Nat.min_eq_left (Nat.mul_le_mul_right _ (by omega))] at h7
  rw [h7, ← hx, List.take_left]
theorem Row.store (h : Row w g e k n cap xs) (j : Nat) (u : Value) : Row (w.setCell ⟨g, j, none⟩ u) g e k n cap (xs.set j u) := by
  obtain ⟨cur, h1, h2, h3, h4, h5, h6⟩ := h
  refine ⟨cur.setIfInBounds j u, heap_setCell_same w g j cur e u h1, h2, h3, by simpa using h4, ?_, by simpa using h6⟩
  rw [Array.toList_setIfInBounds, ← h5, List.take_set]
theorem Row.rd (h : Row w g e k n cap xs) : Rd w w.heap.size k (some ⟨g, 0, none⟩) n xs := Rd.own (h.own (Nat.zero_le _))
end

/-- Growth with writes to one row alone, across draws, calls, new blocks and appends. -/
theorem gtrans {a b c : World} {row : Option Nat} (h : a.grownBy b row) (k : b.grownBy c row) : a.grownBy c row :=
  ⟨k.os.trans h.os, k.tape.trans h.tape, k.output.trans h.output, Nat.le_trans h.size k.size, fun i hi hn => (k.block i (Nat.lt_of_lt_of_le hi h.size) hn).trans (h.block i hi hn)⟩
theorem gbelow {a b : World} (h : Below a.heap.size a b) (row : Option Nat) : a.grownBy b row := ⟨h.os, h.tape, h.output, h.size, fun i hi _ => h.block i hi⟩
theorem gdrew (a : World) (row : Option Nat) : a.grownBy a.drew row := gbelow (Below.refl _ _).drew row
theorem gnext {w0 W w1 : World} {row : Option Nat} {p : Prop} (h : w0.grownBy W row ∧ p) (hb : Below W.heap.size W w1) : w0.grownBy w1 row := gtrans h.1 (gbelow hb row)
theorem gapp {w0 W w1 : World} {row : Option Nat} {p : Prop} (h : w0.grownBy W row ∧ p) (hb : W.grownBy w1 row) : w0.grownBy w1 row := gtrans h.1 hb
theorem galloc {w0 W : World} {row : Option Nat} {p : Prop} {o : Obj} (h : w0.grownBy W row ∧ p) : w0.grownBy (W.alloc o) row := gtrans h.1 (World.grownBy_alloc _ _ _)

/-- The cells of new elements in a block that has just been made. -/
theorem news_new {w : World} {cs : Array Value} {t : TypeId} {H : Nat} (hH : H = w.heap.size) : ∀ j u, cs.toList[j]? = some u → (w.alloc (.cells cs t)).cell? ((⟨H, 0, none⟩ : Addr).add j) = some u := by
  subst hH
  intro j u hu
  rw [Array.getElem?_toList] at hu
  have : (⟨w.heap.size, 0, none⟩ : Addr).add j = ⟨w.heap.size, j, none⟩ := by unfold Addr.add; split <;> simp_all
  rw [this]
  simp [hu]

end Go.Proofs.Ytpagfikhcmeciaa
