/- Opening slices of bools, integers and bytes that come in as arguments: what they hold, as a plain list. -/
import Derived.Test.YtpagfikhcmeciaaFrame
import Derived.Test.YtpagfikhcmeciaaSl
namespace Go.Proofs.Ytpagfikhcmeciaa
open Go.ChangeShapes Go.WideShapes Go.ChangeAt Go.RowKit Go.Joins Go.Deep

section
variable {H : Type} {enc : TypeId × Value → H} {P : Program} {w : World}
theorem rd_of_cells {α : Type} {f : α → Value} {a : Addr} {n : Nat} {xs : List α} (hn : xs.length = n) (h : ∀ i (hi : i < xs.length), w.cell? (a.add i) = some (f xs[i])) : Rd w w.heap.size 1 (some a) n (xs.map f) := by
  refine ⟨by simpa using hn, fun h0 => ?_⟩
  obtain ⟨b, off, spot⟩ := a
  have c0 := h 0 (by omega)
  have hspot : spot = none := by simpa [Addr.add] using World.cell?_spot c0
  subst hspot
  refine ⟨b, off, rfl, World.block_lt_of_cell? w _ c0, fun j u hu => ?_⟩
  have hj : j < xs.length := by have := (List.getElem?_eq_some_iff.1 hu).1; simpa using this
  rw [← Go.WideShapes.add_plain, h j hj]
  rw [List.getElem?_map, List.getElem?_eq_getElem hj] at hu
  simpa using hu

theorem openBools {b0 : Nat} {t e : TypeId} {v : Value} {d : DataW H} {p : List MemPlace} (ht : P.underlying t = some (.slice e)) (he : P.underlying e = some .bool) (hC : P.cellsOf e = 1)
    (hv : Value.okWide P w .any b0 t v) (h : DataW.Trod enc P w 0 (fun _ => true) true t v d p) :
    ∃ (A : Option Addr) (n c : Nat) (bs : List Bool), v = .slice A n c ∧ n ≤ 9223372036854775807 ∧ Rd w w.heap.size 1 A n (bs.map Value.bool) := by
  obtain ⟨a0, len, cap, rfl⟩ := okWide_slice ht hv
  obtain ⟨fuel, hf⟩ := h
  rcases open_slice1 ht hC hf with ⟨hcs, _⟩ | ⟨a, len', cap', m, n, V, D, Pl, hcs, _, hl, hm, hmm, _, hx⟩
  · simp [Value.cells] at hcs
    obtain ⟨rfl, rfl, rfl⟩ := hcs
    exact ⟨none, 0, 0, [], rfl, by omega, Rd.nil_ 0 w _ _⟩
  · simp [Value.cells] at hcs
    obtain ⟨rfl, rfl, rfl⟩ := hcs
    unfold maxLen at hm
    obtain ⟨f, hfb⟩ := choose_lt (α := Bool) (n := len) (p := fun i x => V i = .bool x) (fun i hi => by
      obtain ⟨_, h2⟩ := hx i (by rw [hmm]; simp; omega)
      obtain ⟨x, e1, _⟩ := DataW.trod_bool he h2
      exact ⟨x, by simpa using e1⟩)
    refine ⟨some a, len, cap, (List.range len).map f, rfl, by omega, rd_of_cells (by simp) (fun i hi => ?_)⟩
    have hi' : i < len := by simpa using hi
    have := (hx i (by rw [hmm]; simp; omega)).1
    rw [this, hfb i hi']
    simp

theorem openInts {b0 : Nat} {t e : TypeId} {k : IntKind} {v : Value} {d : DataW H} {p : List MemPlace} (ht : P.underlying t = some (.slice e)) (he : P.underlying e = some (.int k)) (hC : P.cellsOf e = 1)
    (hv : Value.okWide P w .any b0 t v) (h : DataW.Trod enc P w 0 (fun _ => true) true t v d p) :
    ∃ (A : Option Addr) (n c : Nat) (zs : List Int), v = .slice A n c ∧ n ≤ 9223372036854775807 ∧ Rd w w.heap.size 1 A n (zs.map (Value.int k)) ∧ (∀ z ∈ zs, (Lit.int k z).wf = true) := by
  obtain ⟨a0, len, cap, rfl⟩ := okWide_slice ht hv
  obtain ⟨fuel, hf⟩ := h
  rcases open_ints ht he hC hf with ⟨hcs, _⟩ | ⟨a, len', cap', zs, hcs, _, hl, hm, hz, _, hcell, hwz⟩
  · simp [Value.cells] at hcs
    obtain ⟨rfl, rfl, rfl⟩ := hcs
    exact ⟨none, 0, 0, [], rfl, by omega, Rd.nil_ 0 w _ _, by simp⟩
  · simp [Value.cells] at hcs
    obtain ⟨rfl, rfl, rfl⟩ := hcs
    unfold maxLen at hm
    simp only [if_true] at hz
    refine ⟨some a, len, cap, zs.take len, rfl, by omega, rd_of_cells (by simp; omega) (fun i hi => ?_), fun z hz' => hwz z (List.mem_of_mem_take hz')⟩
    have hi' : i < zs.length := by simp at hi; omega
    rw [hcell i hi']
    simp [List.getD, List.getElem?_eq_getElem hi', List.getElem_take]
end
end Go.Proofs.Ytpagfikhcmeciaa
