/- The source of draws, behind stores to new blocks and calls that leave old memory alone. -/
import Derived.Test.YtpagfikhcmeciaaSrc3
namespace Go.Proofs.Ytpagfikhcmeciaa
open Go.RowKit

theorem Src.far {w : World} {g B k : Nat} (h : Src w g B k) {p : Addr} (h1 : g ≠ p.block) (h2 : ∀ b, b < B → b ≠ p.block) (u : Value) : Src (w.setCell p u) g B k := by
  obtain ⟨A, n, c, xs, i, seed, a1, a2, a3, a4, a5, a6⟩ := h
  refine ⟨A, n, c, xs, i, seed, a1, a2, a3.far h1 u, a4, ?_, a6⟩
  refine ⟨a5.1, fun hn => ?_⟩
  obtain ⟨b, o, e, hb, hc⟩ := a5.2 hn
  refine ⟨b, o, e, hb, fun j v hv => ?_⟩
  have h3 := hc j v hv
  have hlt : b < w.heap.size := World.block_lt_of_cell? w _ h3
  rw [← h3]
  exact World.cell?_of_block (w := w) (a := ⟨b, o + j, none⟩) (Below.heap_setCell w p u b (h2 b hb))
theorem Src.base_ {w : World} {g B k : Nat} (h : Src w g B k) : B ≤ g := by obtain ⟨_, _, _, _, _, _, _, _, _, h4, _⟩ := h; exact h4
theorem Src.cells_ {w : World} {g B k : Nat} (h : Src w g B k) (b i : Nat) (h1 : g ≠ b) (h2 : B ≤ b) (u : Value) : Src (w.setCell ⟨b, i, none⟩ u) g B k :=
  h.far (p := ⟨b, i, none⟩) h1 (fun c hc => by show c ≠ b; omega) u
theorem Src.below_ {w w' : World} {g B k : Nat} (h : Src w g B k) (hb : Below w.heap.size w w') : Src w' g B k := by
  have hlt := h.lt
  obtain ⟨A, n, c, xs, i, seed, a1, a2, a3, a4, a5, a6⟩ := h
  refine ⟨A, n, c, xs, i, seed, a1, a2, (hb.block g hlt).trans a3, a4, ⟨a5.1, fun hn => ?_⟩, a6⟩
  obtain ⟨b, o, e, hB, hc⟩ := a5.2 hn
  refine ⟨b, o, e, hB, fun j v hv => ?_⟩
  exact (hb.cell (p := ⟨b, o + j, none⟩) (by show b < w.heap.size; omega)).trans (hc j v hv)
/-- Growth with writes to the source's block and to blocks that are new. -/
theorem gnew {w0 w : World} {g b i : Nat} (h : w0.grownBy w (some g)) (hb : w0.heap.size ≤ b) (x : Value) : w0.grownBy (w.setCell ⟨b, i, none⟩ x) (some g) := by
  refine ⟨h.os, h.tape, h.output, by simpa using h.size, fun j hi hn => ?_⟩
  rw [Below.heap_setCell _ ⟨b, i, none⟩ x j (by show j ≠ b; omega)]
  exact h.block j hi hn
theorem gbel {w0 w w' : World} {row : Option Nat} (h : w0.grownBy w row) (hb : Below w.heap.size w w') : w0.grownBy w' row := gtrans h (gbelow hb row)
theorem belSrc {w w1 w2 : World} {g k : Nat} {B : Nat} (h : Below w.heap.size w w1) (hs : Src w1 g B k) (hB : w.heap.size ≤ B) (hg : w1.grownBy w2 (some g)) : Below w.heap.size w w2 :=
  h.grown hg h.size (fun k hk => by injection hk; have := hs.base_; omega)

end Go.Proofs.Ytpagfikhcmeciaa
