/- Blocks that are known whole, behind stores; blocks that a region which draws its order makes by itself. -/
import Derived.Test.YtpagfikhcmeciaaBase
namespace Go.Proofs.Ytpagfikhcmeciaa
open Go.RowKit

theorem Blk.newAt {w : World} {g : Nat} {t : TypeId} {cs : Array Value} (h : g = w.heap.size) : Blk (w.alloc (.cells cs t)) g t cs := by subst h; exact Blk.new w t cs
theorem Blk.far {w : World} {g : Nat} {t : TypeId} {cs : Array Value} (h : Blk w g t cs) {p : Addr} (hp : g ≠ p.block) (u : Value) : Blk (w.setCell p u) g t cs := (Below.heap_setCell w p u g hp).trans h
theorem Blk.set_ {w : World} {g : Nat} {t : TypeId} {cs : Array Value} (h : Blk w g t cs) (i : Nat) (u : Value) : Blk (w.setCell ⟨g, i, none⟩ u) g t (cs.setIfInBounds i u) := by
  unfold Blk at h ⊢
  simp [World.setCell, Array.getElem?_modify, h]
theorem Blk.set1 {w : World} {g : Nat} {t : TypeId} {a x : Value} (h : Blk w g t #[a]) : Blk (w.setCell ⟨g, 0, none⟩ x) g t #[x] := h.set_ 0 x
theorem Blk.set2 {w : World} {g : Nat} {t : TypeId} {a b x y : Value} (h : Blk w g t #[a, b]) : Blk ((w.setCell ⟨g, 0, none⟩ x).setCell ⟨g, 1, none⟩ y) g t #[x, y] := (h.set_ 0 x).set_ 1 y
theorem Blk.set3 {w : World} {g : Nat} {t : TypeId} {a b c x y z : Value} (h : Blk w g t #[a, b, c]) : Blk (((w.setCell ⟨g, 0, none⟩ x).setCell ⟨g, 1, none⟩ y).setCell ⟨g, 2, none⟩ z) g t #[x, y, z] := ((h.set_ 0 x).set_ 1 y).set_ 2 z

theorem bd1 {w0 w1 : World} {o : Obj} (h : Below w0.drew.heap.size w0.drew w1) : Below w0.heap.size w0 (w1.alloc o) :=
  ((Below.refl w0.heap.size w0).drew.trans h).alloc h.size o
/-- A block that the region itself made ahead of the call. -/
theorem newblk {W w1 : World} {cs : Array Value} {t : TypeId} (h : Below (W.alloc (.cells cs t)).drew.heap.size (W.alloc (.cells cs t)).drew w1) :
    (∀ i, w1.cell? ⟨W.heap.size, i, none⟩ = cs[i]?) ∧ (∀ i, w1.frozen? ⟨W.heap.size, i, none⟩ = false) ∧ W.heap.size < w1.heap.size ∧ Below W.heap.size W w1 := by
  have h' : Below (W.alloc (.cells cs t)).heap.size (W.alloc (.cells cs t)) w1 := ((Below.refl _ (W.alloc (.cells cs t))).drew).trans h
  obtain ⟨a, b, c, _⟩ := (Blk.new W t cs).after h' (by simp)
  exact ⟨a, b, c, bstep (by go_grown) h' (by simp)⟩

end Go.Proofs.Ytpagfikhcmeciaa
