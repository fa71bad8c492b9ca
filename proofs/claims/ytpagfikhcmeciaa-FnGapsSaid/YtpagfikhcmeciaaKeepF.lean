/- A fraction in one block and a result in another: what a region that draws its order keeps of both. -/
import Derived.Test.YtpagfikhcmeciaaBlk
namespace Go.Proofs.Ytpagfikhcmeciaa
open Go.RowKit

/-- What a cell holds. -/
def ob (w : World) (g i : Nat) : Value := (w.cell? ⟨g, i, none⟩).getD undef
def KF (w : World) (A R : Nat) (t : TypeId) (p q : Int) (w' : World) : Prop :=
  Below w.heap.size w w' ∧ w.heap.size ≤ R ∧ A ≠ R ∧ A < w'.heap.size ∧ R < w'.heap.size ∧ Blk w' A t #[.int .i64 p, .int .i64 q] ∧ ∃ u v, Blk w' R t #[u, v]
section
variable {w w1 w2 : World} {A R : Nat} {t : TypeId} {p q : Int}
theorem KF.sk (h : KF w A R t p q w1) : KF w A R t p q w1 ∧ w1.cell? ⟨A, 0, none⟩ = some (.int .i64 p) ∧ w1.cell? ⟨A, 1, none⟩ = some (.int .i64 q) ∧ w1.cell? ⟨R, 0, none⟩ = some (ob w1 R 0) ∧ w1.cell? ⟨R, 1, none⟩ = some (ob w1 R 1) ∧
    w1.frozen? ⟨R, 0, none⟩ = false ∧ w1.frozen? ⟨R, 1, none⟩ = false := by
  have h0 := h
  obtain ⟨_, _, _, _, _, hA, u, v, hR⟩ := h
  obtain ⟨a1, _, _, _⟩ := hA.after (Below.refl _ _) hA.lt
  obtain ⟨b1, b2, _, _⟩ := hR.after (Below.refl _ _) hR.lt
  refine ⟨h0, (a1 0).trans rfl, (a1 1).trans rfl, ?_, ?_, b2 0, b2 1⟩
  · unfold ob; rw [b1 0]; rfl
  · unfold ob; rw [b1 1]; rfl
theorem KF.next {X : Prop} (h : KF w A R t p q w1 ∧ X) (hb : Below w1.heap.size w1 w2) : KF w A R t p q w2 := by
  obtain ⟨⟨h1, h2, h3, h4, h5, hA, u, v, hR⟩, _⟩ := h
  exact ⟨h1.trans (hb.mono h1.size), h2, h3, Nat.lt_of_lt_of_le h4 hb.size, Nat.lt_of_lt_of_le h5 hb.size, (hb.block A h4).trans hA, u, v, (hb.block R h5).trans hR⟩
theorem KF.alloc_ {X : Prop} (h : KF w A R t p q w1 ∧ X) (o : Obj) : KF w A R t p q (w1.alloc o) := KF.next h ((Below.refl _ _).alloc (Nat.le_refl _) _)
theorem KF.drew_ (h : KF w A R t p q w1) : KF w A R t p q w1.drew := KF.next ⟨h, trivial⟩ (Below.refl _ _).drew
theorem KF.store {X : Prop} (h : KF w A R t p q w1 ∧ X) (x y : Value) : KF w A R t p q ((w1.setCell ⟨R, 0, none⟩ x).setCell ⟨R, 1, none⟩ y) := by
  obtain ⟨⟨h1, h2, h3, h4, h5, hA, u, v, hR⟩, _⟩ := h
  refine ⟨(h1.setCell h2 _).setCell h2 _, h2, h3, by simpa using h4, by simpa using h5, (hA.far (by simpa using h3) _).far (by simpa using h3) _, x, y, hR.set2⟩
theorem KF.res (h : KF w A R t p q w1) (x y : Value) : ∀ i, ((w1.setCell ⟨R, 0, none⟩ x).setCell ⟨R, 1, none⟩ y).cell? ⟨R, i, none⟩ = (#[x, y] : Array Value)[i]? := by
  obtain ⟨_, _, _, _, _, _, u, v, hR⟩ := h
  have z := hR.set2 (x := x) (y := y)
  exact (z.after (Below.refl _ _) z.lt).1
end

end Go.Proofs.Ytpagfikhcmeciaa
