/- A store into the one row that is let grow. -/
import Derived.Test.YtpagfikhcmeciaaRow
namespace Go.Proofs.Ytpagfikhcmeciaa
open Go.RowKit

theorem gset {w0 w : World} {g : Nat} (h : w0.grownBy w (some g)) (i : Nat) (u : Value) : w0.grownBy (w.setCell ⟨g, i, none⟩ u) (some g) :=
  gtrans h ⟨rfl, rfl, rfl, by simp, fun b _ hne => Below.heap_setCell w ⟨g, i, none⟩ u b (fun e => hne (by rw [e]))⟩

end Go.Proofs.Ytpagfikhcmeciaa
