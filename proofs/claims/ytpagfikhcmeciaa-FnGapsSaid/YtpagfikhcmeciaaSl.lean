/- Slices that are read: what a slice value reads as, and that it stays so. -/
import Derived.Test.YtpagfikhcmeciaaBase
import Derived.Deep.OwnRows
namespace Go.Proofs.Ytpagfikhcmeciaa
open Go.RowKit

/-- The slice value '.slice A n c' holds the cells xs (k of them an element), in a block below B. -/
def Rd (w : World) (B k : Nat) (A : Option Addr) (n : Nat) (xs : List Value) : Prop :=
  xs.length = n * k ∧ (0 < n → ∃ b o, A = some ⟨b, o, none⟩ ∧ b < B ∧ ∀ j u, xs[j]? = some u → w.cell? ⟨b, o + j, none⟩ = some u)

section
variable {w w' : World} {B B' k n : Nat} {A : Option Addr} {xs : List Value}
theorem Rd.below (h : Rd w B k A n xs) (hb : Below B w w') : Rd w' B k A n xs :=
  ⟨h.1, fun hn => by
    obtain ⟨b, o, e, hB, hc⟩ := h.2 hn
    exact ⟨b, o, e, hB, fun j u hu => (hb.cell (p := ⟨b, o + j, none⟩) hB).trans (hc j u hu)⟩⟩
theorem Rd.more (h : Rd w B k A n xs) (hB : B ≤ B') : Rd w B' k A n xs :=
  ⟨h.1, fun hn => by
    obtain ⟨b, o, e, hb, hc⟩ := h.2 hn
    exact ⟨b, o, e, by omega, hc⟩⟩
theorem Rd.nil_ (c : Nat) (w : World) (B k : Nat) : Rd w B k none 0 [] := by
  have := c
  exact ⟨by simp, fun h => absurd h (by omega)⟩
theorem Rd.own {base c : Nat} {e : TypeId} (h : w.ownsRow base e k (.slice A n c) n xs) : Rd w w.heap.size k A n xs := by
  refine ⟨h.1, fun hn => ?_⟩
  rcases h.2 with ⟨h', h0⟩ | ⟨g, cap, cur, hv, hb, hg, _, _, _, ht⟩
  · omega
  · have hA : A = some ⟨g, 0, none⟩ := by injection hv
    subst hA
    refine ⟨g, 0, rfl, (Array.getElem?_eq_some_iff.1 hg).1, fun j u hu => ?_⟩
    rw [Nat.zero_add, cell_of_row w g j cur e (0, 0) hg, ← Array.getElem?_toList]
    rw [← ht, List.getElem?_take] at hu
    split at hu
    · exact hu
    · cases hu
end

theorem info_i64 : (Try.prog.info? 2).map (fun i => (i.zero, i.size, i.bytes)) = some (some (.int .i64 0), 1, 8) := by kernel_rfl
theorem info_bool : (Try.prog.info? 4).map (fun i => (i.zero, i.size, i.bytes)) = some (some (.bool false), 1, 1) := by kernel_rfl

end Go.Proofs.Ytpagfikhcmeciaa
