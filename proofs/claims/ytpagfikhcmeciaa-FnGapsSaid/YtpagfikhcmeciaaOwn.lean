/- Copies of lists; appends of whatever number of elements. -/
import Derived.Test.YtpagfikhcmeciaaInts
namespace Go.Proofs.Ytpagfikhcmeciaa
open Go.RowKit

theorem own_some {w : World} {base : Nat} {e : TypeId} {k n : Nat} {v : Value} {xs : List Value} (h : w.ownsRow base e k v n xs) (hv : v ≠ .slice none 0 0) : ∃ g cap, v = .slice (some ⟨g, 0, none⟩) n cap ∧ base ≤ g ∧ Row w g e k n cap xs := by
  have h' := h
  obtain ⟨h6, ⟨h0, _⟩ | ⟨g, cap, cur, rfl, hb, _⟩⟩ := h
  · exact absurd h0 hv
  · exact ⟨g, cap, rfl, hb, (Row.of_own h').1⟩
theorem Row.news {w : World} {g : Nat} {e : TypeId} {k n cap : Nat} {xs : List Value} (h : Row w g e k n cap xs) (i : Nat) : ∀ j u, (xs.drop i)[j]? = some u → w.cell? ((⟨g, i, none⟩ : Addr).add j) = some u := by
  intro j u hu
  rw [List.getElem?_drop] at hu
  have : (⟨g, i, none⟩ : Addr).add j = ⟨g, i + j, none⟩ := by unfold Addr.add; split <;> simp_all
  rw [this]
  exact h.cell hu
theorem Row.newsT {w : World} {g : Nat} {e : TypeId} {k n cap : Nat} {xs : List Value} (h : Row w g e k n cap xs) (i : Nat) : ∀ j u, (xs.take i)[j]? = some u → w.cell? ((⟨g, 0, none⟩ : Addr).add j) = some u := by
  intro j u hu
  rw [List.getElem?_take] at hu
  have : (⟨g, 0, none⟩ : Addr).add j = ⟨g, 0 + j, none⟩ := by unfold Addr.add; split <;> simp_all
  rw [this, Nat.zero_add]
  split at hu
  · exact h.cell hu
  · cases hu

theorem own_below {w w' : World} {base : Nat} {e : TypeId} {k n : Nat} {v : Value} {xs : List Value} (h : w.ownsRow base e k v n xs) (hb : Below w.heap.size w w') : w'.ownsRow base e k v n xs := by
  obtain ⟨h6, h | ⟨g, cap, cur, hv, hbs, h1, r⟩⟩ := h
  · exact ⟨h6, .inl h⟩
  · exact ⟨h6, .inr ⟨g, cap, cur, hv, hbs, (hb.block g (Array.getElem?_eq_some_iff.1 h1).1).trans h1, r⟩⟩
theorem own_base {w : World} {base : Nat} {e : TypeId} {k n : Nat} {v : Value} {xs : List Value} (h : w.ownsRow base e k v n xs) : ∀ b, v.ownBlock = some b → base ≤ b := by
  intro b hb
  obtain ⟨_, ⟨rfl, _⟩ | ⟨g, cap, cur, rfl, hbs, _⟩⟩ := h
  · cases hb
  · simp [Value.ownBlock] at hb; omega
theorem own_pos {w : World} {base : Nat} {e : TypeId} {k n : Nat} {v : Value} {xs : List Value} (h : w.ownsRow base e k v n xs) (hn : 0 < n) : ∃ g cap, v = .slice (some ⟨g, 0, none⟩) n cap ∧ base ≤ g ∧ Row w g e k n cap xs := by
  have h' := h
  obtain ⟨_, ⟨_, h0⟩ | ⟨g, cap, cur, rfl, hb, _⟩⟩ := h
  · omega
  · exact ⟨g, cap, rfl, hb, (Row.of_own h').1⟩
theorem own_nil (w : World) (base : Nat) (e : TypeId) (k : Nat) : w.ownsRow base e k (.slice none 0 0) 0 [] := ⟨by simp, .inl ⟨rfl, rfl⟩⟩

end Go.Proofs.Ytpagfikhcmeciaa
