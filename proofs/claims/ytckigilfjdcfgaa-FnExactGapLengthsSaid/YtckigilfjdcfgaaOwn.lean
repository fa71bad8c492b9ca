/- Copies of lists; appends of whatever number of elements. -/
import Derived.Test.YtckigilfjdcfgaaInts
namespace Go.Proofs.Ytckigilfjdcfgaa
open Go.RowKit

theorem own_some {w : World} {base : Nat} {e : TypeId} {k n : Nat} {v : Value} {xs : List Value} (h : w.ownsRow base e k v n xs) (hv : v ≠ .slice none 0 0) : ∃ g cap, v = .slice (some ⟨g, 0, none⟩) n cap ∧ base ≤ g ∧ Row w g e k n cap xs := by
  have h' := h
  obtain ⟨h6, ⟨h0, _⟩ | ⟨g, cap, cur, rfl, hb, _⟩⟩ := h
  · exact absurd h0 hv
  · exact ⟨g, cap, rfl, hb, (Row.of_own h').1⟩
theorem Row.news {w : World} {g : Nat} {e : TypeId} {k n cap : Nat} {xs : List Value} (h : Row w g e k n cap xs) (i : Nat) : ∀ j u, (xs.drop i)[j]? = some u → w.cell? ((⟨g, i, none⟩ : Addr).add j) = some u := by
  intro j u hu
  rw [List.getElem?_drop] at hu
  have : (⟨g, i, none⟩ : Addr).add j = ⟨g, i + j, none⟩ := by unfold Addr.add; split <;> simp_all
  rw [this]
  exact h.cell hu
theorem Row.newsT {w : World} {g : Nat} {e : TypeId} {k n cap : Nat} {xs : List Value} (h : Row w g e k n cap xs) (i : Nat) : ∀ j u, (xs.take i)[j]? = some u → w.cell? ((⟨g, 0, none⟩ : Addr).add j) = some u := by
  intro j u hu
  rw [List.getElem?_take] at hu
  have : (⟨g, 0, none⟩ : Addr).add j = ⟨g, 0 + j, none⟩ := by unfold Addr.add; split <;> simp_all
  rw [this, Nat.zero_add]
  split at hu
  · exact h.cell hu
  · cases hu

theorem own_below {w w' : World} {base : Nat} {e : TypeId} {k n : Nat} {v : Value} {xs : List Value} (h : w.ownsRow base e k v n xs) (hb : Below w.heap.size w w') : w'.ownsRow base e k v n xs := by
  obtain ⟨h6, h | ⟨g, cap, cur, hv, hbs, h1, r⟩⟩ := h
  · exact ⟨h6, .inl h⟩
  · exact ⟨h6, .inr ⟨g, cap, cur, hv, hbs, (hb.block g (Array.getElem?_eq_some_iff.1 h1).1).trans h1, r⟩⟩
theorem own_base {w : World} {base : Nat} {e : TypeId} {k n : Nat} {v : Value} {xs : List Value} (h : w.ownsRow base e k v n xs) : ∀ b, v.ownBlock = some b → base ≤ b := by
  intro b hb
  obtain ⟨_, ⟨rfl, _⟩ | ⟨g, cap, cur, rfl, hbs, _⟩⟩ := h
  · cases hb
  · simp [Value.ownBlock] at hb; omega
theorem own_pos {w : World} {base : Nat} {e : TypeId} {k n : Nat} {v : Value} {xs : List Value} (h : w.ownsRow base e k v n xs) (hn : 0 < n) : ∃ g cap, v = .slice (some ⟨g, 0, none⟩) n cap ∧ base ≤ g ∧ Row w g e k n cap xs := by
  have h' := h
  obtain ⟨_, ⟨_, h0⟩ | ⟨g, cap, cur, rfl, hb, _⟩⟩ := h
  · omega
  · exact ⟨g, cap, rfl, hb, (Row.of_own h').1⟩
theorem own_nil (w : World) (base : Nat) (e : TypeId) (k : Nat) : w.ownsRow base e k (.slice none 0 0) 0 [] := ⟨by simp, .inl ⟨rfl, rfl⟩⟩

theorem l00Own_any (b o m c : Nat) (xs : List Int) (w : World) (hl : xs.length = m) (hm : m ≤ 1000000) (h : ∀ j u, (il xs)[j]? = some u → w.cell? ((⟨b, o, none⟩ : Addr).add j) = some u) (hb : b < w.heap.size) :
    Calls Try.prog 74 #[.slice (some ⟨b, o, none⟩) m c] w fun e w' => ∃ g cap, e = .returned (.slice (some ⟨g, 0, none⟩) m cap) ∧ w.heap.size ≤ g ∧ Row w' g 2 1 m cap (il xs) ∧ Below w.heap.size w w' := by
  obtain ⟨i0, hi, hz0, hz1, hz2⟩ := info_parts info_i64
  have h' : ∀ j u, (il xs)[j]? = some u → (w.alloc (.cells #[] 2)).cell? ((⟨b, o, none⟩ : Addr).add j) = some u := by
    intro j u hu
    rw [← h j u hu]
    have : (⟨b, o, none⟩ : Addr).add j = ⟨b, o + j, none⟩ := by unfold Addr.add; split <;> simp_all
    rw [this]
    exact World.cell?_of_block (w := w) (a := ⟨b, o + j, none⟩) (Below.heap_alloc w _ b hb)
  have H := hide h'
  clear h h'
  go_enter Try.func74, Try.ntmps74
  go_wp2_with (at_builtin; refine wpList_append_own _ rfl (.tmp 3) (.tmp 4) _ rfl w.heap.size 2 i0 _ 1 8 Try.underlying33 hi hz0 hz1 hz2 rfl (by omega) (.slice (some ⟨w.heap.size, 0, none⟩) 0 0) 0 [] (by rfl) ((Row.lit (w := w) (g := w.heap.size) (e := 2) (k := 1) (n := 0) (cs := #[]) rfl (by rfl) (by omega)).own (Nat.le_refl _)) ⟨b, o, none⟩ m c (il xs) (by rfl) (by rw [il_len]; omega) H.out (one_il _) (by simp only [maxLen]; omega) (by omega) (by simp) ?_; intro v' w1 hown hgrow hnil)
  obtain ⟨g, cap, rfl, hg, hrow⟩ := own_some hown (fun h => by have := (hnil.1 h).1; cases this)
  go_wp2_with fail
  go_ret
  exact ⟨g, cap, by first | rfl | simp, hg, by simpa using hrow, ((Below.refl w.heap.size w).alloc (Nat.le_refl _) _).grown hgrow (by simp) (fun k h => by simp [Value.ownBlock] at h; omega)⟩

end Go.Proofs.Ytckigilfjdcfgaa
