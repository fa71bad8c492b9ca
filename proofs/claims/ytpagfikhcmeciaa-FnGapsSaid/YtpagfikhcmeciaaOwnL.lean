/- Copies of lists, in the reference. -/
import Derived.Test.YtpagfikhcmeciaaOwn
namespace Go.Proofs.Ytpagfikhcmeciaa
open Go.RowKit

theorem l00Own_any (b o m c : Nat) (xs : List Int) (w : World) (hl : xs.length = m) (hm : m ≤ 1000000) (h : ∀ j u, (il xs)[j]? = some u → w.cell? ((⟨b, o, none⟩ : Addr).add j) = some u) (hb : b < w.heap.size) :
    Calls Try.prog 63 #[.slice (some ⟨b, o, none⟩) m c] w fun e w' => ∃ g cap, e = .returned (.slice (some ⟨g, 0, none⟩) m cap) ∧ w.heap.size ≤ g ∧ Row w' g 2 1 m cap (il xs) ∧ Below w.heap.size w w' := by
  obtain ⟨i0, hi, hz0, hz1, hz2⟩ := info_parts info_i64
  have h' : ∀ j u, (il xs)[j]? = some u → (w.alloc (.cells #[] 2)).cell? ((⟨b, o, none⟩ : Addr).add j) = some u := by
    intro j u hu
    rw [← h j u hu]
    have : (⟨b, o, none⟩ : Addr).add j = ⟨b, o + j, none⟩ := by unfold Addr.add; split <;> simp_all
    rw [this]
    exact World.cell?_of_block (w := w) (a := ⟨b, o + j, none⟩) (Below.heap_alloc w _ b hb)
  have H := hide h'
  clear h h'
  go_enter Try.func63, Try.ntmps63
  go_wp2_with (at_builtin; refine wpList_append_own _ rfl (.tmp 3) (.tmp 4) _ rfl w.heap.size 2 i0 _ 1 8 Try.underlying31 hi hz0 hz1 hz2 rfl (by omega) (.slice (some ⟨w.heap.size, 0, none⟩) 0 0) 0 [] (by rfl) ((Row.lit (w := w) (g := w.heap.size) (e := 2) (k := 1) (n := 0) (cs := #[]) rfl (by rfl) (by omega)).own (Nat.le_refl _)) ⟨b, o, none⟩ m c (il xs) (by rfl) (by rw [il_len]; omega) H.out (one_il _) (by simp only [maxLen]; omega) (by omega) (by simp) ?_; intro v' w1 hown hgrow hnil)
  obtain ⟨g, cap, rfl, hg, hrow⟩ := own_some hown (fun h => by have := (hnil.1 h).1; cases this)
  go_wp2_with fail
  go_ret
  exact ⟨g, cap, by first | rfl | simp, hg, by simpa using hrow, ((Below.refl w.heap.size w).alloc (Nat.le_refl _) _).grown hgrow (by simp) (fun k h => by simp [Value.ownBlock] at h; omega)⟩

end Go.Proofs.Ytpagfikhcmeciaa
