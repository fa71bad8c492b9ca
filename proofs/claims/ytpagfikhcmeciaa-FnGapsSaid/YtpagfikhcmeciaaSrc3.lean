/- The source of draws from bytes. -/
import Derived.Test.YtpagfikhcmeciaaSrc2
namespace Go.Proofs.Ytpagfikhcmeciaa
open Go.RowKit

theorem l00From_any (A : Option Addr) (n c : Nat) (xs : List Int) (w : World) (h : Rd w w.heap.size 1 A n (u8l xs)) (hn : n ≤ 9223372036854775807) (hx : ∀ x ∈ xs, 0 ≤ x ∧ x ≤ 255) :
    Calls Try.prog 43 #[.slice A n c] w fun e w' => ∃ g, e = .returned (.pointer (some ⟨g, 0, none⟩)) ∧ Src w' g w.heap.size 4611686018427387904 ∧ Below w.heap.size w w' := by
  have H := hide h
  clear h
  go_enter Try.func43, Try.ntmps43
  go_wp2
  go_ret
  refine ⟨w.heap.size, rfl, ⟨A, n, c, xs, 0, 0, hn, by omega, ?_, Nat.le_refl _, ?_, hx⟩, ?_⟩
  · exact Blk.new _ _ _
  · exact H.out.below ((Below.refl _ _).alloc (Nat.le_refl _) _)
  · go_grown

def isI64 : Value → Bool
  | .int .i64 _ => true
  | _ => false
theorem isI64_list : ∀ (l : List Value), l.all isI64 = true → ∃ zs : List Int, l = zs.map (Value.int .i64)
  | [], _ => ⟨[], rfl⟩
  | v :: l, h => by
    simp only [List.all_cons, Bool.and_eq_true] at h
    obtain ⟨zs, rfl⟩ := isI64_list l h.2
    have h1 := h.1
    unfold isI64 at h1
    split at h1
    · exact ⟨_ :: zs, rfl⟩
    · cases h1

theorem Src.alloc {w : World} {g B k : Nat} (h : Src w g B k) (o : Obj) : Src (w.alloc o) g B k := by
  obtain ⟨A, n, c, xs, i, seed, h1, h2, h3, h4, h5, h6⟩ := h
  exact ⟨A, n, c, xs, i, seed, h1, h2, h3.alloc o, h4, h5.grown (World.grownBy_alloc _ _ _) h4, h6⟩

/-- One of some numbers that lie in a block that has just been made. -/
theorem among_new (g B k : Nat) (cs : Array Value) (n : Nat) (w : World) (h : Src w g B (k + 2)) (hcs : cs.toList.all isI64 = true) (hl : cs.size = n) (hn : 0 < n) (hn2 : n ≤ 1000) :
    Calls Try.prog 46 #[.pointer (some ⟨g, 0, none⟩), .slice (some ⟨w.heap.size, 0, none⟩) n n] (w.alloc (.cells cs 2)) fun e w' => ∃ v, e = .returned (.int .i64 v) ∧ Src w' g B k ∧ w.grownBy w' (some g) := by
  obtain ⟨zs, hz⟩ := isI64_list _ hcs
  have hr : Row (w.alloc (.cells cs 2)) w.heap.size 2 1 n n cs.toList := Row.lit rfl (by omega) (by simp only [maxLen]; omega)
  rw [hz] at hr
  have hlt := h.lt
  refine (among_any g B k _ n n zs _ (h.alloc _) hr.rd hn (by omega) (by intro b o e; injection e with e; injection e; omega)).mono ?_
  rintro e w' ⟨v, rfl, _, hs, hg⟩
  exact ⟨v, rfl, hs, gtrans (World.grownBy_alloc _ _ _) hg⟩

end Go.Proofs.Ytpagfikhcmeciaa
