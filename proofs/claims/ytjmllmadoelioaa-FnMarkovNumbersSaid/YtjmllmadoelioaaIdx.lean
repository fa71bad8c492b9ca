/- slices.Index at lists of numbers. -/
import Derived.Test.YtjmllmadoelioaaHeld
namespace Go.Proofs.Ytjmllmadoelioaa
open Go.RowKit

theorem getD_getElem {L : List Int} {j : Nat} (h : j < L.length) : L.getD j 0 = L[j] := by
  rw [List.getD_eq_getElem?_getD, List.getElem?_eq_getElem h]; rfl

/-- What slices.Index hands back: the first place of a number, or -1. -/
def Idx (L : List Int) (x r : Int) : Prop := (r = -1 ∧ x ∉ L) ∨ ∃ i : Nat, i < L.length ∧ r = i ∧ L.getD i 0 = x

theorem index_any (A : Option Addr) (n c : Nat) (L : List Int) (x : Int) (w : World) (hn : n ≤ 1000000000) (hl : L.length = n) (h : Rd w w.heap.size 1 A n (il L)) :
    Calls Try.prog 61 #[.slice A n c, .int .i64 x] w fun e w' => ∃ r : Int, e = .returned (.int .i64 r) ∧ Idx L x r ∧ w = w' := by
  go_enter Try.func61, Try.ntmps61
  go_wp2
  go_loopw [8] (fun i wr => ∃ k : Nat, i = .int .i64 k ∧ k ≤ n ∧ x ∉ L.take k ∧ wr = w) (fun i _ => n - (intOf i).toNat)
  case atStart => exact ⟨0, rfl, by omega, by simp, rfl⟩
  case round =>
    obtain ⟨k, rfl, hk, hx, rfl⟩ := hrel
    by_cases hlt : k < n
    · obtain ⟨b, o, rfl, _, hc⟩ := h.2 (by omega)
      have e1 := hc k _ (il_getD (zs := L) (i := k) (by omega))
      have hs : x ≠ L.getD k 0 → x ∉ L.take (k + 1) := by
        intro hne
        rw [List.take_succ_eq_append_getElem (by omega), ← getD_getElem (by omega), List.mem_append, List.mem_singleton]
        exact fun h => h.elim hx hne
      have hi : Idx L (L.getD k 0) k := .inr ⟨k, by omega, rfl, rfl⟩
      generalize L.getD k 0 = y at *
      have HS := hide hs
      have i1 : (k : Int) < (n : Int) := by omega
      by_cases hxy : x = y
      · subst hxy
        have HI := hide hi
        clear hs hi h hx hl hc
        go_wp2
        go_ret
        exact ⟨_, rfl, HI.out, rfl⟩
      · have q1 : (x == y) = false := beq_eq_false_iff_ne.2 hxy
        clear hs hi h hx hl hc
        go_wp2
        go_roundw
        case rel => exact ⟨k + 1, by go_num, by omega, HS.out hxy, trivial⟩
        case measure => simp [intOf]; omega
    · have hkn : k = n := by omega
      have hi : Idx L x (-1) := .inl ⟨rfl, by rw [List.take_of_length_le (by omega)] at hx; exact hx⟩
      have HI := hide hi
      clear h hx hl hi
      go_wp2
      go_ret
      exact ⟨_, rfl, HI.out, rfl⟩

end Go.Proofs.Ytjmllmadoelioaa
