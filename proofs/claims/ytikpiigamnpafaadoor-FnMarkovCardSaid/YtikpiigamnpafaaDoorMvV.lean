/- Numbers out of bytes; valid triples in the reference (out of MkV). -/
import Derived.Test.YtikpiigamnpafaaDoorMvL
namespace Go.Proofs.YtikpiigamnpafaaDoor
open Go.RowKit

theorem a2At_any (A : Option Addr) (n c B : Nat) (xs : List Int) (i : Nat) (m : Int) (w : World) (h : Rd w B 1 A n (u8l xs)) (hn : n ≤ 3000) (hi : i ≤ 3000) (hx : ∀ x ∈ xs, 0 ≤ x ∧ x ≤ 255) (hm : 1 ≤ m ∧ m ≤ 1000000) :
    Calls Tryd.prog 26 #[.slice A n c, .int .i64 i, .int .i64 m] w fun e w' => ∃ v, e = .returned (.int .i64 v) ∧ 0 ≤ v ∧ v < m ∧ w = w' := by
  have hl : xs.length = n := by have := h.1; simpa [u8l] using this
  have hm1 : decide (m < 1) = false := decide_eq_false (by omega)
  by_cases hin : i < n
  · have hd : decide ((n : Int) ≤ (i : Int)) = false := decide_eq_false (by omega)
    obtain ⟨b, o, rfl, hb, hc⟩ := h.2 (by omega)
    have hx1 := hx _ (List.getElem_mem (show i < xs.length by omega))
    have c1 : w.cell? ⟨b, o + i, none⟩ = some (.int .u8 (xs[i]'(by omega))) := hc i _ (by simp [u8l, hl, hin])
    have i1 : (i : Int) < (n : Int) := by omega
    clear h hc hx
    generalize (xs[i]'(by omega)) = x at *
    have t1 : Int.tmod x m = x % m := Int.tmod_eq_emod_of_nonneg hx1.1
    have m0 : 0 ≤ x % m := Int.emod_nonneg _ (by omega)
    have m9 : x % m < m := Int.emod_lt_of_pos _ (by omega)
    have hm0 : ¬ m = 0 := by omega
    go_enter Tryd.func26, Tryd.ntmps26
    go_wp2
    go_ret
    exact ⟨_, rfl, m0, m9, rfl⟩
  · have hd : decide ((n : Int) ≤ (i : Int)) = true := decide_eq_true (by omega)
    clear h
    go_enter Tryd.func26, Tryd.ntmps26
    go_wp2
    go_ret
    exact ⟨0, rfl, by omega, by omega, rfl⟩

theorem specValidTriple_any (X Y Z : Int) (w : World) :
    Calls Tryd.prog 28 #[.agg #[.int .i64 X, .int .i64 Y, .int .i64 Z]] w fun e w' => e = .returned (.bool (vtB X Y Z)) ∧ Below w.heap.size w w' := by
  go_enter Tryd.func28, Tryd.ntmps28
  go_wp2_with fail
  refine (l22Ok_any X Y Z _).mono ?_
  rintro e w1 ⟨rfl, hb1⟩
  have hB := bstep (show Below w.heap.size w _ by go_grown) hb1 (by simp)
  go_wp2_with fail
  go_ret
  exact ⟨rfl, hB⟩

end Go.Proofs.YtikpiigamnpafaaDoor
