/- Slices of bools: copies and comparisons; then TripleAt in the program and in the reference, and its law. -/
import Derived.Test.YtdopchoncajheaaMark3
import Derived.Test.YtdopchoncajheaaSl
import Derived.Deep.RegionHeld3
namespace Go.Proofs.Ytdopchoncajheaa
open Go.RowKit

abbrev bl (bs : List Bool) : List Value := bs.map Value.bool

theorem row_done {w : World} {b n : Nat} {t : TypeId} {f : Nat → Value} {xs : List Value} {base : Nat} (h : w.rowIs b t n f) (hx : xs.length = n) (hf : ∀ j u, xs[j]? = some u → f j = u) (hb : base ≤ b) (hm : n ≤ maxLen) :
    w.ownsRow base t 1 (.slice (some ⟨b, 0, none⟩) n n) n xs := by
  obtain ⟨c, hc, hs, hv⟩ := h
  refine ⟨by omega, .inr ⟨b, n, c, rfl, hb, hc, Nat.le_refl _, hm, by omega, ?_⟩⟩
  rw [List.take_of_length_le (by simp; omega)]
  apply List.ext_getElem?
  intro j
  rw [Array.getElem?_toList]
  by_cases hj : j < n
  · rw [hv j hj, List.getElem?_eq_getElem (by omega)]
    exact congrArg some (hf j _ (List.getElem?_eq_getElem (by omega)))
  · rw [Array.getElem?_eq_none (by omega), List.getElem?_eq_none (by omega)]

theorem toBoolS_any (A : Option Addr) (n c : Nat) (bs : List Bool) (w : World) (h : Rd w w.heap.size 1 A n (bl bs)) (hn : n ≤ 1048576) :
    Calls Try.prog 20 #[.slice A n c] w fun e w' => e = .returned (.slice (some ⟨w.heap.size, 0, none⟩) n n) ∧ w'.ownsRow w.heap.size 4 1 (.slice (some ⟨w.heap.size, 0, none⟩) n n) n (bl bs) ∧ Below w.heap.size w w' := by
  have hmk := run_make_row' (P := Try.prog) 31 4 (.bool false) 1 Try.underlying31 info_bool rfl .i64 .i64 n (by omega) (by omega)
  have hlen : bs.length = n := by have := h.1; simpa using this
  have hA : ∃ b o, 0 < n → (A = some ⟨b, o, none⟩ ∧ b < w.heap.size ∧ ∀ k, k < n → w.cell? ⟨b, o + k, none⟩ = some (.bool (bs.getD k false))) := by
    rcases Nat.eq_zero_or_pos n with h0 | h0
    · exact ⟨0, 0, fun h => absurd h (by omega)⟩
    · obtain ⟨b, o, e, hB, hc⟩ := h.2 h0
      exact ⟨b, o, fun _ => ⟨e, hB, fun k hk => hc k _ (by rw [List.getElem?_map, List.getElem?_eq_getElem (by omega)]; simp [List.getD, List.getElem?_eq_getElem (show k < bs.length by omega)])⟩⟩
  obtain ⟨b, o, hA⟩ := hA
  have HA := hide hA
  have HL := hide hlen
  clear h hlen hA
  go_enter Try.func20, Try.ntmps20
  go_wp2
  go_loopw [4] (fun i wr => ∃ k : Nat, k ≤ n ∧ i = .int .i64 k ∧ wr.rowIs w.heap.size 4 n (fun j => if j < k then .bool (bs.getD j false) else .bool false) ∧ Below w.heap.size w wr) (fun i _ => n - (intOf i).toNat)
  case atStart => exact ⟨0, by omega, rfl, (World.rowIs_made _ _ _ _).congr (fun _ _ => by simp), by go_grown⟩
  case round =>
    obtain ⟨k, hk, rfl, hrow, hbel⟩ := hrel
    by_cases hlt : k < n
    · obtain ⟨rfl, hB, hc⟩ := HA.out (by omega)
      have c1 : wr.cell? ⟨b, o + k, none⟩ = some (.bool (bs.getD k false)) := (hbel.cell (p := ⟨b, o + k, none⟩) hB).trans (hc k hlt)
      clear hc
      obtain ⟨v, hv⟩ : ∃ v, bs.getD k false = v := ⟨_, rfl⟩
      have c2 := hrow.cell (i := k) hlt
      have c3 := hrow.frozen k
      rw [hv] at c1
      simp only [Nat.lt_irrefl, if_false] at c2
      have HV := hide hv
      clear hv
      go_wp2
      go_roundw
      case rel =>
        refine ⟨k + 1, hlt, by go_num, (hrow.set k (.bool v)).congr (fun j hj => ?_), hbel.setCell (Nat.le_refl _) _⟩
        by_cases e : j = k
        · subst e; rw [if_pos rfl, if_pos (by omega), HV.out]
        · simp only [if_neg e]
          by_cases hjk : j < k
          · rw [if_pos hjk, if_pos (by omega)]
          · rw [if_neg hjk, if_neg (by omega)]
      case measure => simp [intOf]; omega
    · obtain rfl : k = n := by omega
      have own := row_done (xs := bl bs) (base := w.heap.size) hrow (by simpa using HL.out) (fun j u hu => by
        have hj : j < bs.length := by
          have := (List.getElem?_eq_some_iff.1 hu).1
          simpa using this
        rw [if_pos (by have := HL.out; omega)]
        rw [List.getElem?_map, List.getElem?_eq_getElem hj] at hu
        simp [List.getD, List.getElem?_eq_getElem hj] at hu ⊢
        exact hu) (Nat.le_refl _) (by unfold maxLen; omega)
      go_wp2
      go_ret
      exact ⟨rfl, own, hbel⟩

theorem eqBoolS_any (A B : Option Addr) (n c d : Nat) (bs : List Bool) (w : World) (h : Rd w w.heap.size 1 A n (bl bs)) (h' : Rd w w.heap.size 1 B n (bl bs)) (hn : n ≤ 9223372036854775807) :
    Calls Try.prog 23 #[.slice A n c, .slice B n d] w fun e w' => e = .returned (.bool true) ∧ Below w.heap.size w w' := by
  have hlen : bs.length = n := by have := h.1; simpa using this
  have hA : ∀ {A : Option Addr}, Rd w w.heap.size 1 A n (bl bs) → ∃ b o, 0 < n → (A = some ⟨b, o, none⟩ ∧ ∀ k, k < n → w.cell? ⟨b, o + k, none⟩ = some (.bool (bs.getD k false))) := by
    intro A h
    rcases Nat.eq_zero_or_pos n with h0 | h0
    · exact ⟨0, 0, fun h => absurd h (by omega)⟩
    · obtain ⟨b, o, e, hB, hc⟩ := h.2 h0
      exact ⟨b, o, fun _ => ⟨e, fun k hk => hc k _ (by rw [List.getElem?_map, List.getElem?_eq_getElem (by omega)]; simp [List.getD, List.getElem?_eq_getElem (show k < bs.length by omega)])⟩⟩
  obtain ⟨b, o, h1⟩ := hA h
  obtain ⟨b', o', h2⟩ := hA h'
  have H1 := hide h1
  have H2 := hide h2
  clear h h' hlen hA h1 h2
  go_enter Try.func23, Try.ntmps23
  go_wp2
  go_loopw [5] (fun i wr => ∃ k m : Nat, k ≤ n ∧ i = .int .i64 k ∧ wr = w.drewN m) (fun i _ => n - (intOf i).toNat)
  case atStart => exact ⟨0, 0, by omega, rfl, rfl⟩
  case round =>
    obtain ⟨k, m, hk, rfl, rfl⟩ := hrel
    by_cases hlt : k < n
    · obtain ⟨rfl, hc1⟩ := H1.out (by omega)
      obtain ⟨rfl, hc2⟩ := H2.out (by omega)
      have c1 := hc1 k hlt
      have c2 := hc2 k hlt
      clear hc1 hc2
      obtain ⟨v, hv⟩ : ∃ v, bs.getD k false = v := ⟨_, rfl⟩
      rw [hv] at c1 c2
      clear hv
      have i0 : (0 : Int) ≤ (k : Int) := by omega
      have i1 : (k : Int) < (n : Int) := by omega
      go_wp2
      go_quiet (fail)
      go_wp2
      go_roundw
      case rel => exact ⟨k + 1, _, hlt, by go_num, rfl⟩
      case measure => simp [intOf]; omega
    · go_wp2
      go_ret
      exact ⟨rfl, belowN (Below.refl _ _) _⟩

theorem eqTriple_refl (X Y Z : Int) (w : World) :
    Calls Try.prog 22 #[.agg #[.int .i64 X, .int .i64 Y, .int .i64 Z], .agg #[.int .i64 X, .int .i64 Y, .int .i64 Z]] w fun e w' => e = .returned (.bool true) ∧ Below w.heap.size w w' := by
  go_enter Try.func22, Try.ntmps22
  go_wp2
  go_ret
  exact ⟨rfl, by go_grown⟩

end Go.Proofs.Ytdopchoncajheaa
