/- Lists of int64 as the laws compare, mark and read them again. -/
import Derived.Test.YtgkgoopadligiaaInts
import Derived.Test.YtgkgoopadligiaaSl
import Derived.Test.YtgkgoopadligiaaGs
namespace Go.Proofs.Ytgkgoopadligiaa
open Go.RowKit

/-- The marks k, k + 1, .. of n numbers. -/
def marks (k : Int) (n : Nat) : List Int := (List.range n).map fun i : Nat => k + (i : Int)
theorem marks_len (k : Int) (n : Nat) : (marks k n).length = n := by simp [marks]
theorem marks_at {k : Int} {n i : Nat} (h : i < n) : (il (marks k n))[i]? = some (.int .i64 (k + i)) := by
  rw [il_at (by rw [marks_len]; exact h)]
  simp [marks]
theorem Rd.cell {w : World} {B n : Nat} {A : Option Addr} {xs : List Value} (h : Rd w B 1 A n xs) {i : Nat} (hi : i < n) :
    ∃ b o, A = some ⟨b, o, none⟩ ∧ b < B ∧ w.cell? ⟨b, o + i, none⟩ = xs[i]? := by
  obtain ⟨b, o, e, hb, hc⟩ := h.2 (by omega)
  have hl : i < xs.length := by rw [h.1]; omega
  exact ⟨b, o, e, hb, by rw [List.getElem?_eq_getElem hl]; exact hc i _ (List.getElem?_eq_getElem hl)⟩

theorem eqInt64S_any (A1 A2 : Option Addr) (n c1 c2 B : Nat) (xs : List Int) (w : World) (hn : n ≤ 9223372036854775807) (h1 : Rd w B 1 A1 n (il xs)) (h2 : Rd w B 1 A2 n (il xs)) :
    Calls Try.prog 8 #[.slice A1 n c1, .slice A2 n c2] w fun e w' => e = .returned (.bool true) ∧ ∃ m, w' = w.drewN m := by
  have hl : xs.length = n := by have := h1.1; rw [il_len] at this; omega
  go_enter Try.func8, Try.ntmps8
  go_wp2
  go_loopw [5] (fun i wr => ∃ k m : Nat, i = .int .i64 k ∧ k ≤ n ∧ wr = w.drewN m) (fun i _ => n - (intOf i).toNat)
  case atStart => exact ⟨0, 0, rfl, by omega, rfl⟩
  case round =>
    obtain ⟨k, m, rfl, hk, rfl⟩ := hrel
    by_cases hlt : k < n
    · obtain ⟨b1, o1, rfl, _, e1⟩ := h1.cell hlt
      obtain ⟨b2, o2, rfl, _, e2⟩ := h2.cell hlt
      rw [il_at (by omega)] at e1 e2
      generalize xs[k] = x at *
      have hkz : (k : Int) < (n : Int) := by omega
      clear h1 h2 hl
      go_wp2
      go_quiet (fail)
      go_wp2
      go_roundw
      case rel => exact ⟨k + 1, _, by go_num, by omega, rfl⟩
      case measure => simp [intOf]; omega
    · go_wp2
      go_ret
      exact ⟨rfl, _, rfl⟩

theorem marks_succ (k : Int) (n : Nat) : marks k (n + 1) = marks k n ++ [k + n] := by simp [marks, List.range_succ]
theorem marks_step {k : Int} {xs : List Int} {j : Nat} (h : j < xs.length) : (il (marks k j ++ xs.drop j)).set j (.int .i64 (k + j)) = il (marks k (j + 1) ++ xs.drop (j + 1)) := by
  rw [il_append, List.set_append_right _ _ (by rw [il_len, marks_len]; exact Nat.le_refl _), il_len, marks_len, Nat.sub_self, List.drop_eq_getElem_cons h, marks_succ, il_append, il_append, List.append_assoc]
  rfl
theorem marks_get {k : Int} {xs : List Int} {j : Nat} (h : j < xs.length) : (il (marks k j ++ xs.drop j))[j]? = some (.int .i64 xs[j]) := by
  unfold il
  rw [List.getElem?_map, List.getElem?_append_right (by rw [marks_len]; exact Nat.le_refl _), marks_len, Nat.sub_self]
  simp [h]
theorem markInt64S_any (g n cap : Nat) (xs : List Int) (k : Int) (w : World) (hk : 0 ≤ k ∧ k ≤ 1000000000) (hn : n ≤ 1000000000) (h : Row w g 2 1 n cap (il xs)) :
    Calls Try.prog 9 #[.slice (some ⟨g, 0, none⟩) n cap, .int .i64 k] w fun e w' => e = .returned (.int .i64 (k + n)) ∧ Row w' g 2 1 n cap (il (marks k n)) ∧ w.grownBy w' (some g) := by
  have hl : xs.length = n := by have := h.len; rw [il_len] at this; omega
  go_enter Try.func9, Try.ntmps9
  go_wp2
  go_loopw [1, 5] (fun a i wr => ∃ j : Nat, i = .int .i64 j ∧ a = .int .i64 (k + j) ∧ j ≤ n ∧ Row wr g 2 1 n cap (il (marks k j ++ xs.drop j)) ∧ w.grownBy wr (some g)) (fun _ i _ => n - (intOf i).toNat)
  case atStart => exact ⟨0, rfl, by simp, by omega, by simpa [marks] using h, gbelow (Below.refl _ _) _⟩
  case round =>
    obtain ⟨j, rfl, rfl, hj, hrow, hgr⟩ := hrel
    by_cases hlt : j < n
    · have hc := hrow.cell (marks_get (k := k) (xs := xs) (j := j) (by omega))
      have hf := hrow.frozen j
      have hst := hrow.store j (.int .i64 (k + j))
      rw [marks_step (by omega)] at hst
      have HS := hide hst
      generalize xs[j]'(by omega) = x at hc
      clear hst hrow hl h
      go_wp2
      go_roundw
      case rel => exact ⟨j + 1, by go_num, by simp; omega, by omega, HS.out, gset hgr _ _⟩
      case measure => simp [intOf]; omega
    · have hjn : j = n := by omega
      subst hjn
      rw [← hl, List.drop_length, List.append_nil, hl] at hrow
      have HR := hide hrow
      clear hrow h hl
      go_wp2
      go_ret
      exact ⟨rfl, HR.out, hgr⟩

/-- A list of int64 that a call made behind block B, or nil. -/
def Lst (w : World) (B : Nat) (v : Value) (xs : List Int) : Prop :=
  ∃ A n cap, v = .slice A n cap ∧ n = xs.length ∧ n ≤ 1000000000 ∧ ((A = none ∧ n = 0) ∨ ∃ g, A = some ⟨g, 0, none⟩ ∧ B ≤ g ∧ Row w g 2 1 n cap (il xs))

theorem Lst.nil_ (w : World) (B : Nat) : Lst w B (.slice none 0 0) [] := ⟨none, 0, 0, rfl, rfl, by omega, .inl ⟨rfl, rfl⟩⟩
theorem Lst.of_row {w : World} {B g n cap : Nat} {xs : List Int} (h : Row w g 2 1 n cap (il xs)) (hB : B ≤ g) (hn : n ≤ 1000000000) : Lst w B (.slice (some ⟨g, 0, none⟩) n cap) xs :=
  ⟨_, n, cap, rfl, by have := h.len; rw [il_len] at this; omega, hn, .inr ⟨g, rfl, hB, h⟩⟩
theorem Lst.keep {w w' : World} {B : Nat} {v : Value} {xs : List Int} (h : Lst w B v xs) (hb : Below w.heap.size w w') : Lst w' B v xs := by
  obtain ⟨A, n, cap, e, hn, hn2, h | ⟨g, hA, hg, hr⟩⟩ := h
  · exact ⟨A, n, cap, e, hn, hn2, .inl h⟩
  · exact ⟨A, n, cap, e, hn, hn2, .inr ⟨g, hA, hg, hr.below hb hr.lt⟩⟩
theorem Lst.drewN {w : World} {B : Nat} {v : Value} {xs : List Int} (h : Lst w B v xs) (m : Nat) : Lst (w.drewN m) B v xs := h
theorem Lst.rd {w : World} {B : Nat} {A : Option Addr} {n cap : Nat} {xs : List Int} (hn : n = xs.length) (h : (A = none ∧ n = 0) ∨ ∃ g, A = some ⟨g, 0, none⟩ ∧ B ≤ g ∧ Row w g 2 1 n cap (il xs)) : Rd w w.heap.size 1 A n (il xs) := by
  rcases h with ⟨_, h0⟩ | ⟨g, rfl, _, hr⟩
  · exact ⟨by rw [il_len]; omega, fun h => by omega⟩
  · exact hr.rd

theorem eqLst_any (v1 v2 : Value) (B1 B2 : Nat) (xs : List Int) (w : World) (h1 : Lst w B1 v1 xs) (h2 : Lst w B2 v2 xs) :
    Calls Try.prog 8 #[v1, v2] w fun e w' => e = .returned (.bool true) ∧ ∃ m, w' = w.drewN m := by
  obtain ⟨A1, n, c1, rfl, hn, hb, h1⟩ := h1
  obtain ⟨A2, n2, c2, rfl, hn2, _, h2⟩ := h2
  obtain rfl : n2 = n := by omega
  exact eqInt64S_any A1 A2 n2 c1 c2 _ xs w (by omega) (Lst.rd hn h1) (Lst.rd hn2 h2)

theorem markLst_any (v : Value) (B : Nat) (xs : List Int) (w : World) (h : Lst w B v xs) :
    Calls Try.prog 9 #[v, .int .i64 1] w fun e w' => e = .returned (.int .i64 (1 + xs.length)) ∧ Lst w' B v (marks 1 xs.length) ∧ Below B w w' := by
  obtain ⟨A, n, cap, rfl, hn, hb, ⟨rfl, h0⟩ | ⟨g, rfl, hg, hr⟩⟩ := h
  · subst h0
    rw [← hn]
    clear hn hb
    go_enter Try.func9, Try.ntmps9
    go_wp2
    go_loopw [1, 5] (fun a i wr => a = .int .i64 1 ∧ i = .int .i64 0 ∧ wr = w) (fun _ _ _ => 0)
    case atStart => exact ⟨rfl, rfl, rfl⟩
    case round =>
      obtain ⟨rfl, rfl, rfl⟩ := hrel
      go_wp2
      go_ret
      exact ⟨rfl, ⟨none, 0, cap, rfl, rfl, by omega, .inl ⟨rfl, rfl⟩⟩, Below.refl _ _⟩
  · rw [← hn]
    refine (markInt64S_any g n cap xs 1 w (by omega) hb hr).mono ?_
    rintro e w' ⟨rfl, hr2, hgr⟩
    exact ⟨rfl, ⟨_, n, cap, rfl, by rw [marks_len], hb, .inr ⟨g, rfl, hg, hr2⟩⟩, (Below.refl B w).grown hgr (by have := hr.lt; omega) (fun k h => by simp at h; omega)⟩

end Go.Proofs.Ytgkgoopadligiaa
