/- Lists of int64 as the laws compare, mark and read them again. -/
import Derived.Test.YtpagfikhcmeciaaInts
import Derived.Test.YtpagfikhcmeciaaSl
import Derived.Test.YtpagfikhcmeciaaGs
namespace Go.Proofs.Ytpagfikhcmeciaa
open Go.RowKit

/-- The marks k, k + 1, .. of n numbers. -/
def marks (k : Int) (n : Nat) : List Int := (List.range n).map fun i : Nat => k + (i : Int)
theorem marks_len (k : Int) (n : Nat) : (marks k n).length = n := by simp [marks]
theorem marks_at {k : Int} {n i : Nat} (h : i < n) : (il (marks k n))[i]? = some (.int .i64 (k + i)) := by
  rw [il_at (by rw [marks_len]; exact h)]
  simp [marks]
theorem Rd.cell {w : World} {B n : Nat} {A : Option Addr} {xs : List Value} (h : Rd w B 1 A n xs) {i : Nat} (hi : i < n) :
    ∃ b o, A = some ⟨b, o, none⟩ ∧ b < B ∧ w.cell? ⟨b, o + i, none⟩ = xs[i]? := by
  obtain ⟨b, o, e, hb, hc⟩ := h.2 (by omega)
  have hl : i < xs.length := by rw [h.1]; omega
  exact ⟨b, o, e, hb, by rw [List.getElem?_eq_getElem hl]; exact hc i _ (List.getElem?_eq_getElem hl)⟩

theorem marks_succ (k : Int) (n : Nat) : marks k (n + 1) = marks k n ++ [k + n] := by simp [marks, List.range_succ]
theorem marks_step {k : Int} {xs : List Int} {j : Nat} (h : j < xs.length) : (il (marks k j ++ xs.drop j)).set j (.int .i64 (k + j)) = il (marks k (j + 1) ++ xs.drop (j + 1)) := by
  rw [il_append, List.set_append_right _ _ (by rw [il_len, marks_len]; exact Nat.le_refl _), il_len, marks_len, Nat.sub_self, List.drop_eq_getElem_cons h, marks_succ, il_append, il_append, List.append_assoc]
  rfl
theorem marks_get {k : Int} {xs : List Int} {j : Nat} (h : j < xs.length) : (il (marks k j ++ xs.drop j))[j]? = some (.int .i64 xs[j]) := by
  unfold il
  rw [List.getElem?_map, List.getElem?_append_right (by rw [marks_len]; exact Nat.le_refl _), marks_len, Nat.sub_self]
  simp [h]
/-- A list of int64 that a call made behind block B, or nil. -/
def Lst (w : World) (B : Nat) (v : Value) (xs : List Int) : Prop :=
  ∃ A n cap, v = .slice A n cap ∧ n = xs.length ∧ n ≤ 1000000000 ∧ ((A = none ∧ n = 0) ∨ ∃ g, A = some ⟨g, 0, none⟩ ∧ B ≤ g ∧ Row w g 2 1 n cap (il xs))

theorem Lst.nil_ (w : World) (B : Nat) : Lst w B (.slice none 0 0) [] := ⟨none, 0, 0, rfl, rfl, by omega, .inl ⟨rfl, rfl⟩⟩
theorem Lst.of_row {w : World} {B g n cap : Nat} {xs : List Int} (h : Row w g 2 1 n cap (il xs)) (hB : B ≤ g) (hn : n ≤ 1000000000) : Lst w B (.slice (some ⟨g, 0, none⟩) n cap) xs :=
  ⟨_, n, cap, rfl, by have := h.len; rw [il_len] at this; omega, hn, .inr ⟨g, rfl, hB, h⟩⟩
theorem Lst.keep {w w' : World} {B : Nat} {v : Value} {xs : List Int} (h : Lst w B v xs) (hb : Below w.heap.size w w') : Lst w' B v xs := by
  obtain ⟨A, n, cap, e, hn, hn2, h | ⟨g, hA, hg, hr⟩⟩ := h
  · exact ⟨A, n, cap, e, hn, hn2, .inl h⟩
  · exact ⟨A, n, cap, e, hn, hn2, .inr ⟨g, hA, hg, hr.below hb hr.lt⟩⟩
theorem Lst.drewN {w : World} {B : Nat} {v : Value} {xs : List Int} (h : Lst w B v xs) (m : Nat) : Lst (w.drewN m) B v xs := h
theorem Lst.rd {w : World} {B : Nat} {A : Option Addr} {n cap : Nat} {xs : List Int} (hn : n = xs.length) (h : (A = none ∧ n = 0) ∨ ∃ g, A = some ⟨g, 0, none⟩ ∧ B ≤ g ∧ Row w g 2 1 n cap (il xs)) : Rd w w.heap.size 1 A n (il xs) := by
  rcases h with ⟨_, h0⟩ | ⟨g, rfl, _, hr⟩
  · exact ⟨by rw [il_len]; omega, fun h => by omega⟩
  · exact hr.rd

end Go.Proofs.Ytpagfikhcmeciaa
