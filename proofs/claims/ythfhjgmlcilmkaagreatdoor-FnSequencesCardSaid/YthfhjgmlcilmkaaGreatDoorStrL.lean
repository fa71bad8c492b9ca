/- Lists of strings as the laws compare, mark and read them again. -/
import Derived.Test.YthfhjgmlcilmkaaGreatDoorHeld
import Derived.Test.YthfhjgmlcilmkaaGreatDoorStr
import Derived.Laws.IdiomStrings
import Derived.Lib.QuietBelow
namespace Go.Proofs.YthfhjgmlcilmkaaGreatDoor
open Go.RowKit Go.Sort

def ssl (l : List ByteArray) : List Value := l.map Value.string
theorem ssl_len (l : List ByteArray) : (ssl l).length = l.length := by simp [ssl]
theorem ssl_append (a b : List ByteArray) : ssl (a ++ b) = ssl a ++ ssl b := by simp [ssl]
theorem ssl_at {l : List ByteArray} {i : Nat} (h : i < l.length) : (ssl l)[i]? = some (.string l[i]) := by simp [ssl, h]
theorem one_ssl (l : List ByteArray) : ∀ u ∈ ssl l, u.oneCell' = true := by
  intro u hu
  simp only [ssl, List.mem_map] at hu
  obtain ⟨z, _, rfl⟩ := hu
  rfl

/-- The decimal digits of j, ahead of a text. -/
def dg (j : Nat) (s : ByteArray) : ByteArray :=
  if _h : j = 0 then s else dg (j / 10) (⟨#[UInt8.ofNat (48 + j % 10)]⟩ ++ s)
termination_by j
decreasing_by omega
theorem dg_zero (s : ByteArray) : dg 0 s = s := by unfold dg; simp
theorem dg_succ {j : Nat} (h : j ≠ 0) (s : ByteArray) : dg j s = dg (j / 10) (⟨#[UInt8.ofNat (48 + j % 10)]⟩ ++ s) := by
  conv => lhs; unfold dg
  rw [dif_neg h]
def mtx (k : Nat) : ByteArray := ⟨#[109]⟩ ++ dg k ⟨#[]⟩

/-- The marks k, k + 1, .. of n strings. -/
def smarks (k n : Nat) : List ByteArray := (List.range n).map fun i : Nat => mtx (k + i)
theorem smarks_len (k n : Nat) : (smarks k n).length = n := by simp [smarks]
theorem smarks_at {k n i : Nat} (h : i < n) : (ssl (smarks k n))[i]? = some (.string (mtx (k + i))) := by
  rw [ssl_at (by rw [smarks_len]; exact h)]
  simp [smarks]
theorem smarks_succ (k n : Nat) : smarks k (n + 1) = smarks k n ++ [mtx (k + n)] := by simp [smarks, List.range_succ]
theorem smarks_step {k : Nat} {xs : List ByteArray} {j : Nat} (h : j < xs.length) : (ssl (smarks k j ++ xs.drop j)).set j (.string (mtx (k + j))) = ssl (smarks k (j + 1) ++ xs.drop (j + 1)) := by
  rw [ssl_append, List.set_append_right _ _ (by rw [ssl_len, smarks_len]; exact Nat.le_refl _), ssl_len, smarks_len, Nat.sub_self, List.drop_eq_getElem_cons h, smarks_succ, ssl_append, ssl_append, List.append_assoc]
  rfl
theorem smarks_get {k : Nat} {xs : List ByteArray} {j : Nat} (h : j < xs.length) : (ssl (smarks k j ++ xs.drop j))[j]? = some (.string xs[j]) := by
  unfold ssl
  rw [List.getElem?_map, List.getElem?_append_right (by rw [smarks_len]; exact Nat.le_refl _), smarks_len, Nat.sub_self]
  simp [h]

/-- A list of strings that a call made behind block B, or nil. -/
def LstS (w : World) (B : Nat) (v : Value) (xs : List ByteArray) : Prop :=
  ∃ A n cap, v = .slice A n cap ∧ n = xs.length ∧ n ≤ 1000000000 ∧ ((A = none ∧ n = 0) ∨ ∃ g, A = some ⟨g, 0, none⟩ ∧ B ≤ g ∧ Row w g 9 1 n cap (ssl xs))

theorem LstS.nil_ (w : World) (B : Nat) : LstS w B (.slice none 0 0) [] := ⟨none, 0, 0, rfl, rfl, by omega, .inl ⟨rfl, rfl⟩⟩
theorem LstS.of_row {w : World} {B g n cap : Nat} {xs : List ByteArray} (h : Row w g 9 1 n cap (ssl xs)) (hB : B ≤ g) (hn : n ≤ 1000000000) : LstS w B (.slice (some ⟨g, 0, none⟩) n cap) xs :=
  ⟨_, n, cap, rfl, by have := h.len; rw [ssl_len] at this; omega, hn, .inr ⟨g, rfl, hB, h⟩⟩
theorem LstS.of_own {w : World} {B n : Nat} {v : Value} {xs : List ByteArray} (h : w.ownsRow B 9 1 v n (ssl xs)) (hn : n ≤ 1000000000) : LstS w B v xs := by
  have hl : n = xs.length := by have := h.1; rw [ssl_len] at this; omega
  rcases h.2 with ⟨rfl, h0⟩ | ⟨g, cap, cur, rfl, hb, r⟩
  · exact ⟨none, 0, 0, rfl, by omega, by omega, .inl ⟨rfl, rfl⟩⟩
  · exact ⟨_, n, cap, rfl, hl, hn, .inr ⟨g, rfl, hb, (Row.of_own h).1⟩⟩
theorem LstS.keep {w w' : World} {B : Nat} {v : Value} {xs : List ByteArray} (h : LstS w B v xs) (hb : Below w.heap.size w w') : LstS w' B v xs := by
  obtain ⟨A, n, cap, e, hn, hn2, h | ⟨g, hA, hg, hr⟩⟩ := h
  · exact ⟨A, n, cap, e, hn, hn2, .inl h⟩
  · exact ⟨A, n, cap, e, hn, hn2, .inr ⟨g, hA, hg, hr.below hb hr.lt⟩⟩
theorem LstS.drewN {w : World} {B : Nat} {v : Value} {xs : List ByteArray} (h : LstS w B v xs) (m : Nat) : LstS (w.drewN m) B v xs := h
theorem LstS.rd {w : World} {B : Nat} {A : Option Addr} {n cap : Nat} {xs : List ByteArray} (hn : n = xs.length) (h : (A = none ∧ n = 0) ∨ ∃ g, A = some ⟨g, 0, none⟩ ∧ B ≤ g ∧ Row w g 9 1 n cap (ssl xs)) : Rd w w.heap.size 1 A n (ssl xs) := by
  rcases h with ⟨_, h0⟩ | ⟨g, rfl, _, hr⟩
  · exact ⟨by rw [ssl_len]; omega, fun h => by omega⟩
  · exact hr.rd

end Go.Proofs.YthfhjgmlcilmkaaGreatDoor
