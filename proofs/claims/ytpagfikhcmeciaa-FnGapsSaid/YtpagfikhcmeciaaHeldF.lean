/- Lists of fractions as the laws compare, mark and read them again. -/
import Derived.Test.YtpagfikhcmeciaaRow
import Derived.Test.YtpagfikhcmeciaaGs
import Derived.Test.YtpagfikhcmeciaaEqF
import Derived.Test.YtpagfikhcmeciaaInts
import Derived.StillTailTactics
namespace Go.Proofs.Ytpagfikhcmeciaa
open Go.RowKit

def c2 (f : Int × Int) : List Value := [.int .i64 f.1, .int .i64 f.2]
def cs2 (fs : List (Int × Int)) : List Value := fs.flatMap c2
theorem cs2_len (fs : List (Int × Int)) : (cs2 fs).length = fs.length * 2 := by
  induction fs with
  | nil => rfl
  | cons t ts ih => simp only [cs2, List.flatMap_cons, List.length_append, List.length_cons] at ih ⊢; rw [ih]; simp [c2]; omega
theorem cs2_append (a b : List (Int × Int)) : cs2 (a ++ b) = cs2 a ++ cs2 b := by simp [cs2]
theorem cs2_split {fs : List (Int × Int)} {i : Nat} (hi : i < fs.length) : cs2 fs = cs2 (fs.take i) ++ (c2 fs[i] ++ cs2 (fs.drop (i + 1))) := by
  conv => lhs; rw [← List.take_append_drop i fs, List.drop_eq_getElem_cons hi]
  rw [cs2_append]; rfl
theorem cs2_at {fs : List (Int × Int)} {i : Nat} (hi : i < fs.length) : (cs2 fs)[i * 2]? = some (.int .i64 fs[i].1) ∧ (cs2 fs)[i * 2 + 1]? = some (.int .i64 fs[i].2) := by
  have hl : (cs2 (fs.take i)).length = i * 2 := by rw [cs2_len, List.length_take]; omega
  rw [cs2_split hi]
  constructor
  · rw [List.getElem?_append_right (by omega), hl, Nat.sub_self]; rfl
  · rw [List.getElem?_append_right (by omega), hl]
    have : i * 2 + 1 - i * 2 = 1 := by omega
    rw [this]; rfl
theorem one2 (fs : List (Int × Int)) : ∀ u ∈ cs2 fs, u.oneCell' = true := by
  intro u hu
  simp only [cs2, List.mem_flatMap, c2] at hu
  obtain ⟨f, _, hu⟩ := hu
  simp at hu
  rcases hu with rfl | rfl <;> rfl
theorem Rd.cell2 {w : World} {B n : Nat} {A : Option Addr} {fs : List (Int × Int)} (h : Rd w B 2 A n (cs2 fs)) (hl : fs.length = n) {i : Nat} (hi : i < n) :
    ∃ b o, A = some ⟨b, o, none⟩ ∧ b < B ∧ w.cell? ⟨b, o + i * 2, none⟩ = some (.int .i64 (fs[i]'(by omega)).1) ∧ w.cell? ⟨b, o + i * 2 + 1, none⟩ = some (.int .i64 (fs[i]'(by omega)).2) := by
  obtain ⟨b, o, e, hb, hc⟩ := h.2 (by omega)
  obtain ⟨a1, a2⟩ := cs2_at (fs := fs) (i := i) (by omega)
  exact ⟨b, o, e, hb, hc _ _ a1, hc _ _ a2⟩

/-- The marks k, k + 1, .. of n fractions, two a fraction. -/
def mks (k : Int) (n : Nat) : List (Int × Int) := (List.range n).map fun i : Nat => (k + 2 * (i : Int), k + 2 * (i : Int) + 1)
theorem mks_len (k : Int) (n : Nat) : (mks k n).length = n := by simp [mks]
theorem mks_succ (k : Int) (n : Nat) : mks k (n + 1) = mks k n ++ [(k + 2 * (n : Int), k + 2 * (n : Int) + 1)] := by simp [mks, List.range_succ]
theorem mks_at {k : Int} {n i : Nat} (h : i < n) : (mks k n)[i]'(by rw [mks_len]; exact h) = (k + 2 * (i : Int), k + 2 * (i : Int) + 1) := by simp [mks]
theorem mks_step {k : Int} {fs : List (Int × Int)} {j : Nat} (h : j < fs.length) :
    ((cs2 (mks k j ++ fs.drop j)).set (j * 2) (.int .i64 (k + 2 * (j : Int)))).set (j * 2 + 1) (.int .i64 (k + 2 * (j : Int) + 1)) = cs2 (mks k (j + 1) ++ fs.drop (j + 1)) := by
  have hl : (cs2 (mks k j)).length = j * 2 := by rw [cs2_len, mks_len]
  rw [cs2_append, List.set_append_right _ _ (by omega), List.set_append_right _ _ (by omega), hl, Nat.sub_self, List.drop_eq_getElem_cons h, mks_succ, cs2_append, cs2_append, List.append_assoc]
  have : j * 2 + 1 - j * 2 = 1 := by omega
  rw [this]
  rfl
theorem mks_get {k : Int} {fs : List (Int × Int)} {j : Nat} (h : j < fs.length) : ∃ x y : Int, (cs2 (mks k j ++ fs.drop j))[j * 2]? = some (.int .i64 x) ∧ (cs2 (mks k j ++ fs.drop j))[j * 2 + 1]? = some (.int .i64 y) := by
  have hj : j < (mks k j ++ fs.drop j).length := by simp [mks_len]; omega
  exact ⟨_, _, cs2_at hj⟩

/-- A list of fractions that a call made behind block B, or nil. -/
def LstF (w : World) (B : Nat) (v : Value) (xs : List (Int × Int)) : Prop :=
  ∃ A n cap, v = .slice A n cap ∧ n = xs.length ∧ n ≤ 1000000000 ∧ ((A = none ∧ n = 0) ∨ ∃ g, A = some ⟨g, 0, none⟩ ∧ B ≤ g ∧ Row w g 25 2 n cap (cs2 xs))

theorem LstF.nil_ (w : World) (B : Nat) : LstF w B (.slice none 0 0) [] := ⟨none, 0, 0, rfl, rfl, by omega, .inl ⟨rfl, rfl⟩⟩
theorem LstF.of_row {w : World} {B g n cap : Nat} {xs : List (Int × Int)} (h : Row w g 25 2 n cap (cs2 xs)) (hB : B ≤ g) (hn : n ≤ 1000000000) : LstF w B (.slice (some ⟨g, 0, none⟩) n cap) xs :=
  ⟨_, n, cap, rfl, by have := h.len; rw [cs2_len] at this; omega, hn, .inr ⟨g, rfl, hB, h⟩⟩
theorem LstF.keep {w w' : World} {B : Nat} {v : Value} {xs : List (Int × Int)} (h : LstF w B v xs) (hb : Below w.heap.size w w') : LstF w' B v xs := by
  obtain ⟨A, n, cap, e, hn, hn2, h | ⟨g, hA, hg, hr⟩⟩ := h
  · exact ⟨A, n, cap, e, hn, hn2, .inl h⟩
  · exact ⟨A, n, cap, e, hn, hn2, .inr ⟨g, hA, hg, hr.below hb hr.lt⟩⟩
theorem LstF.drewN {w : World} {B : Nat} {v : Value} {xs : List (Int × Int)} (h : LstF w B v xs) (m : Nat) : LstF (w.drewN m) B v xs := h
theorem LstF.base {w : World} {B B' : Nat} {v : Value} {xs : List (Int × Int)} (h : LstF w B v xs) (hB : B' ≤ B) : LstF w B' v xs := by
  obtain ⟨A, n, cap, e, hn, hn2, h | ⟨g, hA, hg, hr⟩⟩ := h
  · exact ⟨A, n, cap, e, hn, hn2, .inl h⟩
  · exact ⟨A, n, cap, e, hn, hn2, .inr ⟨g, hA, Nat.le_trans hB hg, hr⟩⟩
theorem LstF.rd {w : World} {B : Nat} {A : Option Addr} {n cap : Nat} {xs : List (Int × Int)} (hn : n = xs.length) (h : (A = none ∧ n = 0) ∨ ∃ g, A = some ⟨g, 0, none⟩ ∧ B ≤ g ∧ Row w g 25 2 n cap (cs2 xs)) : Rd w w.heap.size 2 A n (cs2 xs) := by
  rcases h with ⟨_, h0⟩ | ⟨g, rfl, _, hr⟩
  · exact ⟨by rw [cs2_len]; omega, fun h => by omega⟩
  · exact hr.rd

end Go.Proofs.Ytpagfikhcmeciaa
