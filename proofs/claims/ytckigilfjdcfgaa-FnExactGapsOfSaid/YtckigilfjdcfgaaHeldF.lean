/- Lists of fractions as the laws compare, mark and read them again. -/
import Derived.Test.YtckigilfjdcfgaaRow
import Derived.Test.YtckigilfjdcfgaaGs
import Derived.Test.YtckigilfjdcfgaaEqF
import Derived.Test.YtckigilfjdcfgaaInts
import Derived.StillTailTactics
namespace Go.Proofs.Ytckigilfjdcfgaa
open Go.RowKit

def c2 (f : Int × Int) : List Value := [.int .i64 f.1, .int .i64 f.2]
def cs2 (fs : List (Int × Int)) : List Value := fs.flatMap c2
theorem cs2_len (fs : List (Int × Int)) : (cs2 fs).length = fs.length * 2 := by
  induction fs with
  | nil => rfl
  | cons t ts ih => simp only [cs2, List.flatMap_cons, List.length_append, List.length_cons] at ih ⊢; rw [ih]; simp [c2]; omega
theorem cs2_append (a b : List (Int × Int)) : cs2 (a ++ b) = cs2 a ++ cs2 b := by simp [cs2]
theorem cs2_split {fs : List (Int × Int)} {i : Nat} (hi : i < fs.length) : cs2 fs = cs2 (fs.take i) ++ (c2 fs[i] ++ cs2 (fs.drop (i + 1))) := by
  conv => lhs; rw [← List.take_append_drop i fs, List.drop_eq_getElem_cons hi]
  rw [cs2_append]; rfl
theorem cs2_at {fs : List (Int × Int)} {i : Nat} (hi : i < fs.length) : (cs2 fs)[i * 2]? = some (.int .i64 fs[i].1) ∧ (cs2 fs)[i * 2 + 1]? = some (.int .i64 fs[i].2) := by
  have hl : (cs2 (fs.take i)).length = i * 2 := by rw [cs2_len, List.length_take]; omega
  rw [cs2_split hi]
  constructor
  · rw [List.getElem?_append_right (by omega), hl, Nat.sub_self]; rfl
  · rw [List.getElem?_append_right (by omega), hl]
    have : i * 2 + 1 - i * 2 = 1 := by omega
    rw [this]; rfl
theorem one2 (fs : List (Int × Int)) : ∀ u ∈ cs2 fs, u.oneCell' = true := by
  intro u hu
  simp only [cs2, List.mem_flatMap, c2] at hu
  obtain ⟨f, _, hu⟩ := hu
  simp at hu
  rcases hu with rfl | rfl <;> rfl
theorem Rd.cell2 {w : World} {B n : Nat} {A : Option Addr} {fs : List (Int × Int)} (h : Rd w B 2 A n (cs2 fs)) (hl : fs.length = n) {i : Nat} (hi : i < n) :
    ∃ b o, A = some ⟨b, o, none⟩ ∧ b < B ∧ w.cell? ⟨b, o + i * 2, none⟩ = some (.int .i64 (fs[i]'(by omega)).1) ∧ w.cell? ⟨b, o + i * 2 + 1, none⟩ = some (.int .i64 (fs[i]'(by omega)).2) := by
  obtain ⟨b, o, e, hb, hc⟩ := h.2 (by omega)
  obtain ⟨a1, a2⟩ := cs2_at (fs := fs) (i := i) (by omega)
  exact ⟨b, o, e, hb, hc _ _ a1, hc _ _ a2⟩

set_option maxRecDepth 100000 in
theorem eqFractionS_any (A1 A2 : Option Addr) (n c1 c2 : Nat) (fs : List (Int × Int)) (w : World) (hn : n ≤ 1000000000) (hl : fs.length = n) (h1 : Rd w w.heap.size 2 A1 n (cs2 fs)) (h2 : Rd w w.heap.size 2 A2 n (cs2 fs)) :
    Calls Try.prog 27 #[.slice A1 n c1, .slice A2 n c2] w fun e w' => e = .returned (.bool true) ∧ Below w.heap.size w w' := by
  go_enter Try.func27, Try.ntmps27
  go_wp2
  go_loopw [5] (fun i wr => ∃ k : Nat, i = .int .i64 k ∧ k ≤ n ∧ Below w.heap.size w wr) (fun i _ => n - (intOf i).toNat)
  case atStart => exact ⟨0, rfl, by omega, Below.refl _ _⟩
  case round =>
    obtain ⟨k, rfl, hk, hbel⟩ := hrel
    by_cases hlt : k < n
    · obtain ⟨b1, o1, rfl, _, e1, e2⟩ := (h1.below hbel).cell2 hl hlt
      obtain ⟨b2, o2, rfl, _, e3, e4⟩ := (h2.below hbel).cell2 hl hlt
      generalize (fs[k]'(by omega)).1 = x at *
      generalize (fs[k]'(by omega)).2 = y at *
      have hkz : (k : Int) < (n : Int) := by omega
      clear h1 h2 hl
      go_wp2_with fail
      go_still_tail 8, (by kernel_rfl)
      change wpList _ _ _ _ _ wr.drew
      go_wp2_with fail
      refine (eqFraction_any x y _).mono ?_
      rintro e w1 ⟨rfl, hb1⟩
      have hb2 : Below wr.heap.size wr w1 := (Below.refl _ _).drew.trans hb1
      go_wp2_with fail
      go_roundw
      case rel => exact ⟨k + 1, by go_num, by omega, bstep hbel hb2 hbel.size⟩
      case measure => simp [intOf]; omega
    · go_wp2
      go_ret
      exact ⟨rfl, hbel⟩

/-- The marks k, k + 1, .. of n fractions, two a fraction. -/
def mks (k : Int) (n : Nat) : List (Int × Int) := (List.range n).map fun i : Nat => (k + 2 * (i : Int), k + 2 * (i : Int) + 1)
theorem mks_len (k : Int) (n : Nat) : (mks k n).length = n := by simp [mks]
theorem mks_succ (k : Int) (n : Nat) : mks k (n + 1) = mks k n ++ [(k + 2 * (n : Int), k + 2 * (n : Int) + 1)] := by simp [mks, List.range_succ]
theorem mks_at {k : Int} {n i : Nat} (h : i < n) : (mks k n)[i]'(by rw [mks_len]; exact h) = (k + 2 * (i : Int), k + 2 * (i : Int) + 1) := by simp [mks]
theorem mks_step {k : Int} {fs : List (Int × Int)} {j : Nat} (h : j < fs.length) :
    ((cs2 (mks k j ++ fs.drop j)).set (j * 2) (.int .i64 (k + 2 * (j : Int)))).set (j * 2 + 1) (.int .i64 (k + 2 * (j : Int) + 1)) = cs2 (mks k (j + 1) ++ fs.drop (j + 1)) := by
  have hl : (cs2 (mks k j)).length = j * 2 := by rw [cs2_len, mks_len]
  rw [cs2_append, List.set_append_right _ _ (by omega), List.set_append_right _ _ (by omega), hl, Nat.sub_self, List.drop_eq_getElem_cons h, mks_succ, cs2_append, cs2_append, List.append_assoc]
  have : j * 2 + 1 - j * 2 = 1 := by omega
  rw [this]
  rfl
theorem mks_get {k : Int} {fs : List (Int × Int)} {j : Nat} (h : j < fs.length) : ∃ x y : Int, (cs2 (mks k j ++ fs.drop j))[j * 2]? = some (.int .i64 x) ∧ (cs2 (mks k j ++ fs.drop j))[j * 2 + 1]? = some (.int .i64 y) := by
  have hj : j < (mks k j ++ fs.drop j).length := by simp [mks_len]; omega
  exact ⟨_, _, cs2_at hj⟩

theorem markFractionS_any (g n cap : Nat) (fs : List (Int × Int)) (k : Int) (w : World) (hk : 0 ≤ k ∧ k ≤ 1000000000) (hn : n ≤ 1000000000) (h : Row w g 26 2 n cap (cs2 fs)) :
    Calls Try.prog 28 #[.slice (some ⟨g, 0, none⟩) n cap, .int .i64 k] w fun e w' => e = .returned (.int .i64 (k + 2 * n)) ∧ Row w' g 26 2 n cap (cs2 (mks k n)) ∧ w.grownBy w' (some g) := by
  have hl : fs.length = n := by have := h.len; rw [cs2_len] at this; omega
  go_enter Try.func28, Try.ntmps28
  go_wp2
  go_loopw [1, 5] (fun a i wr => ∃ j : Nat, i = .int .i64 j ∧ a = .int .i64 (k + 2 * j) ∧ j ≤ n ∧ Row wr g 26 2 n cap (cs2 (mks k j ++ fs.drop j)) ∧ w.grownBy wr (some g)) (fun _ i _ => n - (intOf i).toNat)
  case atStart => exact ⟨0, rfl, by simp, by omega, by simpa [mks] using h, gbelow (Below.refl _ _) _⟩
  case round =>
    obtain ⟨j, rfl, rfl, hj, hrow, hgr⟩ := hrel
    by_cases hlt : j < n
    · obtain ⟨x, y, q1, q2⟩ := mks_get (k := k) (fs := fs) (j := j) (by omega)
      have hc := hrow.cell q1
      have hc2 := hrow.cell q2
      have hf := hrow.frozen (j * 2)
      have hf2 := hrow.frozen (j * 2 + 1)
      have hst := (hrow.store (j * 2) (.int .i64 (k + 2 * (j : Int)))).store (j * 2 + 1) (.int .i64 (k + 2 * (j : Int) + 1))
      rw [mks_step (by omega)] at hst
      have hr1 := hrow.store (j * 2) (.int .i64 (k + 2 * (j : Int)))
      have hc3 := hr1.cell (j := j * 2 + 1) (u := .int .i64 y) (by rw [List.getElem?_set_ne (by omega)]; exact q2)
      have hf3 := hr1.frozen (j * 2 + 1)
      have HS := hide hst
      clear hst hrow hl h hr1 q1 q2
      go_wp2
      go_roundw
      case rel => exact ⟨j + 1, by go_num, by simp; omega, by omega, HS.out, gset (gset hgr _ _) _ _⟩
      case measure => simp [intOf]; omega
    · have hjn : j = n := by omega
      subst hjn
      rw [← hl, List.drop_length, List.append_nil, hl] at hrow
      have HR := hide hrow
      clear hrow h hl
      go_wp2
      go_ret
      exact ⟨rfl, HR.out, hgr⟩

theorem heldFractionS_any (A : Option Addr) (n c B : Nat) (k : Int) (w : World) (hk : 0 ≤ k ∧ k ≤ 1000000000) (hn : n ≤ 1000000000) (h : Rd w B 2 A n (cs2 (mks k n))) :
    Calls Try.prog 29 #[.slice A n c, .int .i64 k] w fun e w' => e = .returned (.int .i64 (k + 2 * n)) ∧ w = w' := by
  go_enter Try.func29, Try.ntmps29
  go_wp2
  go_loopw [1, 5] (fun a i wr => ∃ j : Nat, i = .int .i64 j ∧ a = .int .i64 (k + 2 * j) ∧ j ≤ n ∧ wr = w) (fun _ i _ => n - (intOf i).toNat)
  case atStart => exact ⟨0, rfl, by simp, by omega, rfl⟩
  case round =>
    obtain ⟨j, rfl, rfl, hj, rfl⟩ := hrel
    by_cases hlt : j < n
    · obtain ⟨b, o, rfl, _, e1, e2⟩ := h.cell2 (mks_len k n) hlt
      rw [mks_at hlt] at e1 e2
      simp only at e1 e2
      clear h
      go_wp2
      go_roundw
      case rel => exact ⟨j + 1, by go_num, by simp; omega, by omega, trivial⟩
      case measure => simp [intOf]; omega
    · have hjn : j = n := by omega
      subst hjn
      clear h
      go_wp2
      go_ret
      exact ⟨rfl, rfl⟩

/-- A list of fractions that a call made behind block B, or nil. -/
def LstF (w : World) (B : Nat) (v : Value) (xs : List (Int × Int)) : Prop :=
  ∃ A n cap, v = .slice A n cap ∧ n = xs.length ∧ n ≤ 1000000000 ∧ ((A = none ∧ n = 0) ∨ ∃ g, A = some ⟨g, 0, none⟩ ∧ B ≤ g ∧ Row w g 26 2 n cap (cs2 xs))

theorem LstF.nil_ (w : World) (B : Nat) : LstF w B (.slice none 0 0) [] := ⟨none, 0, 0, rfl, rfl, by omega, .inl ⟨rfl, rfl⟩⟩
theorem LstF.of_row {w : World} {B g n cap : Nat} {xs : List (Int × Int)} (h : Row w g 26 2 n cap (cs2 xs)) (hB : B ≤ g) (hn : n ≤ 1000000000) : LstF w B (.slice (some ⟨g, 0, none⟩) n cap) xs :=
  ⟨_, n, cap, rfl, by have := h.len; rw [cs2_len] at this; omega, hn, .inr ⟨g, rfl, hB, h⟩⟩
theorem LstF.keep {w w' : World} {B : Nat} {v : Value} {xs : List (Int × Int)} (h : LstF w B v xs) (hb : Below w.heap.size w w') : LstF w' B v xs := by
  obtain ⟨A, n, cap, e, hn, hn2, h | ⟨g, hA, hg, hr⟩⟩ := h
  · exact ⟨A, n, cap, e, hn, hn2, .inl h⟩
  · exact ⟨A, n, cap, e, hn, hn2, .inr ⟨g, hA, hg, hr.below hb hr.lt⟩⟩
theorem LstF.drewN {w : World} {B : Nat} {v : Value} {xs : List (Int × Int)} (h : LstF w B v xs) (m : Nat) : LstF (w.drewN m) B v xs := h
theorem LstF.base {w : World} {B B' : Nat} {v : Value} {xs : List (Int × Int)} (h : LstF w B v xs) (hB : B' ≤ B) : LstF w B' v xs := by
  obtain ⟨A, n, cap, e, hn, hn2, h | ⟨g, hA, hg, hr⟩⟩ := h
  · exact ⟨A, n, cap, e, hn, hn2, .inl h⟩
  · exact ⟨A, n, cap, e, hn, hn2, .inr ⟨g, hA, Nat.le_trans hB hg, hr⟩⟩
theorem LstF.rd {w : World} {B : Nat} {A : Option Addr} {n cap : Nat} {xs : List (Int × Int)} (hn : n = xs.length) (h : (A = none ∧ n = 0) ∨ ∃ g, A = some ⟨g, 0, none⟩ ∧ B ≤ g ∧ Row w g 26 2 n cap (cs2 xs)) : Rd w w.heap.size 2 A n (cs2 xs) := by
  rcases h with ⟨_, h0⟩ | ⟨g, rfl, _, hr⟩
  · exact ⟨by rw [cs2_len]; omega, fun h => by omega⟩
  · exact hr.rd

theorem eqLstF_any (v1 v2 : Value) (B1 B2 : Nat) (xs : List (Int × Int)) (w : World) (h1 : LstF w B1 v1 xs) (h2 : LstF w B2 v2 xs) :
    Calls Try.prog 27 #[v1, v2] w fun e w' => e = .returned (.bool true) ∧ Below w.heap.size w w' := by
  obtain ⟨A1, n, c1, rfl, hn, hb, h1⟩ := h1
  obtain ⟨A2, n2, c2, rfl, hn2, _, h2⟩ := h2
  obtain rfl : n2 = n := by omega
  exact eqFractionS_any A1 A2 n2 c1 c2 xs w hb hn.symm (LstF.rd hn h1) (LstF.rd hn2 h2)

theorem markLstF_any (v : Value) (B : Nat) (xs : List (Int × Int)) (w : World) (h : LstF w B v xs) :
    Calls Try.prog 28 #[v, .int .i64 1] w fun e w' => e = .returned (.int .i64 (1 + 2 * xs.length)) ∧ LstF w' B v (mks 1 xs.length) ∧ Below B w w' := by
  obtain ⟨A, n, cap, rfl, hn, hb, ⟨rfl, h0⟩ | ⟨g, rfl, hg, hr⟩⟩ := h
  · subst h0
    rw [← hn]
    clear hn hb
    go_enter Try.func28, Try.ntmps28
    go_wp2
    go_loopw [1, 5] (fun a i wr => a = .int .i64 1 ∧ i = .int .i64 0 ∧ wr = w) (fun _ _ _ => 0)
    case atStart => exact ⟨rfl, rfl, rfl⟩
    case round =>
      obtain ⟨rfl, rfl, rfl⟩ := hrel
      go_wp2
      go_ret
      exact ⟨rfl, ⟨none, 0, cap, rfl, rfl, by omega, .inl ⟨rfl, rfl⟩⟩, Below.refl _ _⟩
  · rw [← hn]
    refine (markFractionS_any g n cap xs 1 w (by omega) hb hr).mono ?_
    rintro e w' ⟨rfl, hr2, hgr⟩
    exact ⟨rfl, ⟨_, n, cap, rfl, by rw [mks_len], hb, .inr ⟨g, rfl, hg, hr2⟩⟩, (Below.refl B w).grown hgr (by have := hr.lt; omega) (fun k h => by simp at h; omega)⟩

theorem heldLstF_any (v : Value) (B n : Nat) (w : World) (h : LstF w B v (mks 1 n)) :
    Calls Try.prog 29 #[v, .int .i64 1] w fun e w' => e = .returned (.int .i64 (1 + 2 * n)) ∧ w = w' := by
  obtain ⟨A, n2, cap, rfl, hn, hb, h⟩ := h
  have hr := LstF.rd hn h
  rw [mks_len] at hn
  subst hn
  exact heldFractionS_any A n2 cap _ 1 w (by omega) hb hr

end Go.Proofs.Ytckigilfjdcfgaa
