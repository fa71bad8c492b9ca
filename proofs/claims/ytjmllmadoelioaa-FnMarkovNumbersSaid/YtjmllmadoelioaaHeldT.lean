/- Lists of triples as the laws compare, mark and read them again. -/
import Derived.Test.YtjmllmadoelioaaMkUp
import Derived.Test.YtjmllmadoelioaaGs
import Derived.Test.YtjmllmadoelioaaOwn
import Derived.StillTailTactics
namespace Go.Proofs.Ytjmllmadoelioaa
open Go.RowKit

theorem eqTriple_any (x y z : Int) (w : World) :
    Calls Try.prog 13 #[.agg #[.int .i64 x, .int .i64 y, .int .i64 z], .agg #[.int .i64 x, .int .i64 y, .int .i64 z]] w fun e w' => e = .returned (.bool true) ∧ Below w.heap.size w w' := by
  go_enter Try.func13, Try.ntmps13
  go_wp2
  go_ret
  exact ⟨rfl, by go_grown⟩

theorem cs3_split {fs : List T3} {i : Nat} (hi : i < fs.length) : cs3 fs = cs3 (fs.take i) ++ (c3 fs[i] ++ cs3 (fs.drop (i + 1))) := by
  conv => lhs; rw [← List.take_append_drop i fs, List.drop_eq_getElem_cons hi]
  rw [cs3_append]; rfl
theorem Rd.cell3 {w : World} {B n : Nat} {A : Option Addr} {fs : List T3} (h : Rd w B 3 A n (cs3 fs)) (hl : fs.length = n) {i : Nat} (hi : i < n) :
    ∃ b o, A = some ⟨b, o, none⟩ ∧ b < B ∧ w.cell? ⟨b, o + i * 3, none⟩ = some (.int .i64 (fs[i]'(by omega)).x) ∧ w.cell? ⟨b, o + i * 3 + 1, none⟩ = some (.int .i64 (fs[i]'(by omega)).y) ∧ w.cell? ⟨b, o + i * 3 + 2, none⟩ = some (.int .i64 (fs[i]'(by omega)).z) := by
  obtain ⟨b, o, e, hb, hc⟩ := h.2 (by omega)
  obtain ⟨a1, a2, a3⟩ := cs3_at (ts := fs) (i := i) (by omega)
  exact ⟨b, o, e, hb, hc _ _ a1, hc _ _ a2, hc _ _ a3⟩

set_option maxRecDepth 100000 in
theorem eqTripleS_any (A1 A2 : Option Addr) (n c1 c2 : Nat) (fs : List T3) (w : World) (hn : n ≤ 1000000000) (hl : fs.length = n) (h1 : Rd w w.heap.size 3 A1 n (cs3 fs)) (h2 : Rd w w.heap.size 3 A2 n (cs3 fs)) :
    Calls Try.prog 23 #[.slice A1 n c1, .slice A2 n c2] w fun e w' => e = .returned (.bool true) ∧ Below w.heap.size w w' := by
  go_enter Try.func23, Try.ntmps23
  go_wp2
  go_loopw [5] (fun i wr => ∃ k : Nat, i = .int .i64 k ∧ k ≤ n ∧ Below w.heap.size w wr) (fun i _ => n - (intOf i).toNat)
  case atStart => exact ⟨0, rfl, by omega, Below.refl _ _⟩
  case round =>
    obtain ⟨k, rfl, hk, hbel⟩ := hrel
    by_cases hlt : k < n
    · obtain ⟨b1, o1, rfl, _, e1, e2, e5⟩ := (h1.below hbel).cell3 hl hlt
      obtain ⟨b2, o2, rfl, _, e3, e4, e6⟩ := (h2.below hbel).cell3 hl hlt
      generalize (fs[k]'(by omega)).x = x at *
      generalize (fs[k]'(by omega)).y = y at *
      generalize (fs[k]'(by omega)).z = z at *
      have hkz : (k : Int) < (n : Int) := by omega
      clear h1 h2 hl
      go_wp2_with fail
      go_still_tail 8, (by kernel_rfl)
      change wpList _ _ _ _ _ wr.drew
      go_wp2_with fail
      refine (eqTriple_any x y z _).mono ?_
      rintro e w1 ⟨rfl, hb1⟩
      have hb2 : Below wr.heap.size wr w1 := (Below.refl _ _).drew.trans hb1
      go_wp2_with fail
      go_roundw
      case rel => exact ⟨k + 1, by go_num, by omega, bstep hbel hb2 hbel.size⟩
      case measure => simp [intOf]; omega
    · go_wp2
      go_ret
      exact ⟨rfl, hbel⟩

/-- The marks k, k + 1, .. of n triples, three a triple. -/
def mkt (k : Int) (n : Nat) : List T3 := (List.range n).map fun i : Nat => ⟨k + 3 * (i : Int), k + 3 * (i : Int) + 1, k + 3 * (i : Int) + 2⟩
theorem mkt_len (k : Int) (n : Nat) : (mkt k n).length = n := by simp [mkt]
theorem mkt_succ (k : Int) (n : Nat) : mkt k (n + 1) = mkt k n ++ [⟨k + 3 * (n : Int), k + 3 * (n : Int) + 1, k + 3 * (n : Int) + 2⟩] := by simp [mkt, List.range_succ]
theorem mkt_at {k : Int} {n i : Nat} (h : i < n) : (mkt k n)[i]'(by rw [mkt_len]; exact h) = ⟨k + 3 * (i : Int), k + 3 * (i : Int) + 1, k + 3 * (i : Int) + 2⟩ := by simp [mkt]
theorem mkt_step {k : Int} {fs : List T3} {j : Nat} (h : j < fs.length) :
    (((cs3 (mkt k j ++ fs.drop j)).set (j * 3) (.int .i64 (k + 3 * (j : Int)))).set (j * 3 + 1) (.int .i64 (k + 3 * (j : Int) + 1))).set (j * 3 + 2) (.int .i64 (k + 3 * (j : Int) + 2)) = cs3 (mkt k (j + 1) ++ fs.drop (j + 1)) := by
  have hl : (cs3 (mkt k j)).length = j * 3 := by rw [cs3_len, mkt_len]
  rw [cs3_append, List.set_append_right _ _ (by omega), List.set_append_right _ _ (by omega), List.set_append_right _ _ (by omega), hl, Nat.sub_self, List.drop_eq_getElem_cons h, mkt_succ, cs3_append, cs3_append, List.append_assoc]
  have : j * 3 + 1 - j * 3 = 1 := by omega
  rw [this]
  have : j * 3 + 2 - j * 3 = 2 := by omega
  rw [this]
  rfl
theorem mkt_get {k : Int} {fs : List T3} {j : Nat} (h : j < fs.length) : ∃ x y z : Int, (cs3 (mkt k j ++ fs.drop j))[j * 3]? = some (.int .i64 x) ∧ (cs3 (mkt k j ++ fs.drop j))[j * 3 + 1]? = some (.int .i64 y) ∧ (cs3 (mkt k j ++ fs.drop j))[j * 3 + 2]? = some (.int .i64 z) := by
  have hj : j < (mkt k j ++ fs.drop j).length := by simp [mkt_len]; omega
  exact ⟨_, _, _, cs3_at hj⟩

set_option maxHeartbeats 1000000 in
theorem markTripleS_any (g n cap : Nat) (fs : List T3) (k : Int) (w : World) (hk : 0 ≤ k ∧ k ≤ 1000000000) (hn : n ≤ 1000000000) (h : Row w g 24 3 n cap (cs3 fs)) :
    Calls Try.prog 24 #[.slice (some ⟨g, 0, none⟩) n cap, .int .i64 k] w fun e w' => e = .returned (.int .i64 (k + 3 * n)) ∧ Row w' g 24 3 n cap (cs3 (mkt k n)) ∧ w.grownBy w' (some g) := by
  have hl : fs.length = n := by have := h.len; rw [cs3_len] at this; omega
  go_enter Try.func24, Try.ntmps24
  go_wp2
  go_loopw [1, 5] (fun a i wr => ∃ j : Nat, i = .int .i64 j ∧ a = .int .i64 (k + 3 * j) ∧ j ≤ n ∧ Row wr g 24 3 n cap (cs3 (mkt k j ++ fs.drop j)) ∧ w.grownBy wr (some g)) (fun _ i _ => n - (intOf i).toNat)
  case atStart => exact ⟨0, rfl, by simp, by omega, by simpa [mkt] using h, gbelow (Below.refl _ _) _⟩
  case round =>
    obtain ⟨j, rfl, rfl, hj, hrow, hgr⟩ := hrel
    by_cases hlt : j < n
    · obtain ⟨x, y, z, q1, q2, q3⟩ := mkt_get (k := k) (fs := fs) (j := j) (by omega)
      have hc := hrow.cell q1
      have hf := hrow.frozen (j * 3)
      have hf2 := hrow.frozen (j * 3 + 1)
      have hf4 := hrow.frozen (j * 3 + 2)
      have hst := ((hrow.store (j * 3) (.int .i64 (k + 3 * (j : Int)))).store (j * 3 + 1) (.int .i64 (k + 3 * (j : Int) + 1))).store (j * 3 + 2) (.int .i64 (k + 3 * (j : Int) + 2))
      rw [mkt_step (by omega)] at hst
      have hr1 := hrow.store (j * 3) (.int .i64 (k + 3 * (j : Int)))
      have hc3 := hr1.cell (j := j * 3 + 1) (u := .int .i64 y) (by rw [List.getElem?_set_ne (by omega)]; exact q2)
      have hf3 := hr1.frozen (j * 3 + 1)
      have hr2 := hr1.store (j * 3 + 1) (.int .i64 (k + 3 * (j : Int) + 1))
      have hc5 := hr2.cell (j := j * 3 + 2) (u := .int .i64 z) (by rw [List.getElem?_set_ne (by omega), List.getElem?_set_ne (by omega)]; exact q3)
      have hf5 := hr2.frozen (j * 3 + 2)
      have HS := hide hst
      have e2 : k + 3 * (j : Int) + 1 + 1 = k + 3 * (j : Int) + 2 := by omega
      clear hst hrow hl h hr1 hr2 q1 q2 q3
      go_wp2
      go_roundw
      case rel => exact ⟨j + 1, by go_num, by simp; omega, by omega, HS.out, gset (gset (gset hgr _ _) _ _) _ _⟩
      case measure => simp [intOf]; omega
    · have hjn : j = n := by omega
      subst hjn
      rw [← hl, List.drop_length, List.append_nil, hl] at hrow
      have HR := hide hrow
      clear hrow h hl
      go_wp2
      go_ret
      exact ⟨rfl, HR.out, hgr⟩

theorem heldTripleS_any (A : Option Addr) (n c B : Nat) (k : Int) (w : World) (hk : 0 ≤ k ∧ k ≤ 1000000000) (hn : n ≤ 1000000000) (h : Rd w B 3 A n (cs3 (mkt k n))) :
    Calls Try.prog 25 #[.slice A n c, .int .i64 k] w fun e w' => e = .returned (.int .i64 (k + 3 * n)) ∧ w = w' := by
  go_enter Try.func25, Try.ntmps25
  go_wp2
  go_loopw [1, 5] (fun a i wr => ∃ j : Nat, i = .int .i64 j ∧ a = .int .i64 (k + 3 * j) ∧ j ≤ n ∧ wr = w) (fun _ i _ => n - (intOf i).toNat)
  case atStart => exact ⟨0, rfl, by simp, by omega, rfl⟩
  case round =>
    obtain ⟨j, rfl, rfl, hj, rfl⟩ := hrel
    by_cases hlt : j < n
    · obtain ⟨b, o, rfl, _, e1, e2, e3⟩ := h.cell3 (mkt_len k n) hlt
      rw [mkt_at hlt] at e1 e2 e3
      simp only at e1 e2 e3
      have e4 : k + 3 * (j : Int) + 1 + 1 = k + 3 * (j : Int) + 2 := by omega
      clear h
      go_wp2
      go_roundw
      case rel => exact ⟨j + 1, by go_num, by simp; omega, by omega, trivial⟩
      case measure => simp [intOf]; omega
    · have hjn : j = n := by omega
      subst hjn
      clear h
      go_wp2
      go_ret
      exact ⟨rfl, rfl⟩

/-- A list of triples that a call made behind block B, or nil. -/
def LstT (w : World) (B : Nat) (v : Value) (xs : List T3) : Prop :=
  ∃ A n cap, v = .slice A n cap ∧ n = xs.length ∧ n ≤ 1000000000 ∧ ((A = none ∧ n = 0) ∨ ∃ g, A = some ⟨g, 0, none⟩ ∧ B ≤ g ∧ Row w g 24 3 n cap (cs3 xs))

theorem LstT.nil_ (w : World) (B : Nat) : LstT w B (.slice none 0 0) [] := ⟨none, 0, 0, rfl, rfl, by omega, .inl ⟨rfl, rfl⟩⟩
theorem LstT.of_row {w : World} {B g n cap : Nat} {xs : List T3} (h : Row w g 24 3 n cap (cs3 xs)) (hB : B ≤ g) (hn : n ≤ 1000000000) : LstT w B (.slice (some ⟨g, 0, none⟩) n cap) xs :=
  ⟨_, n, cap, rfl, by have := h.len; rw [cs3_len] at this; omega, hn, .inr ⟨g, rfl, hB, h⟩⟩
theorem LstT.keep {w w' : World} {B : Nat} {v : Value} {xs : List T3} (h : LstT w B v xs) (hb : Below w.heap.size w w') : LstT w' B v xs := by
  obtain ⟨A, n, cap, e, hn, hn2, h | ⟨g, hA, hg, hr⟩⟩ := h
  · exact ⟨A, n, cap, e, hn, hn2, .inl h⟩
  · exact ⟨A, n, cap, e, hn, hn2, .inr ⟨g, hA, hg, hr.below hb hr.lt⟩⟩
theorem LstT.base {w : World} {B B' : Nat} {v : Value} {xs : List T3} (h : LstT w B v xs) (hB : B' ≤ B) : LstT w B' v xs := by
  obtain ⟨A, n, cap, e, hn, hn2, h | ⟨g, hA, hg, hr⟩⟩ := h
  · exact ⟨A, n, cap, e, hn, hn2, .inl h⟩
  · exact ⟨A, n, cap, e, hn, hn2, .inr ⟨g, hA, Nat.le_trans hB hg, hr⟩⟩
theorem LstT.rd {w : World} {B : Nat} {A : Option Addr} {n cap : Nat} {xs : List T3} (hn : n = xs.length) (h : (A = none ∧ n = 0) ∨ ∃ g, A = some ⟨g, 0, none⟩ ∧ B ≤ g ∧ Row w g 24 3 n cap (cs3 xs)) : Rd w w.heap.size 3 A n (cs3 xs) := by
  rcases h with ⟨_, h0⟩ | ⟨g, rfl, _, hr⟩
  · exact ⟨by rw [cs3_len]; omega, fun h => by omega⟩
  · exact hr.rd

theorem eqLstT_any (v1 v2 : Value) (B1 B2 : Nat) (xs : List T3) (w : World) (h1 : LstT w B1 v1 xs) (h2 : LstT w B2 v2 xs) :
    Calls Try.prog 23 #[v1, v2] w fun e w' => e = .returned (.bool true) ∧ Below w.heap.size w w' := by
  obtain ⟨A1, n, c1, rfl, hn, hb, h1⟩ := h1
  obtain ⟨A2, n2, c2, rfl, hn2, _, h2⟩ := h2
  obtain rfl : n2 = n := by omega
  exact eqTripleS_any A1 A2 n2 c1 c2 xs w hb hn.symm (LstT.rd hn h1) (LstT.rd hn2 h2)

theorem markLstT_any (v : Value) (B : Nat) (xs : List T3) (w : World) (h : LstT w B v xs) :
    Calls Try.prog 24 #[v, .int .i64 1] w fun e w' => e = .returned (.int .i64 (1 + 3 * xs.length)) ∧ LstT w' B v (mkt 1 xs.length) ∧ Below B w w' := by
  obtain ⟨A, n, cap, rfl, hn, hb, ⟨rfl, h0⟩ | ⟨g, rfl, hg, hr⟩⟩ := h
  · subst h0
    rw [← hn]
    clear hn hb
    go_enter Try.func24, Try.ntmps24
    go_wp2
    go_loopw [1, 5] (fun a i wr => a = .int .i64 1 ∧ i = .int .i64 0 ∧ wr = w) (fun _ _ _ => 0)
    case atStart => exact ⟨rfl, rfl, rfl⟩
    case round =>
      obtain ⟨rfl, rfl, rfl⟩ := hrel
      go_wp2
      go_ret
      exact ⟨rfl, ⟨none, 0, cap, rfl, rfl, by omega, .inl ⟨rfl, rfl⟩⟩, Below.refl _ _⟩
  · rw [← hn]
    refine (markTripleS_any g n cap xs 1 w (by omega) hb hr).mono ?_
    rintro e w' ⟨rfl, hr2, hgr⟩
    exact ⟨rfl, ⟨_, n, cap, rfl, by rw [mkt_len], hb, .inr ⟨g, rfl, hg, hr2⟩⟩, (Below.refl B w).grown hgr (by have := hr.lt; omega) (fun k h => by simp at h; omega)⟩

theorem heldLstT_any (v : Value) (B n : Nat) (w : World) (h : LstT w B v (mkt 1 n)) :
    Calls Try.prog 25 #[v, .int .i64 1] w fun e w' => e = .returned (.int .i64 (1 + 3 * n)) ∧ w = w' := by
  obtain ⟨A, n2, cap, rfl, hn, hb, h⟩ := h
  have hr := LstT.rd hn h
  rw [mkt_len] at hn
  subst hn
  exact heldTripleS_any A n2 cap _ 1 w (by omega) hb hr

theorem LstT.of_own {w : World} {base n : Nat} {v : Value} {xs : List T3} (h : w.ownsRow base 24 3 v n (cs3 xs)) (hn : n ≤ 1000000000) : LstT w base v xs := by
  by_cases h0 : n = 0
  · subst h0
    have hx : xs = [] := by
      have := h.1
      rw [cs3_len] at this
      exact List.length_eq_zero_iff.1 (by omega)
    subst hx
    obtain ⟨_, ⟨rfl, _⟩ | ⟨g, cap, cur, rfl, hb, h1, h2, h3, h4, h5⟩⟩ := h
    · exact LstT.nil_ _ _
    · exact LstT.of_row (B := base) (g := g) (n := 0) (cap := cap) (xs := []) ⟨cur, h1, h2, h3, h4, h5, rfl⟩ hb hn
  · obtain ⟨g, cap, rfl, hb, hr⟩ := own_pos h (by omega)
    exact LstT.of_row hr hb hn

end Go.Proofs.Ytjmllmadoelioaa
