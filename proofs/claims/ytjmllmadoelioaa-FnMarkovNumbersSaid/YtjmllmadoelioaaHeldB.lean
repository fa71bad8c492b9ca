/- Lists of bools as the laws compare, mark and read them again; the library's Reverse at them. -/
import Derived.Test.YtjmllmadoelioaaSrt
import Derived.Test.YtjmllmadoelioaaGs
import Derived.Test.YtjmllmadoelioaaOwn
import Derived.Test.YtjmllmadoelioaaShelfR
import Derived.Shelf.SlicesE.Reverse
namespace Go.Proofs.Ytjmllmadoelioaa
open Go.RowKit Go.Sort Go.Shelf

def bll (bs : List Bool) : List Value := bs.map Value.bool
theorem bll_len (bs : List Bool) : (bll bs).length = bs.length := by simp [bll]
theorem bll_append (a b : List Bool) : bll (a ++ b) = bll a ++ bll b := by simp [bll]
theorem bll_at {bs : List Bool} {i : Nat} (hi : i < bs.length) : (bll bs)[i]? = some (.bool bs[i]) := by simp [bll, hi]
theorem one_bll (bs : List Bool) : ∀ u ∈ bll bs, u.oneCell' = true := by
  intro u hu
  simp only [bll, List.mem_map] at hu
  obtain ⟨z, _, rfl⟩ := hu
  rfl

theorem revB_any (g n cap : Nat) (bs : List Bool) (w : World) (hn : n ≤ 1000000000) (h : Row w g 4 1 n cap (bll bs)) :
    Calls Try.prog 43 #[.slice (some ⟨g, 0, none⟩) n cap] w fun e w' => e = .returned (.tuple #[]) ∧ Row w' g 4 1 n cap (bll bs.reverse) ∧ w.grownBy w' (some g) := by
  have hl : bs.length = n := by have := h.len; rw [bll_len] at this; omega
  subst hl
  have hr : Row w g 4 1 bs.length cap (bs.toArray.toList.map Value.bool) := h
  have hcon := AnyE.slices_Reverse Try.revB Value.bool (fun _ => rfl) g 0 cap bs w hr.holds (by omega)
  refine Calls.mono (show Calls Try.prog 43 _ w _ from hcon) ?_
  rintro e w' ⟨rfl, m, rfl⟩
  obtain ⟨a1, a2⟩ := sort_row (d' := bs.reverse.toArray) hr (by simp) m #[]
  have e2 : sortWorld Value.bool w g 0 m bs.reverse.toArray #[] = putRow Value.bool (Sort.ahead w m) g 0 bs.reverse.toArray := by unfold sortWorld; rw [grow_empty]
  rw [e2] at a1 a2
  exact ⟨rfl, a1, a2⟩
theorem revB_none (w : World) :
    Calls Try.prog 43 #[.slice none 0 0] w fun e w' => e = .returned (.tuple #[]) ∧ w = w' :=
  Calls.mono (show Calls Try.prog 43 #[.slice none 0 0] w _ from AnyE.slices_Reverse_empty Try.revB none 0 w) fun _ _ ⟨h1, h2⟩ => ⟨h1, h2.symm⟩

theorem Rd.cellB {w : World} {B n : Nat} {A : Option Addr} {bs : List Bool} (h : Rd w B 1 A n (bll bs)) (hl : bs.length = n) {i : Nat} (hi : i < n) :
    ∃ b o, A = some ⟨b, o, none⟩ ∧ b < B ∧ w.cell? ⟨b, o + i, none⟩ = some (.bool (bs[i]'(by omega))) := by
  obtain ⟨b, o, e, hb, hc⟩ := h.2 (by omega)
  exact ⟨b, o, e, hb, hc _ _ (bll_at (by omega))⟩

set_option maxRecDepth 100000 in
theorem eqBoolS_any (A1 A2 : Option Addr) (n c1 c2 : Nat) (bs : List Bool) (w : World) (hn : n ≤ 1000000000) (hl : bs.length = n) (h1 : Rd w w.heap.size 1 A1 n (bll bs)) (h2 : Rd w w.heap.size 1 A2 n (bll bs)) :
    Calls Try.prog 16 #[.slice A1 n c1, .slice A2 n c2] w fun e w' => e = .returned (.bool true) ∧ Below w.heap.size w w' := by
  go_enter Try.func16, Try.ntmps16
  go_wp2
  go_loopw [5] (fun i wr => ∃ k : Nat, i = .int .i64 k ∧ k ≤ n ∧ Below w.heap.size w wr) (fun i _ => n - (intOf i).toNat)
  case atStart => exact ⟨0, rfl, by omega, Below.refl _ _⟩
  case round =>
    obtain ⟨k, rfl, hk, hbel⟩ := hrel
    by_cases hlt : k < n
    · obtain ⟨b1, o1, rfl, _, e1⟩ := (h1.below hbel).cellB hl hlt
      obtain ⟨b2, o2, rfl, _, e2⟩ := (h2.below hbel).cellB hl hlt
      generalize (bs[k]'(by omega)) = x at *
      have hkz : (k : Int) < (n : Int) := by omega
      have q1 : (x != x) = false := by simp
      clear h1 h2 hl
      go_wp2_with fail
      go_quiet (fail)
      go_wp2_with fail
      go_roundw
      case rel => exact ⟨k + 1, by go_num, by omega, belowN hbel _⟩
      case measure => simp [intOf]; omega
    · go_wp2
      go_ret
      exact ⟨rfl, hbel⟩

/-- The marks of n bools. -/
def mkb (n : Nat) : List Bool := (List.range n).map fun i : Nat => ((1 + (i : Int)) % 3 == 0)
theorem mkb_len (n : Nat) : (mkb n).length = n := by simp [mkb]
theorem mkb_succ (n : Nat) : mkb (n + 1) = mkb n ++ [((1 + (n : Int)) % 3 == 0)] := by simp [mkb, List.range_succ]
theorem mkb_at {n i : Nat} (h : i < n) : (mkb n)[i]'(by rw [mkb_len]; exact h) = ((1 + (i : Int)) % 3 == 0) := by simp [mkb]
theorem mkb_step {bs : List Bool} {j : Nat} (h : j < bs.length) : (bll (mkb j ++ bs.drop j)).set j (.bool ((1 + (j : Int)) % 3 == 0)) = bll (mkb (j + 1) ++ bs.drop (j + 1)) := by
  rw [bll_append, List.set_append_right _ _ (by rw [bll_len, mkb_len]; exact Nat.le_refl _), bll_len, mkb_len, Nat.sub_self, List.drop_eq_getElem_cons h, mkb_succ, bll_append, bll_append, List.append_assoc]
  rfl

theorem markBoolS_any (g n cap : Nat) (bs : List Bool) (w : World) (hn : n ≤ 1000000000) (h : Row w g 4 1 n cap (bll bs)) :
    Calls Try.prog 17 #[.slice (some ⟨g, 0, none⟩) n cap, .int .i64 1] w fun e w' => e = .returned (.int .i64 (1 + n)) ∧ Row w' g 4 1 n cap (bll (mkb n)) ∧ w.grownBy w' (some g) := by
  have hl : bs.length = n := by have := h.len; rw [bll_len] at this; omega
  go_enter Try.func17, Try.ntmps17
  go_wp2
  go_loopw [1, 5] (fun a i wr => ∃ j : Nat, i = .int .i64 j ∧ a = .int .i64 (1 + j) ∧ j ≤ n ∧ Row wr g 4 1 n cap (bll (mkb j ++ bs.drop j)) ∧ w.grownBy wr (some g)) (fun _ i _ => n - (intOf i).toNat)
  case atStart => exact ⟨0, rfl, by simp, by omega, by simpa [mkb] using h, gbelow (Below.refl _ _) _⟩
  case round =>
    obtain ⟨j, rfl, rfl, hj, hrow, hgr⟩ := hrel
    by_cases hlt : j < n
    · obtain ⟨b0, hc⟩ : ∃ b0, wr.cell? ⟨g, j, none⟩ = some (.bool b0) := ⟨_, hrow.cell (bll_at (bs := mkb j ++ bs.drop j) (i := j) (by simp [mkb_len]; omega))⟩
      have hf := hrow.frozen j
      have hst := hrow.store j (.bool ((1 + (j : Int)) % 3 == 0))
      rw [mkb_step (by omega)] at hst
      have ht : (1 + (j : Int)).tmod 3 = (1 + (j : Int)) % 3 := Int.tmod_eq_emod_of_nonneg (by omega)
      have m1 := Int.emod_nonneg (1 + (j : Int)) (show (3 : Int) ≠ 0 by omega)
      have m2 := Int.emod_lt_of_pos (1 + (j : Int)) (show (0 : Int) < 3 by omega)
      generalize (1 + (j : Int)) % 3 = r at *
      have hw : IntKind.i64.wrap r = r := IntWalk.i64_in _ (by omega)
      have HS := hide hst
      clear hst hrow hl h
      go_wp2
      go_roundw
      case rel => exact ⟨j + 1, by go_num, by simp; omega, by omega, HS.out, gset hgr _ _⟩
      case measure => simp [intOf]; omega
    · have hjn : j = n := by omega
      subst hjn
      rw [← hl, List.drop_length, List.append_nil, hl] at hrow
      have HR := hide hrow
      clear hrow h hl
      go_wp2
      go_ret
      exact ⟨rfl, HR.out, hgr⟩

theorem heldBoolS_any (A : Option Addr) (n c B : Nat) (w : World) (hn : n ≤ 1000000000) (h : Rd w B 1 A n (bll (mkb n))) :
    Calls Try.prog 18 #[.slice A n c, .int .i64 1] w fun e w' => e = .returned (.int .i64 (1 + n)) ∧ w = w' := by
  go_enter Try.func18, Try.ntmps18
  go_wp2
  go_loopw [1, 5] (fun a i wr => ∃ j : Nat, i = .int .i64 j ∧ a = .int .i64 (1 + j) ∧ j ≤ n ∧ wr = w) (fun _ i _ => n - (intOf i).toNat)
  case atStart => exact ⟨0, rfl, by simp, by omega, rfl⟩
  case round =>
    obtain ⟨j, rfl, rfl, hj, rfl⟩ := hrel
    by_cases hlt : j < n
    · obtain ⟨b, o, rfl, _, e1⟩ := h.cellB (mkb_len n) hlt
      rw [mkb_at hlt] at e1
      have ht : (1 + (j : Int)).tmod 3 = (1 + (j : Int)) % 3 := Int.tmod_eq_emod_of_nonneg (by omega)
      have m1 := Int.emod_nonneg (1 + (j : Int)) (show (3 : Int) ≠ 0 by omega)
      have m2 := Int.emod_lt_of_pos (1 + (j : Int)) (show (0 : Int) < 3 by omega)
      generalize (1 + (j : Int)) % 3 = r at *
      have hw : IntKind.i64.wrap r = r := IntWalk.i64_in _ (by omega)
      have q1 : ((r == 0) != (r == 0)) = false := by simp
      clear h
      go_wp2
      go_roundw
      case rel => exact ⟨j + 1, by go_num, by simp; omega, by omega, trivial⟩
      case measure => simp [intOf]; omega
    · have hjn : j = n := by omega
      subst hjn
      clear h
      go_wp2
      go_ret
      exact ⟨rfl, rfl⟩

/-- A list of bools that a call made behind block B, or nil. -/
def LstB (w : World) (B : Nat) (v : Value) (xs : List Bool) : Prop :=
  ∃ A n cap, v = .slice A n cap ∧ n = xs.length ∧ n ≤ 1000000000 ∧ ((A = none ∧ n = 0) ∨ ∃ g, A = some ⟨g, 0, none⟩ ∧ B ≤ g ∧ Row w g 4 1 n cap (bll xs))

theorem LstB.nil_ (w : World) (B : Nat) : LstB w B (.slice none 0 0) [] := ⟨none, 0, 0, rfl, rfl, by omega, .inl ⟨rfl, rfl⟩⟩
theorem LstB.of_row {w : World} {B g n cap : Nat} {xs : List Bool} (h : Row w g 4 1 n cap (bll xs)) (hB : B ≤ g) (hn : n ≤ 1000000000) : LstB w B (.slice (some ⟨g, 0, none⟩) n cap) xs :=
  ⟨_, n, cap, rfl, by have := h.len; rw [bll_len] at this; omega, hn, .inr ⟨g, rfl, hB, h⟩⟩
theorem LstB.keep {w w' : World} {B : Nat} {v : Value} {xs : List Bool} (h : LstB w B v xs) (hb : Below w.heap.size w w') : LstB w' B v xs := by
  obtain ⟨A, n, cap, e, hn, hn2, h | ⟨g, hA, hg, hr⟩⟩ := h
  · exact ⟨A, n, cap, e, hn, hn2, .inl h⟩
  · exact ⟨A, n, cap, e, hn, hn2, .inr ⟨g, hA, hg, hr.below hb hr.lt⟩⟩
theorem LstB.rd {w : World} {B : Nat} {A : Option Addr} {n cap : Nat} {xs : List Bool} (hn : n = xs.length) (h : (A = none ∧ n = 0) ∨ ∃ g, A = some ⟨g, 0, none⟩ ∧ B ≤ g ∧ Row w g 4 1 n cap (bll xs)) : Rd w w.heap.size 1 A n (bll xs) := by
  rcases h with ⟨_, h0⟩ | ⟨g, rfl, _, hr⟩
  · exact ⟨by rw [bll_len]; omega, fun h => by omega⟩
  · exact hr.rd

theorem eqLstB_any (v1 v2 : Value) (B1 B2 : Nat) (xs : List Bool) (w : World) (h1 : LstB w B1 v1 xs) (h2 : LstB w B2 v2 xs) :
    Calls Try.prog 16 #[v1, v2] w fun e w' => e = .returned (.bool true) ∧ Below w.heap.size w w' := by
  obtain ⟨A1, n, c1, rfl, hn, hb, h1⟩ := h1
  obtain ⟨A2, n2, c2, rfl, hn2, _, h2⟩ := h2
  obtain rfl : n2 = n := by omega
  exact eqBoolS_any A1 A2 n2 c1 c2 xs w hb hn.symm (LstB.rd hn h1) (LstB.rd hn2 h2)

theorem markLstB_any (v : Value) (B : Nat) (xs : List Bool) (w : World) (h : LstB w B v xs) :
    Calls Try.prog 17 #[v, .int .i64 1] w fun e w' => e = .returned (.int .i64 (1 + xs.length)) ∧ LstB w' B v (mkb xs.length) ∧ Below B w w' := by
  obtain ⟨A, n, cap, rfl, hn, hb, ⟨rfl, h0⟩ | ⟨g, rfl, hg, hr⟩⟩ := h
  · subst h0
    rw [← hn]
    clear hn hb
    go_enter Try.func17, Try.ntmps17
    go_wp2
    go_loopw [1, 5] (fun a i wr => a = .int .i64 1 ∧ i = .int .i64 0 ∧ wr = w) (fun _ _ _ => 0)
    case atStart => exact ⟨rfl, rfl, rfl⟩
    case round =>
      obtain ⟨rfl, rfl, rfl⟩ := hrel
      go_wp2
      go_ret
      exact ⟨rfl, ⟨none, 0, cap, rfl, rfl, by omega, .inl ⟨rfl, rfl⟩⟩, Below.refl _ _⟩
  · rw [← hn]
    refine (markBoolS_any g n cap xs w hb hr).mono ?_
    rintro e w' ⟨rfl, hr2, hgr⟩
    exact ⟨rfl, ⟨_, n, cap, rfl, by rw [mkb_len], hb, .inr ⟨g, rfl, hg, hr2⟩⟩, (Below.refl B w).grown hgr (by have := hr.lt; omega) (fun k h => by simp at h; omega)⟩

theorem heldLstB_any (v : Value) (B n : Nat) (w : World) (h : LstB w B v (mkb n)) :
    Calls Try.prog 18 #[v, .int .i64 1] w fun e w' => e = .returned (.int .i64 (1 + n)) ∧ w = w' := by
  obtain ⟨A, n2, cap, rfl, hn, hb, h⟩ := h
  have hr := LstB.rd hn h
  rw [mkb_len] at hn
  subst hn
  exact heldBoolS_any A n2 cap _ w hb hr

end Go.Proofs.Ytjmllmadoelioaa
