/- Contracts that the laws on best fractions and intermediate ones use. -/
import Derived.Test.YtnjilpldfidbjaaItP
import Derived.Test.YtnjilpldfidbjaaErrU
import Derived.Test.YtnjilpldfidbjaaHeldF
namespace Go.Proofs.Ytnjilpldfidbjaa
open Go.RowKit

theorem Nb.symm {x y : Int × Int} (h : Nb x y) : Nb y x := ⟨h.2.1, h.1, by have := h.2.2; omega⟩

theorem f6big_any (A : Option Addr) (n c : Nat) (w : World) (hn : n ≤ 9223372036854775807) :
    Calls Try.prog 5 #[.slice A n c] w fun e w' => e = .returned (.bool (decide (4096 < n))) ∧ w = w' := by
  have e : decide ((4096 : Int) < (n : Int)) = decide (4096 < n) := by
    by_cases h : 4096 < n
    · rw [decide_eq_true h, decide_eq_true (by omega)]
    · rw [decide_eq_false h, decide_eq_false (by omega)]
  go_enter Try.func5, Try.ntmps5
  go_wp2
  go_ret
  exact ⟨by rw [← e]; rfl, rfl⟩

set_option maxHeartbeats 1000000 in
theorem areNb_any (p q r s : Int) (w : World) (h : Nb (p, q) (r, s)) :
    Calls Try.prog 19 #[.agg #[.int .i64 p, .int .i64 q], .agg #[.int .i64 r, .int .i64 s]] w fun e w' => e = .returned (.bool true) ∧ Below w.heap.size w w' := by
  obtain ⟨h1, h2, h3⟩ := h
  simp only at h1 h2 h3
  have hV1 := implValid_any p q
  have hV2 := implValid_any r s
  rw [h1] at hV1
  rw [h2] at hV2
  obtain ⟨o1, o2, _⟩ := okF_iff.1 h1
  obtain ⟨o3, o4, _⟩ := okF_iff.1 h2
  have m1 := prod18 o2 o3
  have m2 := prod18 o4 o1
  have s1 : IntKind.i64.wrap (p * s) = p * s := IntWalk.i64_in _ (by omega)
  have s2 : IntKind.i64.wrap (r * q) = r * q := IntWalk.i64_in _ (by omega)
  have s3 : IntKind.i64.wrap (p * s - r * q) = p * s - r * q := IntWalk.i64_in _ (by omega)
  have hz : sz (p * s - r * q) = 1 := by unfold sz; rcases h3 with h | h <;> rw [h] <;> rfl
  have hA := fun w => implAbs_any (p * s - r * q) w (by omega) (by omega)
  rw [hz] at hA
  have B0 : Below w.heap.size w ((w.alloc (.cells #[.int .i64 p, .int .i64 q] 25)).alloc (.cells #[.int .i64 r, .int .i64 s] 25)) := by go_grown
  have hP0 := (Blk.new w 25 #[.int .i64 p, .int .i64 q]).alloc (.cells #[.int .i64 r, .int .i64 s] 25)
  have hX0 : Blk ((w.alloc (.cells #[.int .i64 p, .int .i64 q] 25)).alloc (.cells #[.int .i64 r, .int .i64 s] 25)) (w.heap.size + 1) 25 #[.int .i64 r, .int .i64 s] := Blk.newAt (by simp)
  clear h1 h2 h3 hz m1 m2 o1 o2 o3 o4
  go_enter Try.func19, Try.ntmps19
  go_wp2_with fail
  refine (hV1 _).mono ?_
  rintro e w1 ⟨rfl, b1⟩
  have B1 := bstep B0 b1 B0.size
  obtain ⟨a1, _, a3, HP1⟩ := hP0.after b1 hP0.lt
  obtain ⟨c1, _, c3, HX1⟩ := hX0.after b1 hX0.lt
  have x0 := c1 0
  have x1 := c1 1
  clear a1 c1 b1 hP0 hX0 B0
  go_wp2_with fail
  refine (hV2 _).mono ?_
  rintro e w2 ⟨rfl, b2⟩
  have B2 := bstep B1 b2 B1.size
  obtain ⟨a1, _, a3, HP2⟩ := HP1.out.after b2 a3
  obtain ⟨c1, _, c3, HX2⟩ := HX1.out.after b2 c3
  have y0 := a1 0
  have y1 := a1 1
  have x2 := c1 0
  have x3 := c1 1
  clear a1 c1 b2 x0 x1 HP1 HX1 B1
  go_wp2_with fail
  refine (hA _).mono ?_
  rintro e w3 ⟨rfl, rfl⟩
  go_wp2_with fail
  go_ret
  exact ⟨rfl, B2⟩

set_option maxRecDepth 100000 in
theorem f6fractions_any (v1 v2 : Value) (B1 B2 : Nat) (xs : List (Int × Int)) (w : World) (h1 : LstF w B1 v1 xs) (h2 : LstF w B2 v2 xs) :
    Calls Try.prog 17 #[v1, v2] w fun e w' => e = .returned (.bool true) ∧ Below w.heap.size w w' := by
  obtain ⟨A1, n, c1, rfl, hn, hb, h1⟩ := h1
  obtain ⟨A2, n2, c2, rfl, hn2, _, h2⟩ := h2
  obtain rfl : n2 = n := by omega
  have r1 := LstF.rd hn h1
  have r2 := LstF.rd hn h2
  have HN := hide hn
  clear h1 h2 hn hn2
  go_enter Try.func17, Try.ntmps17
  go_wp2
  go_loopw [5] (fun i wr => ∃ k : Nat, i = .int .i64 k ∧ k ≤ n2 ∧ Below w.heap.size w wr) (fun i _ => n2 - (intOf i).toNat)
  case atStart => exact ⟨0, rfl, by omega, Below.refl _ _⟩
  case round =>
    obtain ⟨k, rfl, hk, hbel⟩ := hrel
    by_cases hlt : k < n2
    · obtain ⟨b1, o1, rfl, _, e1, e2⟩ := (r1.below hbel).cell2 HN.out.symm hlt
      obtain ⟨b2, o2, rfl, _, e3, e4⟩ := (r2.below hbel).cell2 HN.out.symm hlt
      generalize (xs[k]'(by rw [← HN.out]; exact hlt)).1 = x at *
      generalize (xs[k]'(by rw [← HN.out]; exact hlt)).2 = y at *
      have hkz : (k : Int) < (n2 : Int) := by omega
      clear r1 r2
      go_wp2_with fail
      go_quiet (fail)
      go_wp2_with fail
      go_roundw
      case rel => exact ⟨k + 1, by go_num, by omega, belowN hbel _⟩
      case measure => simp [intOf]; omega
    · go_wp2
      go_ret
      exact ⟨rfl, hbel⟩

end Go.Proofs.Ytnjilpldfidbjaa
