/- Draws of the arguments of the law on words. -/
import Derived.Test.YtednobegombphaaDoorDrwW
namespace Go.Proofs.YtednobegombphaaDoor
open Go.RowKit

theorem drawSlopeOfWord_any (A : Option Addr) (n c : Nat) (xs : List Int) (w : World) (h : Rd w w.heap.size 1 A n (u8l xs)) (hn : n ≤ 9223372036854775807) (hx : ∀ x ∈ xs, 0 ≤ x ∧ x ≤ 255) :
    Calls Tryd.prog 11 #[.slice A n c] w fun e w' => ∃ s : ByteArray, e = .returned (.string s) ∧ s.size ≤ 1000 ∧ Below w.heap.size w w' := by
  go_enter Tryd.func11, Tryd.ntmps11
  go_wp2_with fail
  refine (l00From_any A n c xs _ h hn hx).mono ?_
  rintro e w1 ⟨g, rfl, hs1, hb1⟩
  go_wp2_with fail
  refine (l23Draw_any g _ 0 _ (hs1.less (by omega))).mono ?_
  rintro e w2 ⟨s, rfl, hs, hs2, hg2⟩
  have B2 : Below w.heap.size w w2 := belSrc hb1 hs1 (Nat.le_refl _) hg2
  go_wp2_with fail
  go_ret
  exact ⟨s, rfl, hs, B2⟩

theorem drawSplitWord_any (A : Option Addr) (n c : Nat) (xs : List Int) (w : World) (h : Rd w w.heap.size 1 A n (u8l xs)) (hn : n ≤ 9223372036854775807) (hx : ∀ x ∈ xs, 0 ≤ x ∧ x ≤ 255) :
    Calls Tryd.prog 8 #[.slice A n c] w fun e w' => ∃ s : ByteArray, e = .returned (.string s) ∧ s.size ≤ 1000 ∧ Below w.heap.size w w' := by
  go_enter Tryd.func8, Tryd.ntmps8
  go_wp2_with fail
  refine (l00From_any A n c xs _ h hn hx).mono ?_
  rintro e w1 ⟨g, rfl, hs1, hb1⟩
  go_wp2_with fail
  refine (l23Draw_any g _ 0 _ (hs1.less (by omega))).mono ?_
  rintro e w2 ⟨s, rfl, hs, hs2, hg2⟩
  have B2 : Below w.heap.size w w2 := belSrc hb1 hs1 (Nat.le_refl _) hg2
  go_wp2_with fail
  go_ret
  exact ⟨s, rfl, hs, B2⟩

theorem drawCentralPart_any (A : Option Addr) (n c : Nat) (xs : List Int) (w : World) (h : Rd w w.heap.size 1 A n (u8l xs)) (hn : n ≤ 9223372036854775807) (hx : ∀ x ∈ xs, 0 ≤ x ∧ x ≤ 255) :
    Calls Tryd.prog 14 #[.slice A n c] w fun e w' => ∃ s : ByteArray, e = .returned (.string s) ∧ s.size ≤ 1000 ∧ Below w.heap.size w w' := by
  go_enter Tryd.func14, Tryd.ntmps14
  go_wp2_with fail
  refine (l00From_any A n c xs _ h hn hx).mono ?_
  rintro e w1 ⟨g, rfl, hs1, hb1⟩
  go_wp2_with fail
  refine (l23Draw_any g _ 0 _ (hs1.less (by omega))).mono ?_
  rintro e w2 ⟨s, rfl, hs, hs2, hg2⟩
  have B2 : Below w.heap.size w w2 := belSrc hb1 hs1 (Nat.le_refl _) hg2
  go_wp2_with fail
  go_ret
  exact ⟨s, rfl, hs, B2⟩

theorem drawTermsOfWord_any (A : Option Addr) (n c : Nat) (xs : List Int) (w : World) (h : Rd w w.heap.size 1 A n (u8l xs)) (hn : n ≤ 9223372036854775807) (hx : ∀ x ∈ xs, 0 ≤ x ∧ x ≤ 255) :
    Calls Tryd.prog 17 #[.slice A n c] w fun e w' => ∃ s : ByteArray, e = .returned (.string s) ∧ s.size ≤ 1000 ∧ Below w.heap.size w w' := by
  go_enter Tryd.func17, Tryd.ntmps17
  go_wp2_with fail
  refine (l00From_any A n c xs _ h hn hx).mono ?_
  rintro e w1 ⟨g, rfl, hs1, hb1⟩
  go_wp2_with fail
  refine (l23Draw_any g _ 0 _ (hs1.less (by omega))).mono ?_
  rintro e w2 ⟨s, rfl, hs, hs2, hg2⟩
  have B2 : Below w.heap.size w w2 := belSrc hb1 hs1 (Nat.le_refl _) hg2
  go_wp2_with fail
  go_ret
  exact ⟨s, rfl, hs, B2⟩

set_option maxRecDepth 100000 in
set_option maxHeartbeats 2000000 in
theorem drawChristoffelWord_any (A : Option Addr) (n c : Nat) (xs : List Int) (w : World) (h : Rd w w.heap.size 1 A n (u8l xs)) (hn : n ≤ 9223372036854775807) (hx : ∀ x ∈ xs, 0 ≤ x ∧ x ≤ 255) :
    Calls Tryd.prog 5 #[.slice A n c] w fun e w' => ∃ p q : Int, e = .returned (.agg #[.int .i64 p, .int .i64 q]) ∧ Below w.heap.size w w' := by
  go_enter Tryd.func5, Tryd.ntmps5
  have b0 : Below w.heap.size w (w.alloc (.cells #[.int .i64 0, .int .i64 0] 25)) := by go_grown
  have hR0 := Blk.new w 25 #[.int .i64 0, .int .i64 0]
  have h1 := (h.below b0).more b0.size
  go_wp2_with fail
  refine (l00From_any A n c xs _ h1 hn hx).mono ?_
  rintro e w1 ⟨g, rfl, hs1, hb1⟩
  have hR1 : Blk w1 w.heap.size 25 #[.int .i64 0, .int .i64 0] := (hb1.block w.heap.size (by simp)).trans hR0
  have hgg := hs1.base_
  simp at hgg
  have B1 := bstep b0 hb1 b0.size
  clear h1 hR0 b0 hb1
  go_wp2_with fail
  refine (one_any g _ 200 _ _ (hs1.less (by omega))).mono ?_
  rintro e w2 ⟨b, rfl, hs2, hg2⟩
  have hR2 := hR1.grown hg2 (fun e => by injection e; omega)
  have B2 : Below w.heap.size w w2 := belSrc B1 hs1 (by simp) hg2
  clear hR1 hs1 hg2 B1
  cases b
  · go_wp2_with fail
    refine (one_any g _ 190 _ _ (hs2.less (by omega))).mono ?_
    rintro e w3 ⟨b, rfl, hs3, hg3⟩
    have hR3 := hR2.grown hg3 (fun e => by injection e; omega)
    have B3 := B2.grown hg3 B2.size (fun k hk => by injection hk; omega)
    clear hR2 hs2 hg3 B2
    cases b
    · go_wp2_with fail
      refine (pick_any g _ 180 _ _ (hs3.less (by omega))).mono ?_
      rintro e w4 ⟨v, rfl, v0, v1, hs4, hg4⟩
      have hR4 := hR3.grown hg4 (fun e => by injection e; omega)
      have B4 := B3.grown hg4 B3.size (fun k hk => by injection hk; omega)
      have v2 : v < 30 := by omega
      clear hR3 hs3 hg4 B3 v1
      go_wp2_with fail
      refine (pick_any g _ 170 _ _ (hs4.less (by omega))).mono ?_
      rintro e w5 ⟨u, rfl, u0, u1, hs5, hg5⟩
      have hR5 := hR4.grown hg5 (fun e => by injection e; omega)
      have B5 := B4.grown hg5 B4.size (fun k hk => by injection hk; omega)
      have u2 : u < 30 := by omega
      clear hR4 hs4 hg5 B4 u1
      have hM := l02Make_any (1 + v) (1 + u)
      generalize (1 + v) / ((Int.gcd (1 + v) (1 + u) : Nat) : Int) = x at *
      generalize (1 + u) / ((Int.gcd (1 + v) (1 + u) : Nat) : Int) = y at *
      go_wp2_with fail
      refine (hM _ (by omega) (by omega) (by omega)).mono ?_
      rintro e w6 ⟨rfl, b6⟩
      obtain ⟨c1, c2, c3, HR⟩ := hR5.after b6 hR5.lt
      have B6 := bstep B5 b6 B5.size
      clear hR5 hs5 B5 hM b6
      go_wp2_with fail
      have z3 := HR.out.set2 (x := .int .i64 x) (y := .int .i64 y)
      obtain ⟨z4, _, _, _⟩ := z3.after (Below.refl _ _) z3.lt
      exact bodyPost_ret (v := .agg #[.int .i64 x, .int .i64 y]) (by simp [results, Tryd.results5, go_sem, z4]) rfl ⟨_, _, rfl, (B6.setCell (Nat.le_refl _) _).setCell (Nat.le_refl _) _⟩
    · go_wp2_with fail
      refine (l02Bent_any g _ 100 _ (hs3.less (by omega))).mono ?_
      rintro e w4 ⟨x, y, rfl, hs4, hg4⟩
      have hR4 := hR3.grown hg4 (fun e => by injection e; omega)
      have B4 := B3.grown hg4 B3.size (fun k hk => by injection hk; omega)
      clear hR3 hs3 hg4 B3
      obtain ⟨c1, c2, c3, HR⟩ := hR4.after (Below.refl _ _) hR4.lt
      go_wp2_with fail
      have z3 := HR.out.set2 (x := .int .i64 x) (y := .int .i64 y)
      obtain ⟨z4, _, _, _⟩ := z3.after (Below.refl _ _) z3.lt
      exact bodyPost_ret (v := .agg #[.int .i64 x, .int .i64 y]) (by simp [results, Tryd.results5, go_sem, z4]) rfl ⟨_, _, rfl, (B4.setCell (Nat.le_refl _) _).setCell (Nat.le_refl _) _⟩
  · go_wp2_with fail
    refine (among_new g _ 190 _ 2 _ (hs2.less (by omega)) (by rfl) (by rfl) (by omega) (by omega)).mono ?_
    rintro e w3 ⟨y, rfl, hs3, hg3⟩
    have hR3 := hR2.grown hg3 (fun e => by injection e; omega)
    have B3 := B2.grown hg3 B2.size (fun k hk => by injection hk; omega)
    clear hR2 hs2 hg3 B2
    obtain ⟨c1, c2, c3, HR⟩ := hR3.after (Below.refl _ _) hR3.lt
    go_wp2_with fail
    have z3 := HR.out.set2 (x := .int .i64 1) (y := .int .i64 y)
    obtain ⟨z4, _, _, _⟩ := z3.after (Below.refl _ _) z3.lt
    exact bodyPost_ret (v := .agg #[.int .i64 1, .int .i64 y]) (by simp [results, Tryd.results5, go_sem, z4]) rfl ⟨_, _, rfl, (B3.setCell (Nat.le_refl _) _).setCell (Nat.le_refl _) _⟩

end Go.Proofs.YtednobegombphaaDoor
