/- Draws of the arguments of the laws on gaps. -/
import Derived.Test.YtpagfikhcmeciaaDrwF
import Derived.Test.YtpagfikhcmeciaaFracP
import Derived.Test.YtpagfikhcmeciaaF6
import Derived.Deep.RegionWith
namespace Go.Proofs.Ytpagfikhcmeciaa
open Go.RowKit

theorem l00Min_any (a b : Int) (w : World) :
    Calls Try.prog 71 #[.int .i64 a, .int .i64 b] w fun e w' => e = .returned (.int .i64 (min a b)) ∧ w = w' := by
  go_enter Try.func71, Try.ntmps71
  by_cases h : a < b
  · have e : min a b = a := by omega
    go_wp2
    go_ret
    exact ⟨by first | rfl | (rw [e]; rfl), rfl⟩
  · have e : min a b = b := by omega
    go_wp2
    go_ret
    exact ⟨by first | rfl | (rw [e]; rfl), rfl⟩

set_option maxRecDepth 100000 in
set_option maxHeartbeats 8000000 in
theorem l20Ask_any (g B K : Nat) (w : World) (h : Src w g B (K + 200)) :
    Calls Try.prog 57 #[.pointer (some ⟨g, 0, none⟩)] w fun e w' => ∃ p q k : Int, e = .returned (.tuple #[.agg #[.int .i64 p, .int .i64 q], .int .i64 k]) ∧ Src w' g B K ∧ w.grownBy w' (some g) := by
  have hgl := h.lt
  have hBg := h.base_
  go_enter Try.func57, Try.ntmps57
  have h0 : Src (w.alloc (.cells #[.int .i64 0, .int .i64 0] 25)) g B (K + 200) := h.alloc _
  have hR0 := Blk.new w 25 #[.int .i64 0, .int .i64 0]
  have hG0 : w.grownBy (w.alloc (.cells #[.int .i64 0, .int .i64 0] 25)) (some g) := World.grownBy_alloc _ _ _
  go_wp2_with fail
  refine (l02Bent_any g B (K + 140) _ (h0.less (by omega))).mono ?_
  rintro e w1 ⟨p, q, rfl, hs1, hg1⟩
  have hR1 := (hR0.grown hg1 (fun e => by injection e; omega)).alloc (.cells #[.int .i64 p, .int .i64 q] 25)
  have hT1 := Blk.new w1 25 #[.int .i64 p, .int .i64 q]
  have hG1 := gtrans (gtrans hG0 hg1) (World.grownBy_alloc w1 (.cells #[.int .i64 p, .int .i64 q] 25) (some g))
  have hs1' : Src (w1.alloc (.cells #[.int .i64 p, .int .i64 q] 25)) g B (K + 140) := hs1.alloc _
  have hbt : w.heap.size < w1.heap.size ∧ g < w1.heap.size := ⟨by have := hg1.size; simp at this; omega, hs1.lt⟩
  have hne : w1.heap.size ≠ g := by omega
  clear h h0 hR0 hG0 hg1 hs1
  go_wp2_with fail
  generalize w1.heap.size = bt at *
  generalize w1.alloc (.cells #[.int .i64 p, .int .i64 q] 25) = w2 at *
  refine (one_any g B (K + 130) _ _ (hs1'.less (by omega))).mono ?_
  rintro e w4 ⟨b, rfl, hs4, hg4⟩
  have hR4 := hR1.grown hg4 (fun e => by injection e; omega)
  have hT4 := hT1.grown hg4 (fun e => by injection e; omega)
  have hG4 := gtrans hG1 hg4
  clear hR1 hT1 hG1 hs1' hg4
  obtain ⟨a1, a2, a3, HT⟩ := hT4.after (Below.refl _ _) hT4.lt
  obtain ⟨c1, c2, c3, HR⟩ := hR4.after (Below.refl _ _) hR4.lt
  have x0 := a1 0
  have x1 := a1 1
  clear a1 hR4 hT4
  cases b
  · have hOk := l02Ok_any p q
    rcases Bool.eq_false_or_eq_true (okF p q) with ho | ho
    · skip
      rw [ho] at hOk
      go_wp2_with fail
      refine (hOk _).mono ?_
      rintro e w6 ⟨rfl, b6⟩
      have hs6 := hs4.below_ b6
      have hG6 := gbel hG4 b6
      have hT6 := HT.out.bel b6
      have hR6 := HR.out.bel b6
      obtain ⟨a1, _, _, HT6⟩ := hT6.after (Below.refl _ _) hT6.lt
      obtain ⟨c1, d2, d3, HR6⟩ := hR6.after (Below.refl _ _) hR6.lt
      have y0 := a1 0
      have y1 := a1 1
      clear a1 hT6 hR6 hs4 hG4 HT HR x0 x1 b6 c1 c2 c3 hOk
      go_wp2_with fail
      refine (one_any g B (K + 120) _ _ (hs6.less (by omega))).mono ?_
      rintro e w7 ⟨b, rfl, hs7, hg7⟩
      have hG7 := gtrans hG6 hg7
      have hR7 := HR6.out.grown hg7 (fun e => by injection e; omega)
      have hT7 := HT6.out.grown hg7 (fun e => by injection e; omega)
      obtain ⟨a1, _, _, HT7⟩ := hT7.after (Below.refl _ _) hT7.lt
      obtain ⟨c1, c2, c3, HR7⟩ := hR7.after (Below.refl _ _) hR7.lt
      have z0 := a1 0
      have z1 := a1 1
      clear a1 hT7 hR7 hs6 hG6 HT6 HR6 y0 y1 hg7
      cases b
      · skip
        have hsd : Src w7.drew g B (K + 2) := hs7.less (by omega)
        go_wp2_with fail
        go_region_with (first
          | (go_at_call 47; (with_reducible refine (pick_any g B K _ w7.drew hsd).mono ?_); (rintro e w5 ⟨u, rfl, u0, u1, hs5, hg5'⟩); (have hg5 : w7.grownBy w5 (some g) := gtrans (gdrewN w7 1 _) hg5'); (have hR5 := HR7.out.grown hg5 (fun e => by injection e <;> omega)); (have hT5 := HT7.out.grown hg5 (fun e => by injection e <;> omega)); (obtain ⟨f1, _, _, HT5⟩ := hT5.after (Below.refl _ _) hT5.lt); (obtain ⟨k1, _, _, HR5⟩ := hR5.after (Below.refl _ _) hR5.lt); (have x2 := f1 0); (have x3 := f1 1); (have u2 : u < 40 := by omega); (clear f1 hT5 hR5 hg5')))
        all_goals
          have G5 := gtrans hG7 hg5
          go_wp2_with fail
          have z3 := HR5.out.set2 (x := .int .i64 p) (y := .int .i64 q)
          obtain ⟨z4, _, _, _⟩ := z3.after (Below.refl _ _) z3.lt
          have u3 : IntKind.i64.wrap (1 + u) = 1 + u := IntWalk.i64_in _ (by omega)
          refine bodyPost_ret (v := .tuple #[.agg #[.int .i64 p, .int .i64 q], .int .i64 (1 + u)]) (by simp [results, Try.results57, go_sem, z4, u3]) rfl ⟨_, _, _, rfl, ?_, gnew (gnew G5 (Nat.le_refl _) _) (Nat.le_refl _) _⟩
          exact ((hs5.cells_ _ _ (by omega) (by omega) _).cells_ _ _ (by omega) (by omega) _).less (by omega)
      · skip
        go_wp2_with fail
        go_region_with (first
          | (go_at_call 71; (refine (l00Min_any q 60 _).mono ?_); (rintro e w5 ⟨rfl, rfl⟩)))
        all_goals
          go_wp2_with fail
          have z3 := HR7.out.set2 (x := .int .i64 p) (y := .int .i64 q)
          obtain ⟨z4, _, _, _⟩ := z3.after (Below.refl _ _) z3.lt
          refine bodyPost_ret (v := .tuple #[.agg #[.int .i64 p, .int .i64 q], .int .i64 (min q 60)]) (by simp [results, Try.results57, go_sem, z4]) rfl ⟨_, _, _, rfl, ?_, gtrans (gnew (gnew hG7 (Nat.le_refl _) _) (Nat.le_refl _) _) (gdrew _ _)⟩
          exact (show Src ((w7.setCell ⟨w.heap.size, 0, none⟩ (.int .i64 p)).setCell ⟨w.heap.size, 1, none⟩ (.int .i64 q)) g B K from ((hs7.cells_ _ _ (by omega) (by omega) _).cells_ _ _ (by omega) (by omega) _).less (by omega))
    · skip
      rw [ho] at hOk
      go_wp2_with fail
      refine (hOk _).mono ?_
      rintro e w6 ⟨rfl, b6⟩
      have hs6 := hs4.below_ b6
      have hG6 := gbel hG4 b6
      have hT6 := HT.out.bel b6
      have hR6 := HR.out.bel b6
      obtain ⟨a1, _, _, HT6⟩ := hT6.after (Below.refl _ _) hT6.lt
      obtain ⟨c1, d2, d3, HR6⟩ := hR6.after (Below.refl _ _) hR6.lt
      have y0 := a1 0
      have y1 := a1 1
      clear a1 hT6 hR6 hs4 hG4 HT HR x0 x1 b6 c1 c2 c3 hOk
      have hsd : Src w6.drew g B (K + 2) := hs6.less (by omega)
      go_wp2_with fail
      go_region_with (first
        | (go_at_call 47; (with_reducible refine (pick_any g B K _ w6.drew hsd).mono ?_); (rintro e w5 ⟨u, rfl, u0, u1, hs5, hg5'⟩); (have hg5 : w6.grownBy w5 (some g) := gtrans (gdrewN w6 1 _) hg5'); (have hR5 := HR6.out.grown hg5 (fun e => by injection e <;> omega)); (have hT5 := HT6.out.grown hg5 (fun e => by injection e <;> omega)); (obtain ⟨f1, _, _, HT5⟩ := hT5.after (Below.refl _ _) hT5.lt); (obtain ⟨k1, _, _, HR5⟩ := hR5.after (Below.refl _ _) hR5.lt); (have x2 := f1 0); (have x3 := f1 1); (have u2 : u < 40 := by omega); (clear f1 hT5 hR5 hg5')))
      all_goals
        have G5 := gtrans hG6 hg5
        go_wp2_with fail
        have z3 := HR5.out.set2 (x := .int .i64 p) (y := .int .i64 q)
        obtain ⟨z4, _, _, _⟩ := z3.after (Below.refl _ _) z3.lt
        have u3 : IntKind.i64.wrap (1 + u) = 1 + u := IntWalk.i64_in _ (by omega)
        refine bodyPost_ret (v := .tuple #[.agg #[.int .i64 p, .int .i64 q], .int .i64 (1 + u)]) (by simp [results, Try.results57, go_sem, z4, u3]) rfl ⟨_, _, _, rfl, ?_, gnew (gnew G5 (Nat.le_refl _) _) (Nat.le_refl _) _⟩
        exact ((hs5.cells_ _ _ (by omega) (by omega) _).cells_ _ _ (by omega) (by omega) _).less (by omega)
  · skip
    have hsd : Src w4.drew g B (K + 2) := hs4.less (by omega)
    go_wp2_with fail
    go_region_with (first
      | (go_at_call 46; (refine (among_new g B K _ _ w4.drew hsd (by rfl) (by rfl) (by omega) (by omega)).mono ?_); (rintro e w5 ⟨u, rfl, hs5, hg5'⟩); (have hg5 : w4.grownBy w5 (some g) := gtrans (gdrewN w4 1 _) hg5'); (have hR5 := HR.out.grown hg5 (fun e => by injection e <;> omega)); (have hT5 := HT.out.grown hg5 (fun e => by injection e <;> omega)); (obtain ⟨f1, _, _, HT5⟩ := hT5.after (Below.refl _ _) hT5.lt); (obtain ⟨k1, _, _, HR5⟩ := hR5.after (Below.refl _ _) hR5.lt); (have x2 := f1 0); (have x3 := f1 1); (clear f1 hT5 hR5 hg5')))
    all_goals
      have G5 := gtrans hG4 hg5
      go_wp2_with fail
      have z3 := HR5.out.set2 (x := .int .i64 p) (y := .int .i64 q)
      obtain ⟨z4, _, _, _⟩ := z3.after (Below.refl _ _) z3.lt
      refine bodyPost_ret (v := .tuple #[.agg #[.int .i64 p, .int .i64 q], .int .i64 u]) (by simp [results, Try.results57, go_sem, z4]) rfl ⟨_, _, _, rfl, ?_, gnew (gnew G5 (Nat.le_refl _) _) (Nat.le_refl _) _⟩
      exact ((hs5.cells_ _ _ (by omega) (by omega) _).cells_ _ _ (by omega) (by omega) _).less (by omega)

set_option maxRecDepth 100000 in
theorem l20Both_any (A : Option Addr) (n c : Nat) (xs : List Int) (w : World) (h : Rd w w.heap.size 1 A n (u8l xs)) (hn : n ≤ 9223372036854775807) (hx : ∀ x ∈ xs, 0 ≤ x ∧ x ≤ 255) :
    Calls Try.prog 32 #[.slice A n c] w fun e w' => ∃ p q k : Int, e = .returned (.tuple #[.agg #[.int .i64 p, .int .i64 q], .int .i64 k]) ∧ Below w.heap.size w w' := by
  go_enter Try.func32, Try.ntmps32
  have b0 : Below w.heap.size w (w.alloc (.cells #[.int .i64 0, .int .i64 0] 25)) := by go_grown
  have hR0 := Blk.new w 25 #[.int .i64 0, .int .i64 0]
  have h1 := (h.below b0).more b0.size
  go_wp2_with fail
  refine (l00From_any A n c xs _ h1 hn hx).mono ?_
  rintro e w1 ⟨g, rfl, hs1, hb1⟩
  have hR1 : Blk w1 w.heap.size 25 #[.int .i64 0, .int .i64 0] := (hb1.block w.heap.size (by simp)).trans hR0
  have hgg := hs1.base_
  simp at hgg
  have B1 := bstep b0 hb1 b0.size
  clear h1 hR0 b0 hb1
  go_wp2_with fail
  refine (l20Ask_any g _ 10 _ (hs1.less (by omega))).mono ?_
  rintro e w2 ⟨p, q, k, rfl, hs2, hg2⟩
  have hR2 := hR1.grown hg2 (fun e => by injection e; omega)
  have B2 : Below w.heap.size w w2 := belSrc B1 hs1 (by simp) hg2
  obtain ⟨c1, c2, c3, HR⟩ := hR2.after (Below.refl _ _) hR2.lt
  clear hR1 hR2 hs1 hg2 B1
  go_wp2_with fail
  have z3 := HR.out.set2 (x := .int .i64 p) (y := .int .i64 q)
  obtain ⟨z4, _, _, _⟩ := z3.after (Below.refl _ _) z3.lt
  exact bodyPost_ret (v := .tuple #[.agg #[.int .i64 p, .int .i64 q], .int .i64 k]) (by simp [results, Try.results32, go_sem, z4]) rfl ⟨_, _, _, rfl, (B2.setCell (Nat.le_refl _) _).setCell (Nat.le_refl _) _⟩

set_option maxRecDepth 100000 in
set_option maxHeartbeats 4000000 in
theorem drawMultipleAt_any (A : Option Addr) (n c : Nat) (xs : List Int) (w : World) (h : Rd w w.heap.size 1 A n (u8l xs)) (hn : n ≤ 9223372036854775807) (hx : ∀ x ∈ xs, 0 ≤ x ∧ x ≤ 255) :
    Calls Try.prog 15 #[.slice A n c] w fun e w' => ∃ p q k : Int, e = .returned (.tuple #[.agg #[.int .i64 p, .int .i64 q], .int .i64 k]) ∧ Below w.heap.size w w' := by
  go_enter Try.func15, Try.ntmps15
  have b0 : Below w.heap.size w (w.alloc (.cells #[.int .i64 0, .int .i64 0] 25)) := by go_grown
  have hR0 := Blk.new w 25 #[.int .i64 0, .int .i64 0]
  have h1 := (h.below b0).more b0.size
  go_wp2_with fail
  refine (l00From_any A n c xs _ h1 hn hx).mono ?_
  rintro e w1 ⟨g, rfl, hs1, hb1⟩
  have hR1 : Blk w1 w.heap.size 25 #[.int .i64 0, .int .i64 0] := (hb1.block w.heap.size (by simp)).trans hR0
  have hgg := hs1.base_
  simp at hgg
  have B1 := bstep b0 hb1 b0.size
  clear h1 hR0
  go_wp2_with fail
  refine (l02Bent_any g _ 200 _ (hs1.less (by omega))).mono ?_
  rintro e w2 ⟨p, q, rfl, hs2, hg2⟩
  have hR2 := (hR1.grown hg2 (fun e => by injection e; omega)).alloc (.cells #[.int .i64 p, .int .i64 q] 25)
  have hT2 := Blk.new w2 25 #[.int .i64 p, .int .i64 q]
  have B2 : Below w.heap.size w w2 := belSrc B1 hs1 (by simp) hg2
  have B2' : Below w.heap.size w (w2.alloc (.cells #[.int .i64 p, .int .i64 q] 25)) := B2.alloc B2.size _
  have hs2' : Src (w2.alloc (.cells #[.int .i64 p, .int .i64 q] 25)) g (w.alloc (.cells #[.int .i64 0, .int .i64 0] 25)).heap.size 200 := hs2.alloc _
  have hne : w2.heap.size ≠ g := by have := hs2.lt; omega
  have hne2 : w.heap.size < w2.heap.size := by have := hs2.lt; omega
  clear hR1 hs1 hg2 hs2 B2 B1 b0 hb1
  go_wp2_with fail
  generalize w2.heap.size = bt at *
  generalize w2.alloc (.cells #[.int .i64 p, .int .i64 q] 25) = w3 at *
  refine (one_any g _ 190 _ _ (hs2'.less (by omega))).mono ?_
  rintro e w4 ⟨b, rfl, hs4, hg4⟩
  have hR4 := hR2.grown hg4 (fun e => by injection e; omega)
  have hT4 := hT2.grown hg4 (fun e => by injection e; omega)
  have B4 := B2'.grown hg4 B2'.size (fun k hk => by injection hk; omega)
  clear hR2 hT2 B2' hs2' hg4
  obtain ⟨a1, a2, a3, HT⟩ := hT4.after (Below.refl _ _) hT4.lt
  obtain ⟨c1, c2, c3, HR⟩ := hR4.after (Below.refl _ _) hR4.lt
  have x0 := a1 0
  have x1 := a1 1
  clear a1 hR4 hT4
  cases b
  · have hsd : Src w4.drew g (w.alloc (.cells #[.int .i64 0, .int .i64 0] 25)).heap.size (100 + 2) := hs4.less (by omega)
    go_wp2_with fail
    go_region_with (first
      | (go_at_call 47; (with_reducible refine (pick_any g _ 100 _ w4.drew hsd).mono ?_); (rintro e w5 ⟨u, rfl, u0, u1, hs5, hg5'⟩); (have hg5 : w4.grownBy w5 (some g) := gtrans (gdrewN w4 1 _) hg5'); (have hR5 := HR.out.grown hg5 (fun e => by injection e <;> omega)); (have hT5 := HT.out.grown hg5 (fun e => by injection e <;> omega)); (obtain ⟨f1, _, _, HT5⟩ := hT5.after (Below.refl _ _) hT5.lt); (obtain ⟨k1, _, _, HR5⟩ := hR5.after (Below.refl _ _) hR5.lt); (have x2 := f1 0); (have x3 := f1 1); (have u2 : u < 1000 := by omega); (clear f1 hT5 hR5 hg5')))
    all_goals
      have B5 := B4.grown hg5 B4.size (fun k hk => by injection hk; omega)
      go_wp2_with fail
      have z3 := HR5.out.set2 (x := .int .i64 p) (y := .int .i64 q)
      obtain ⟨z4, _, _, _⟩ := z3.after (Below.refl _ _) z3.lt
      exact bodyPost_ret (v := .tuple #[.agg #[.int .i64 p, .int .i64 q], .int .i64 u]) (by simp [results, Try.results15, go_sem, z4]) rfl ⟨_, _, _, rfl, (B5.setCell (Nat.le_refl _) _).setCell (Nat.le_refl _) _⟩
  · have hsd : Src w4.drew g (w.alloc (.cells #[.int .i64 0, .int .i64 0] 25)).heap.size (100 + 2) := hs4.less (by omega)
    go_wp2_with fail
    go_region_with (first
      | (go_at_call 46; (refine (among_new g _ 100 _ _ w4.drew hsd (by rfl) (by rfl) (by omega) (by omega)).mono ?_); (rintro e w5 ⟨u, rfl, hs5, hg5'⟩); (have hg5 : w4.grownBy w5 (some g) := gtrans (gdrewN w4 1 _) hg5'); (have hR5 := HR.out.grown hg5 (fun e => by injection e <;> omega)); (have hT5 := HT.out.grown hg5 (fun e => by injection e <;> omega)); (obtain ⟨f1, _, _, HT5⟩ := hT5.after (Below.refl _ _) hT5.lt); (obtain ⟨k1, _, _, HR5⟩ := hR5.after (Below.refl _ _) hR5.lt); (have x2 := f1 0); (have x3 := f1 1); (clear f1 hT5 hR5 hg5')))
    all_goals
      have B5 := B4.grown hg5 B4.size (fun k hk => by injection hk; omega)
      go_wp2_with fail
      have z3 := HR5.out.set2 (x := .int .i64 p) (y := .int .i64 q)
      obtain ⟨z4, _, _, _⟩ := z3.after (Below.refl _ _) z3.lt
      exact bodyPost_ret (v := .tuple #[.agg #[.int .i64 p, .int .i64 q], .int .i64 u]) (by simp [results, Try.results15, go_sem, z4]) rfl ⟨_, _, _, rfl, (B5.setCell (Nat.le_refl _) _).setCell (Nat.le_refl _) _⟩

set_option maxRecDepth 100000 in
set_option maxHeartbeats 4000000 in
theorem drawNextMultiple_any (A : Option Addr) (n c : Nat) (xs : List Int) (w : World) (h : Rd w w.heap.size 1 A n (u8l xs)) (hn : n ≤ 9223372036854775807) (hx : ∀ x ∈ xs, 0 ≤ x ∧ x ≤ 255) :
    Calls Try.prog 26 #[.slice A n c] w fun e w' => ∃ p q k m : Int, e = .returned (.tuple #[.agg #[.int .i64 p, .int .i64 q], .int .i64 k, .int .i64 m]) ∧ Below w.heap.size w w' := by
  go_enter Try.func26, Try.ntmps26
  have b0 : Below w.heap.size w (w.alloc (.cells #[.int .i64 0, .int .i64 0] 25)) := by go_grown
  have hR0 := Blk.new w 25 #[.int .i64 0, .int .i64 0]
  have h1 := (h.below b0).more b0.size
  go_wp2_with fail
  refine (l00From_any A n c xs _ h1 hn hx).mono ?_
  rintro e w1 ⟨g, rfl, hs1, hb1⟩
  have hR1 : Blk w1 w.heap.size 25 #[.int .i64 0, .int .i64 0] := (hb1.block w.heap.size (by simp)).trans hR0
  have hgg := hs1.base_
  simp at hgg
  have B1 := bstep b0 hb1 b0.size
  clear h1 hR0 b0 hb1
  go_wp2_with fail
  refine (l20Ask_any g _ 200 _ (hs1.less (by omega))).mono ?_
  rintro e w2 ⟨p, q, kk, rfl, hs2, hg2⟩
  have hR2 := (hR1.grown hg2 (fun e => by injection e; omega)).alloc (.cells #[.int .i64 p, .int .i64 q] 25)
  have hT2 := Blk.new w2 25 #[.int .i64 p, .int .i64 q]
  have B2 : Below w.heap.size w w2 := belSrc B1 hs1 (by simp) hg2
  have B2' : Below w.heap.size w (w2.alloc (.cells #[.int .i64 p, .int .i64 q] 25)) := B2.alloc B2.size _
  have hs2' : Src (w2.alloc (.cells #[.int .i64 p, .int .i64 q] 25)) g (w.alloc (.cells #[.int .i64 0, .int .i64 0] 25)).heap.size 200 := hs2.alloc _
  have hne : w2.heap.size ≠ g := by have := hs2.lt; omega
  have hne2 : w.heap.size < w2.heap.size := by have := hs2.lt; omega
  clear hR1 hs1 hg2 hs2 B2 B1
  go_wp2_with fail
  generalize w2.heap.size = bt at *
  generalize w2.alloc (.cells #[.int .i64 p, .int .i64 q] 25) = w4 at *
  obtain ⟨a1, a2, a3, HT⟩ := hT2.after (Below.refl _ _) hT2.lt
  obtain ⟨c1, c2, c3, HR⟩ := hR2.after (Below.refl _ _) hR2.lt
  have x0 := a1 0
  have x1 := a1 1
  clear a1 hR2 hT2
  have hsd : Src w4.drew g (w.alloc (.cells #[.int .i64 0, .int .i64 0] 25)).heap.size (100 + 2) := hs2'.less (by omega)
  go_region_with (first
    | (go_at_call 47; (with_reducible refine (pick_any g _ 100 _ w4.drew hsd).mono ?_); (rintro e w5 ⟨u, rfl, u0, u1, hs5, hg5'⟩); (have hg5 : w4.grownBy w5 (some g) := gtrans (gdrewN w4 1 _) hg5'); (have hR5 := HR.out.grown hg5 (fun e => by injection e <;> omega)); (have hT5 := HT.out.grown hg5 (fun e => by injection e <;> omega)); (obtain ⟨f1, _, _, HT5⟩ := hT5.after (Below.refl _ _) hT5.lt); (obtain ⟨k1, _, _, HR5⟩ := hR5.after (Below.refl _ _) hR5.lt); (have x2 := f1 0); (have x3 := f1 1); (have u2 : u < 42 := by omega); (clear f1 hT5 hR5 hg5')))
  all_goals
    have B5 := B2'.grown hg5 B2'.size (fun k hk => by injection hk; omega)
    go_wp2_with fail
    have z3 := HR5.out.set2 (x := .int .i64 p) (y := .int .i64 q)
    obtain ⟨z4, _, _, _⟩ := z3.after (Below.refl _ _) z3.lt
    have u3 : IntKind.i64.wrap (u - 1) = u - 1 := IntWalk.i64_in _ (by omega)
    exact bodyPost_ret (v := .tuple #[.agg #[.int .i64 p, .int .i64 q], .int .i64 kk, .int .i64 (u - 1)]) (by simp [results, Try.results26, go_sem, z4, u3]) rfl ⟨_, _, _, _, rfl, (B5.setCell (Nat.le_refl _) _).setCell (Nat.le_refl _) _⟩

set_option maxRecDepth 100000 in
theorem drawGapLengths_any (A : Option Addr) (n c : Nat) (xs : List Int) (w : World) (h : Rd w w.heap.size 1 A n (u8l xs)) (hn : n ≤ 9223372036854775807) (hx : ∀ x ∈ xs, 0 ≤ x ∧ x ≤ 255) :
    Calls Try.prog 6 #[.slice A n c] w fun e w' => ∃ p q k : Int, e = .returned (.tuple #[.agg #[.int .i64 p, .int .i64 q], .int .i64 k]) ∧ Below w.heap.size w w' := by
  go_enter Try.func6, Try.ntmps6
  have b0 : Below w.heap.size w (w.alloc (.cells #[.int .i64 0, .int .i64 0] 25)) := by go_grown
  have hR0 := Blk.new w 25 #[.int .i64 0, .int .i64 0]
  have h1 := (h.below b0).more b0.size
  go_wp2_with fail
  refine (l20Both_any A n c xs _ h1 hn hx).mono ?_
  rintro e w1 ⟨p, q, k, rfl, hb1⟩
  have hR1 : Blk w1 w.heap.size 25 #[.int .i64 0, .int .i64 0] := (hb1.block w.heap.size (by simp)).trans hR0
  have B1 := bstep b0 hb1 b0.size
  obtain ⟨c1, c2, c3, HR⟩ := hR1.after (Below.refl _ _) hR1.lt
  clear h1 hR0 hR1 hb1
  go_wp2_with fail
  have z3 := HR.out.set2 (x := .int .i64 p) (y := .int .i64 q)
  obtain ⟨z4, _, _, _⟩ := z3.after (Below.refl _ _) z3.lt
  exact bodyPost_ret (v := .tuple #[.agg #[.int .i64 p, .int .i64 q], .int .i64 k]) (by simp [results, Try.results6, go_sem, z4]) rfl ⟨_, _, _, rfl, (B1.setCell (Nat.le_refl _) _).setCell (Nat.le_refl _) _⟩

set_option maxRecDepth 100000 in
theorem drawFallsInto_any (A : Option Addr) (n c : Nat) (xs : List Int) (w : World) (h : Rd w w.heap.size 1 A n (u8l xs)) (hn : n ≤ 9223372036854775807) (hx : ∀ x ∈ xs, 0 ≤ x ∧ x ≤ 255) :
    Calls Try.prog 21 #[.slice A n c] w fun e w' => ∃ p q k : Int, e = .returned (.tuple #[.agg #[.int .i64 p, .int .i64 q], .int .i64 k]) ∧ Below w.heap.size w w' := by
  go_enter Try.func21, Try.ntmps21
  have b0 : Below w.heap.size w (w.alloc (.cells #[.int .i64 0, .int .i64 0] 25)) := by go_grown
  have hR0 := Blk.new w 25 #[.int .i64 0, .int .i64 0]
  have h1 := (h.below b0).more b0.size
  go_wp2_with fail
  refine (l20Both_any A n c xs _ h1 hn hx).mono ?_
  rintro e w1 ⟨p, q, k, rfl, hb1⟩
  have hR1 : Blk w1 w.heap.size 25 #[.int .i64 0, .int .i64 0] := (hb1.block w.heap.size (by simp)).trans hR0
  have B1 := bstep b0 hb1 b0.size
  obtain ⟨c1, c2, c3, HR⟩ := hR1.after (Below.refl _ _) hR1.lt
  clear h1 hR0 hR1 hb1
  go_wp2_with fail
  have z3 := HR.out.set2 (x := .int .i64 p) (y := .int .i64 q)
  obtain ⟨z4, _, _, _⟩ := z3.after (Below.refl _ _) z3.lt
  exact bodyPost_ret (v := .tuple #[.agg #[.int .i64 p, .int .i64 q], .int .i64 k]) (by simp [results, Try.results21, go_sem, z4]) rfl ⟨_, _, _, rfl, (B1.setCell (Nat.le_refl _) _).setCell (Nat.le_refl _) _⟩

set_option maxRecDepth 100000 in
theorem drawTwoLengths_any (A : Option Addr) (n c : Nat) (xs : List Int) (w : World) (h : Rd w w.heap.size 1 A n (u8l xs)) (hn : n ≤ 9223372036854775807) (hx : ∀ x ∈ xs, 0 ≤ x ∧ x ≤ 255) :
    Calls Try.prog 29 #[.slice A n c] w fun e w' => ∃ p q k : Int, e = .returned (.tuple #[.agg #[.int .i64 p, .int .i64 q], .int .i64 k]) ∧ Below w.heap.size w w' := by
  go_enter Try.func29, Try.ntmps29
  have b0 : Below w.heap.size w (w.alloc (.cells #[.int .i64 0, .int .i64 0] 25)) := by go_grown
  have hR0 := Blk.new w 25 #[.int .i64 0, .int .i64 0]
  have h1 := (h.below b0).more b0.size
  go_wp2_with fail
  refine (l20Both_any A n c xs _ h1 hn hx).mono ?_
  rintro e w1 ⟨p, q, k, rfl, hb1⟩
  have hR1 : Blk w1 w.heap.size 25 #[.int .i64 0, .int .i64 0] := (hb1.block w.heap.size (by simp)).trans hR0
  have B1 := bstep b0 hb1 b0.size
  obtain ⟨c1, c2, c3, HR⟩ := hR1.after (Below.refl _ _) hR1.lt
  clear h1 hR0 hR1 hb1
  go_wp2_with fail
  have z3 := HR.out.set2 (x := .int .i64 p) (y := .int .i64 q)
  obtain ⟨z4, _, _, _⟩ := z3.after (Below.refl _ _) z3.lt
  exact bodyPost_ret (v := .tuple #[.agg #[.int .i64 p, .int .i64 q], .int .i64 k]) (by simp [results, Try.results29, go_sem, z4]) rfl ⟨_, _, _, rfl, (B1.setCell (Nat.le_refl _) _).setCell (Nat.le_refl _) _⟩

end Go.Proofs.Ytpagfikhcmeciaa
