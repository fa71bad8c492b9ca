/- Draws for the laws on best fractions and intermediate ones. -/
import Derived.Test.YtnjilpldfidbjaaDrwF
import Derived.Test.YtnjilpldfidbjaaStpJ
namespace Go.Proofs.Ytnjilpldfidbjaa
open Go.RowKit

/-- What a draw from bytes gives. -/
theorem below_two {w : World} {a b : Array Value} {t : TypeId} : Below w.heap.size w ((w.alloc (.cells a t)).alloc (.cells b t)) := by go_grown

set_option maxRecDepth 100000 in
set_option maxHeartbeats 2000000 in
theorem l19Big_any (g B K : Nat) (w : World) (h : Src w g B (K + 80)) :
    Calls Try.prog 46 #[.pointer (some ⟨g, 0, none⟩)] w fun e w' => ∃ p q : Int, e = .returned (.agg #[.int .i64 p, .int .i64 q]) ∧ Src w' g B K ∧ w.grownBy w' (some g) := by
  have hgl := h.lt
  have hBg := h.base_
  go_enter Try.func46, Try.ntmps46
  have h0 : Src (w.alloc (.cells #[.int .i64 0, .int .i64 0] 25)) g B (K + 80) := h.alloc _
  have hR0 := Blk.new w 25 #[.int .i64 0, .int .i64 0]
  have hG0 : w.grownBy (w.alloc (.cells #[.int .i64 0, .int .i64 0] 25)) (some g) := World.grownBy_alloc _ _ _
  go_wp2_with fail
  refine (one_any g B (K + 78) _ _ h0).mono ?_
  rintro e w1 ⟨b, rfl, hs1, hg1⟩
  have hR1 := hR0.grown hg1 (fun e => by injection e; omega)
  have hG1 := gtrans hG0 hg1
  clear h h0 hR0 hG0 hg1
  cases b
  · go_wp2_with fail
    refine (l02Bent_any g B K _ (hs1.less (by omega))).mono ?_
    rintro e w2 ⟨p, q, rfl, hs2, hg2⟩
    have hR2 := hR1.grown hg2 (fun e => by injection e; omega)
    have hG2 := gtrans hG1 hg2
    obtain ⟨c1, c2, c3, HR⟩ := hR2.after (Below.refl _ _) hR2.lt
    clear hs1 hR1 hG1 hg2 hR2
    go_wp2_with fail
    have z3 := HR.out.set2 (x := .int .i64 p) (y := .int .i64 q)
    obtain ⟨z4, _, _, _⟩ := z3.after (Below.refl _ _) z3.lt
    refine bodyPost_ret (v := .agg #[.int .i64 p, .int .i64 q]) (by simp [results, Try.results46, go_sem, z4]) rfl ⟨_, _, rfl, ?_, gnew (gnew hG2 (Nat.le_refl _) _) (Nat.le_refl _) _⟩
    exact (hs2.cells_ _ _ (by omega) (by omega) _).cells_ _ _ (by omega) (by omega) _
  · go_wp2_with fail
    refine (pick_any g B (K + 70) _ _ (hs1.less (by omega))).mono ?_
    rintro e w2 ⟨u, rfl, u0, u1, hs2, hg2⟩
    have hR2 := hR1.grown hg2 (fun e => by injection e; omega)
    have hG2 := gtrans hG1 hg2
    clear hs1 hR1 hG1 hg2
    go_wp2_with fail
    refine (pick_any g B (K + 68) _ _ hs2).mono ?_
    rintro e w3 ⟨s, rfl, s0, s1, hs3, hg3⟩
    have hR3 := hR2.grown hg3 (fun e => by injection e; omega)
    have hG3 := gtrans hG2 hg3
    have hM := l02Make_any (1 + u) (1000 + s)
    generalize (1 + u) / ((Int.gcd (1 + u) (1000 + s) : Nat) : Int) = x at *
    generalize (1000 + s) / ((Int.gcd (1 + u) (1000 + s) : Nat) : Int) = y at *
    clear hs2 hR2 hG2 hg3
    go_wp2_with fail
    refine (hM _ (by omega) (by omega) (by omega)).mono ?_
    rintro e w4 ⟨rfl, b4⟩
    obtain ⟨c1, c2, c3, HR⟩ := hR3.after b4 hR3.lt
    have hs4 := hs3.below_ b4
    have hG4 := gbel hG3 b4
    clear hs3 hR3 hG3 hM b4
    go_wp2_with fail
    have z3 := HR.out.set2 (x := .int .i64 x) (y := .int .i64 y)
    obtain ⟨z4, _, _, _⟩ := z3.after (Below.refl _ _) z3.lt
    refine bodyPost_ret (v := .agg #[.int .i64 x, .int .i64 y]) (by simp [results, Try.results46, go_sem, z4]) rfl ⟨_, _, rfl, ?_, gnew (gnew hG4 (Nat.le_refl _) _) (Nat.le_refl _) _⟩
    exact ((hs4.cells_ _ _ (by omega) (by omega) _).cells_ _ _ (by omega) (by omega) _).less (by omega)

theorem drawIntermediatesOf_any (A : Option Addr) (n c : Nat) (xs : List Int) (w : World) (h : Rd w w.heap.size 1 A n (u8l xs)) (hn : n ≤ 9223372036854775807) (hx : ∀ x ∈ xs, 0 ≤ x ∧ x ≤ 255) :
    Calls Try.prog 20 #[.slice A n c] w fun e w' => ∃ p q : Int, e = .returned (.agg #[.int .i64 p, .int .i64 q]) ∧ Below w.heap.size w w' := by
  go_enter Try.func20, Try.ntmps20
  have b0 : Below w.heap.size w (w.alloc (.cells #[.int .i64 0, .int .i64 0] 25)) := by go_grown
  have hR0 := Blk.new w 25 #[.int .i64 0, .int .i64 0]
  have h1 := (h.below b0).more b0.size
  go_wp2_with fail
  refine (l00From_any A n c xs _ h1 hn hx).mono ?_
  rintro e w1 ⟨g, rfl, hs1, hb1⟩
  have hR1 : Blk w1 w.heap.size 25 #[.int .i64 0, .int .i64 0] := (hb1.block w.heap.size (by simp)).trans hR0
  have hgg := hs1.base_
  simp at hgg
  have B1 := bstep b0 hb1 b0.size
  clear h1 hR0
  go_wp2_with fail
  refine (l19Big_any g _ 100 _ (hs1.less (by omega))).mono ?_
  rintro e w2 ⟨p, q, rfl, hs2, hg2⟩
  have hR2 := hR1.grown hg2 (fun e => by injection e; omega)
  have B2 : Below w.heap.size w w2 := belSrc B1 hs1 (by simp) hg2
  obtain ⟨c1, c2, c3, HR⟩ := hR2.after (Below.refl _ _) hR2.lt
  clear hR1 hR2 hs1 hg2
  go_wp2_with fail
  have z3 := HR.out.set2 (x := .int .i64 p) (y := .int .i64 q)
  obtain ⟨z4, _, _, _⟩ := z3.after (Below.refl _ _) z3.lt
  exact bodyPost_ret (v := .agg #[.int .i64 p, .int .i64 q]) (by simp [results, Try.results20, go_sem, z4]) rfl ⟨_, _, rfl, (B2.setCell (Nat.le_refl _) _).setCell (Nat.le_refl _) _⟩

set_option maxRecDepth 100000 in
set_option maxHeartbeats 2000000 in
theorem l02Both_any (g B K : Nat) (w : World) (h : Src w g B (K + 140)) :
    Calls Try.prog 65 #[.pointer (some ⟨g, 0, none⟩)] w fun e w' => ∃ p q r s : Int, e = .returned (.tuple #[.agg #[.int .i64 p, .int .i64 q], .agg #[.int .i64 r, .int .i64 s]]) ∧ Src w' g B K ∧ w.grownBy w' (some g) := by
  have hgl := h.lt
  have hBg := h.base_
  go_enter Try.func65, Try.ntmps65
  have h0 : Src ((w.alloc (.cells #[.int .i64 0, .int .i64 0] 25)).alloc (.cells #[.int .i64 0, .int .i64 0] 25)) g B (K + 80 + 60) := (h.alloc _).alloc _
  have hR0 := (Blk.new w 25 #[.int .i64 0, .int .i64 0]).alloc (.cells #[.int .i64 0, .int .i64 0] 25)
  have hQ0 : Blk ((w.alloc (.cells #[.int .i64 0, .int .i64 0] 25)).alloc (.cells #[.int .i64 0, .int .i64 0] 25)) (w.heap.size + 1) 25 #[.int .i64 0, .int .i64 0] := Blk.newAt (by simp)
  have hG0 : w.grownBy ((w.alloc (.cells #[.int .i64 0, .int .i64 0] 25)).alloc (.cells #[.int .i64 0, .int .i64 0] 25)) (some g) := gtrans (World.grownBy_alloc _ _ _) (World.grownBy_alloc _ _ _)
  go_wp2_with fail
  refine (l02Bent_any g B (K + 80) _ h0).mono ?_
  rintro e w1 ⟨p, q, rfl, hs1, hg1⟩
  have hR1 := (hR0.grown hg1 (fun e => by injection e; omega)).alloc (.cells #[.int .i64 p, .int .i64 q] 25)
  have hQ1 := (hQ0.grown hg1 (fun e => by injection e; omega)).alloc (.cells #[.int .i64 p, .int .i64 q] 25)
  have hT1 := Blk.new w1 25 #[.int .i64 p, .int .i64 q]
  have hG1 := gtrans (gtrans hG0 hg1) (World.grownBy_alloc w1 (.cells #[.int .i64 p, .int .i64 q] 25) (some g))
  have hs1' : Src (w1.alloc (.cells #[.int .i64 p, .int .i64 q] 25)) g B (K + 78 + 2) := hs1.alloc _
  have hbt : w.heap.size + 1 < w1.heap.size ∧ g < w1.heap.size := ⟨by have := hg1.size; simp at this; omega, hs1.lt⟩
  clear h h0 hR0 hQ0 hG0 hg1 hs1
  go_wp2_with fail
  refine (one_any g B (K + 78) _ _ hs1').mono ?_
  rintro e w2 ⟨b, rfl, hs2, hg2⟩
  have hR2 := hR1.grown hg2 (fun e => by injection e; omega)
  have hQ2 := hQ1.grown hg2 (fun e => by injection e; omega)
  have hT2 := hT1.grown hg2 (fun e => by injection e; omega)
  have hG2 := gtrans hG1 hg2
  generalize w1.heap.size = bt at *
  clear hs1' hR1 hQ1 hT1 hG1 hg2
  obtain ⟨a1, a2, a3, HT⟩ := hT2.after (Below.refl _ _) hT2.lt
  obtain ⟨c1, c2, c3, HR⟩ := hR2.after (Below.refl _ _) hR2.lt
  obtain ⟨d1, d2, d3, HQ⟩ := hQ2.after (Below.refl _ _) hQ2.lt
  have x0 := a1 0
  have x1 := a1 1
  clear a1 hR2 hQ2 hT2
  cases b
  · have hsd : Src w2.drew g B (K + 18 + 60) := hs2.less (by omega)
    go_wp2_with fail
    go_region_with (first
      | (go_at_call 55; refine (l02Bent_any g B (K + 18) _ hsd).mono ?_; rintro e w3 ⟨r, s, rfl, hs3, hg3'⟩; have hg3 : w2.grownBy w3 (some g) := gtrans (gdrewN w2 1 _) hg3'; have hR3 := HR.out.grown hg3 (fun e => by injection e; omega); have hQ3 := HQ.out.grown hg3 (fun e => by injection e; omega); have hT3 := HT.out.grown hg3 (fun e => by injection e; omega); obtain ⟨f1, _, _, _⟩ := hT3.after (Below.refl _ _) hT3.lt; obtain ⟨k1, _, _, HR3⟩ := hR3.after (Below.refl _ _) hR3.lt; obtain ⟨l1, _, _, HQ3⟩ := hQ3.after (Below.refl _ _) hQ3.lt; have x2 := f1 0; have x3 := f1 1; clear f1 hR3 hQ3 hT3 hg3'))
    all_goals
      go_wp2_with fail
      have z3 := (((HR3.out.set2 (x := .int .i64 p) (y := .int .i64 q)).far (p := ⟨w.heap.size + 1, 0, none⟩) (by show w.heap.size ≠ w.heap.size + 1; omega) (.int .i64 r)).far (p := ⟨w.heap.size + 1, 1, none⟩) (by show w.heap.size ≠ w.heap.size + 1; omega) (.int .i64 s))
      have z5 := ((HQ3.out.far (p := ⟨w.heap.size, 0, none⟩) (by show w.heap.size + 1 ≠ w.heap.size; omega) (.int .i64 p)).far (p := ⟨w.heap.size, 1, none⟩) (by show w.heap.size + 1 ≠ w.heap.size; omega) (.int .i64 q)).set2 (x := .int .i64 r) (y := .int .i64 s)
      obtain ⟨z4, _, _, _⟩ := z3.after (Below.refl _ _) z3.lt
      obtain ⟨z6, _, _, _⟩ := z5.after (Below.refl _ _) z5.lt
      refine bodyPost_ret (v := .tuple #[.agg #[.int .i64 p, .int .i64 q], .agg #[.int .i64 r, .int .i64 s]]) (by simp [results, Try.results65, go_sem, z4, z6]) rfl ⟨_, _, _, _, rfl, ?_, gnew (gnew (gnew (gnew (gtrans hG2 hg3) (Nat.le_refl _) _) (Nat.le_refl _) _) (by omega) _) (by omega) _⟩
      exact ((((hs3.cells_ _ _ (by omega) (by omega) _).cells_ _ _ (by omega) (by omega) _).cells_ _ _ (by omega) (by omega) _).cells_ _ _ (by omega) (by omega) _).less (by omega)
  · have k0 := c1 0
    have k1 := c1 1
    have l0 := d1 0
    have l1 := d1 1
    clear c1 d1
    go_wp2_with fail
    go_region
    all_goals
      go_wp2_with fail
      have z3 := (((HR.out.set2 (x := .int .i64 p) (y := .int .i64 q)).far (p := ⟨w.heap.size + 1, 0, none⟩) (by show w.heap.size ≠ w.heap.size + 1; omega) (.int .i64 p)).far (p := ⟨w.heap.size + 1, 1, none⟩) (by show w.heap.size ≠ w.heap.size + 1; omega) (.int .i64 q))
      have z5 := ((HQ.out.far (p := ⟨w.heap.size, 0, none⟩) (by show w.heap.size + 1 ≠ w.heap.size; omega) (.int .i64 p)).far (p := ⟨w.heap.size, 1, none⟩) (by show w.heap.size + 1 ≠ w.heap.size; omega) (.int .i64 q)).set2 (x := .int .i64 p) (y := .int .i64 q)
      obtain ⟨z4, _, _, _⟩ := z3.after (Below.refl _ _) z3.lt
      obtain ⟨z6, _, _, _⟩ := z5.after (Below.refl _ _) z5.lt
      refine bodyPost_ret (v := .tuple #[.agg #[.int .i64 p, .int .i64 q], .agg #[.int .i64 p, .int .i64 q]]) (by simp [results, Try.results65, go_sem, z4, z6]) rfl ⟨_, _, _, _, rfl, ?_, ?_⟩
      · exact ((((hs2.cells_ _ _ (by omega) (by omega) _).cells_ _ _ (by omega) (by omega) _).cells_ _ _ (by omega) (by omega) _).cells_ _ _ (by omega) (by omega) _).less (by omega)
      · exact gtrans (gnew (b := w.heap.size + 1) (gnew (b := w.heap.size + 1) (gnew (gnew hG2 (Nat.le_refl _) _) (Nat.le_refl _) _) (Nat.le_succ _) _) (Nat.le_succ _) _) (gdrew _ _)

theorem drawErrorTimes_any (A : Option Addr) (n c : Nat) (xs : List Int) (w : World) (h : Rd w w.heap.size 1 A n (u8l xs)) (hn : n ≤ 9223372036854775807) (hx : ∀ x ∈ xs, 0 ≤ x ∧ x ≤ 255) :
    Calls Try.prog 29 #[.slice A n c] w fun e w' => ∃ p q r s : Int, e = .returned (.tuple #[.agg #[.int .i64 p, .int .i64 q], .agg #[.int .i64 r, .int .i64 s]]) ∧ Below w.heap.size w w' := by
  go_enter Try.func29, Try.ntmps29
  have b0 : Below w.heap.size w ((w.alloc (.cells #[.int .i64 0, .int .i64 0] 25)).alloc (.cells #[.int .i64 0, .int .i64 0] 25)) := by go_grown
  have hR0 := (Blk.new w 25 #[.int .i64 0, .int .i64 0]).alloc (.cells #[.int .i64 0, .int .i64 0] 25)
  have hQ0 : Blk ((w.alloc (.cells #[.int .i64 0, .int .i64 0] 25)).alloc (.cells #[.int .i64 0, .int .i64 0] 25)) (w.heap.size + 1) 25 #[.int .i64 0, .int .i64 0] := Blk.newAt (by simp)
  have h1 := (h.below b0).more b0.size
  go_wp2_with fail
  refine (l00From_any A n c xs _ h1 hn hx).mono ?_
  rintro e w1 ⟨g, rfl, hs1, hb1⟩
  have hR1 : Blk w1 w.heap.size 25 #[.int .i64 0, .int .i64 0] := (hb1.block w.heap.size (by simp; omega)).trans hR0
  have hQ1 : Blk w1 (w.heap.size + 1) 25 #[.int .i64 0, .int .i64 0] := (hb1.block (w.heap.size + 1) (by simp)).trans hQ0
  have hgg := hs1.base_
  simp at hgg
  have B1 := bstep b0 hb1 b0.size
  clear h1 hR0 hQ0
  go_wp2_with fail
  refine (l02Both_any g _ 100 _ (hs1.less (by omega))).mono ?_
  rintro e w2 ⟨p, q, r, s, rfl, hs2, hg2⟩
  have hR2 := hR1.grown hg2 (fun e => by injection e; omega)
  have hQ2 := hQ1.grown hg2 (fun e => by injection e; omega)
  have B2 : Below w.heap.size w w2 := belSrc B1 hs1 (by simp; omega) hg2
  obtain ⟨c1, c2, c3, HR⟩ := hR2.after (Below.refl _ _) hR2.lt
  obtain ⟨d1, d2, d3, HQ⟩ := hQ2.after (Below.refl _ _) hQ2.lt
  clear hR1 hR2 hQ1 hQ2 hs1 hg2
  go_wp2_with fail
  have z3 := (((HR.out.set2 (x := .int .i64 p) (y := .int .i64 q)).far (p := ⟨w.heap.size + 1, 0, none⟩) (by show w.heap.size ≠ w.heap.size + 1; omega) (.int .i64 r)).far (p := ⟨w.heap.size + 1, 1, none⟩) (by show w.heap.size ≠ w.heap.size + 1; omega) (.int .i64 s))
  have z5 := ((HQ.out.far (p := ⟨w.heap.size, 0, none⟩) (by show w.heap.size + 1 ≠ w.heap.size; omega) (.int .i64 p)).far (p := ⟨w.heap.size, 1, none⟩) (by show w.heap.size + 1 ≠ w.heap.size; omega) (.int .i64 q)).set2 (x := .int .i64 r) (y := .int .i64 s)
  obtain ⟨z4, _, _, _⟩ := z3.after (Below.refl _ _) z3.lt
  obtain ⟨z6, _, _, _⟩ := z5.after (Below.refl _ _) z5.lt
  exact bodyPost_ret (v := .tuple #[.agg #[.int .i64 p, .int .i64 q], .agg #[.int .i64 r, .int .i64 s]]) (by simp [results, Try.results29, go_sem, z4, z6]) rfl ⟨_, _, _, _, rfl, (((B2.setCell (Nat.le_refl _) _).setCell (Nat.le_refl _) _).setCell (Nat.le_succ _) _).setCell (Nat.le_succ _) _⟩

set_option maxRecDepth 100000 in
set_option maxHeartbeats 2000000 in
theorem drawStepsBetween_any (A : Option Addr) (n c : Nat) (xs : List Int) (w : World) (h : Rd w w.heap.size 1 A n (u8l xs)) (hn : n ≤ 9223372036854775807) (hx : ∀ x ∈ xs, 0 ≤ x ∧ x ≤ 255) :
    Calls Try.prog 26 #[.slice A n c] w fun e w' => ∃ p q k : Int, e = .returned (.tuple #[.agg #[.int .i64 p, .int .i64 q], .int .i64 k]) ∧ Below w.heap.size w w' := by
  go_enter Try.func26, Try.ntmps26
  have b0 : Below w.heap.size w (w.alloc (.cells #[.int .i64 0, .int .i64 0] 25)) := by go_grown
  have hR0 := Blk.new w 25 #[.int .i64 0, .int .i64 0]
  have h1 := (h.below b0).more b0.size
  go_wp2_with fail
  refine (l00From_any A n c xs _ h1 hn hx).mono ?_
  rintro e w1 ⟨g, rfl, hs1, hb1⟩
  have hR1 : Blk w1 w.heap.size 25 #[.int .i64 0, .int .i64 0] := (hb1.block w.heap.size (by simp)).trans hR0
  have hgg := hs1.base_
  simp at hgg
  have B1 := bstep b0 hb1 b0.size
  clear h1 hR0
  go_wp2_with fail
  refine (l19Big_any g _ 200 _ (hs1.less (by omega))).mono ?_
  rintro e w2 ⟨p, q, rfl, hs2, hg2⟩
  have hR2 := (hR1.grown hg2 (fun e => by injection e; omega)).alloc (.cells #[.int .i64 p, .int .i64 q] 25)
  have hT2 := Blk.new w2 25 #[.int .i64 p, .int .i64 q]
  have B2 : Below w.heap.size w w2 := belSrc B1 hs1 (by simp) hg2
  have B2' : Below w.heap.size w (w2.alloc (.cells #[.int .i64 p, .int .i64 q] 25)) := B2.alloc B2.size _
  have hs2' : Src (w2.alloc (.cells #[.int .i64 p, .int .i64 q] 25)) g (w.alloc (.cells #[.int .i64 0, .int .i64 0] 25)).heap.size 200 := hs2.alloc _
  have hne : w2.heap.size ≠ g := by have := hs2.lt; omega
  have hne2 : w.heap.size < w2.heap.size := by have := hs2.lt; omega
  clear hR1 hs1 hg2 hs2 B2 B1 b0 hb1
  obtain ⟨a1, a2, a3, HT⟩ := hT2.after (Below.refl _ _) hT2.lt
  obtain ⟨c1, c2, c3, HR⟩ := hR2.after (Below.refl _ _) hR2.lt
  have x0 := a1 0
  have x1 := a1 1
  clear a1 hR2 hT2
  go_wp2_with fail
  generalize w2.heap.size = bt at *
  generalize w2.alloc (.cells #[.int .i64 p, .int .i64 q] 25) = w3 at *
  have hsd : Src w3.drew g (w.alloc (.cells #[.int .i64 0, .int .i64 0] 25)).heap.size (100 + 2) := hs2'.less (by omega)
  go_region_with (first
    | (go_at_call 54; (with_reducible refine (pick_any g _ 100 _ w3.drew hsd).mono ?_); rintro e w4 ⟨u, rfl, u0, u1, hs4, hg4'⟩; have hg4 : w3.grownBy w4 (some g) := gtrans (gdrewN w3 1 _) hg4'; have hR4 := HR.out.grown hg4 (fun e => by injection e; omega); have hT4 := HT.out.grown hg4 (fun e => by injection e; omega); obtain ⟨f1, _, _, HT4⟩ := hT4.after (Below.refl _ _) hT4.lt; have x2 := f1 0; have x3 := f1 1; have hsd4 := hs4.less (show 98 + 2 ≤ 100 by omega); clear f1 hT4 hg4')
    | (go_at_call 54; (with_reducible refine (pick_any g _ 98 _ w4 hsd4).mono ?_); rintro e w5 ⟨s, rfl, s0, s1, hs5, hg5⟩; have hR5 := hR4.grown hg5 (fun e => by injection e; omega); have hT5 := HT4.out.grown hg5 (fun e => by injection e; omega); obtain ⟨f1, _, _, _⟩ := hT5.after (Below.refl _ _) hT5.lt; obtain ⟨k1, _, _, HR5⟩ := hR5.after (Below.refl _ _) hR5.lt; have x4 := f1 0; have x5 := f1 1; clear f1 hR5 hT5))
  all_goals
    have B4 := B2'.grown hg4 B2'.size (fun k hk => by injection hk; omega)
    have B5 := B4.grown hg5 B4.size (fun k hk => by injection hk; omega)
    go_wp2_with fail
    have z3 := HR5.out.set2 (x := .int .i64 p) (y := .int .i64 q)
    obtain ⟨z4, _, _, _⟩ := z3.after (Below.refl _ _) z3.lt
    exact bodyPost_ret (v := .tuple #[.agg #[.int .i64 p, .int .i64 q], .int .i64 (IntKind.i64.wrap (u - IntKind.i64.wrap (s.tdiv 11)))]) (by simp [results, Try.results26, go_sem, z4]) rfl ⟨_, _, _, rfl, (B5.setCell (Nat.le_refl _) _).setCell (Nat.le_refl _) _⟩

end Go.Proofs.Ytnjilpldfidbjaa
