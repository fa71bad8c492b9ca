/- Draws of fractions. -/
import Derived.Test.YtpagfikhcmeciaaSrcK
import Derived.Test.YtpagfikhcmeciaaMake
import Derived.Test.YtpagfikhcmeciaaInts
import Derived.Deep.DeepCutAuto
namespace Go.Proofs.Ytpagfikhcmeciaa
open Go.RowKit

set_option maxRecDepth 100000 in
set_option maxHeartbeats 2000000 in
theorem l02Draw_any (g B K : Nat) (m : Int) (w : World) (hm : 1 ≤ m ∧ m ≤ 100000) (h : Src w g B (K + 20)) :
    Calls Try.prog 64 #[.pointer (some ⟨g, 0, none⟩), .int .i64 m] w fun e w' => ∃ p q : Int, e = .returned (.agg #[.int .i64 p, .int .i64 q]) ∧ Src w' g B K ∧ w.grownBy w' (some g) := by
  have hgl := h.lt
  have hBg := h.base_
  go_enter Try.func64, Try.ntmps64
  have h0 : Src (w.alloc (.cells #[.int .i64 0, .int .i64 0] 25)) g B (K + 20) := h.alloc _
  have hR0 := Blk.new w 25 #[.int .i64 0, .int .i64 0]
  have hG0 : w.grownBy (w.alloc (.cells #[.int .i64 0, .int .i64 0] 25)) (some g) := World.grownBy_alloc _ _ _
  go_wp2_with fail
  refine (pick_any g B (K + 18) _ _ h0).mono ?_
  rintro e w1 ⟨v, rfl, v0, v1, hs1, hg1⟩
  have hR1 := hR0.grown hg1 (fun e => by injection e; omega)
  have hG1 := gtrans hG0 hg1
  have v2 : v ≤ 2 * m := by omega
  clear h h0 hR0 hG0 hg1 v1
  go_wp2_with fail
  refine (one_any g B (K + 16) _ _ hs1).mono ?_
  rintro e w2 ⟨b, rfl, hs2, hg2⟩
  have hR2 := hR1.grown hg2 (fun e => by injection e; omega)
  have hG2 := gtrans hG1 hg2
  clear hs1 hR1 hG1 hg2
  go_upto_if 14 with fail
  go_cut [5] (fun x wc => ∃ a : Int, x = .int .i64 a ∧ -m ≤ a ∧ a ≤ m ∧ Src wc g B (K + 14) ∧ Blk wc w.heap.size 25 #[.int .i64 0, .int .i64 0] ∧ w.grownBy wc (some g))
  case first =>
    cases b
    · go_wp2_with fail
      go_meet
      case rel => exact ⟨_, rfl, by omega, by omega, hs2.less (by omega), hR2, hG2⟩
    · go_wp2_with fail
      refine (pick_any g B (K + 14) _ _ hs2).mono ?_
      rintro e w3 ⟨u, rfl, u0, u1, hs3, hg3⟩
      go_wp2_with fail
      go_meet
      case rel => exact ⟨_, rfl, by omega, by omega, hs3, hR2.grown hg3 (fun e => by injection e; omega), gtrans hG2 hg3⟩
  case rest =>
    clear hs2 hR2 hG2 v0 v2
    obtain ⟨a, rfl, a0, a1, hs3, hR3, hG3⟩ := hcut
    go_wp2_with fail
    refine (pick_any g B (K + 12) _ _ hs3).mono ?_
    rintro e w4 ⟨u, rfl, u0, u1, hs4, hg4⟩
    have hR4 := hR3.grown hg4 (fun e => by injection e; omega)
    have hG4 := gtrans hG3 hg4
    have hM := l02Make_any a (1 + u)
    generalize a / ((Int.gcd a (1 + u) : Nat) : Int) = x at *
    generalize (1 + u) / ((Int.gcd a (1 + u) : Nat) : Int) = y at *
    clear hs3 hR3 hG3 hg4
    go_wp2_with fail
    refine (hM _ (by omega) (by omega) (by omega)).mono ?_
    rintro e w5 ⟨rfl, b5⟩
    obtain ⟨c1, c2, c3, HR⟩ := hR4.after b5 hR4.lt
    have hs5 := hs4.below_ b5
    have hG5 := gbel hG4 b5
    clear hs4 hR4 hG4 hM b5
    go_wp2_with fail
    have z3 := HR.out.set2 (x := .int .i64 x) (y := .int .i64 y)
    obtain ⟨z4, _, _, _⟩ := z3.after (Below.refl _ _) z3.lt
    refine bodyPost_ret (v := .agg #[.int .i64 x, .int .i64 y]) (by simp [results, Try.results64, go_sem, z4]) rfl ⟨_, _, rfl, ?_, gnew (gnew hG5 (Nat.le_refl _) _) (Nat.le_refl _) _⟩
    exact ((hs5.cells_ _ _ (by omega) (by omega) _).cells_ _ _ (by omega) (by omega) _).less (by omega)

set_option maxRecDepth 100000 in
set_option maxHeartbeats 4000000 in
theorem l02Bent_any (g B K : Nat) (w : World) (h : Src w g B (K + 60)) :
    Calls Try.prog 44 #[.pointer (some ⟨g, 0, none⟩)] w fun e w' => ∃ p q : Int, e = .returned (.agg #[.int .i64 p, .int .i64 q]) ∧ Src w' g B K ∧ w.grownBy w' (some g) := by
  have hgl := h.lt
  have hBg := h.base_
  go_enter Try.func44, Try.ntmps44
  have h0 : Src (w.alloc (.cells #[.int .i64 0, .int .i64 0] 25)) g B (K + 60) := h.alloc _
  have hR0 := Blk.new w 25 #[.int .i64 0, .int .i64 0]
  have hG0 : w.grownBy (w.alloc (.cells #[.int .i64 0, .int .i64 0] 25)) (some g) := World.grownBy_alloc _ _ _
  go_wp2_with fail
  refine (l02Draw_any g B (K + 40) _ _ (by omega) h0).mono ?_
  rintro e w1 ⟨p, q, rfl, hs1, hg1⟩
  have hR1 := (hR0.grown hg1 (fun e => by injection e; omega)).alloc (.cells #[.int .i64 p, .int .i64 q] 25)
  have hT1 := Blk.new w1 25 #[.int .i64 p, .int .i64 q]
  have hG1 := gtrans (gtrans hG0 hg1) (World.grownBy_alloc w1 (.cells #[.int .i64 p, .int .i64 q] 25) (some g))
  have hs1' : Src (w1.alloc (.cells #[.int .i64 p, .int .i64 q] 25)) g B (K + 40) := hs1.alloc _
  have hbt : w.heap.size < w1.heap.size ∧ g < w1.heap.size := ⟨by have := hg1.size; simp at this; omega, hs1.lt⟩
  clear h h0 hR0 hG0 hg1 hs1
  go_wp2_with fail
  refine (pick_any g B (K + 38) _ _ hs1').mono ?_
  rintro e w2 ⟨v, rfl, v0, v1, hs2, hg2⟩
  have hR2 := hR1.grown hg2 (fun e => by injection e; omega)
  have hT2 := hT1.grown hg2 (fun e => by injection e; omega)
  have hG2 := gtrans hG1 hg2
  generalize w1.heap.size = bt at *
  clear hs1' hR1 hT1 hG1 hg2
  obtain ⟨a1, a2, a3, HT⟩ := hT2.after (Below.refl _ _) hT2.lt
  obtain ⟨c1, c2, c3, HR⟩ := hR2.after (Below.refl _ _) hR2.lt
  have x0 := a1 0
  have x1 := a1 1
  have y0 := c1 0
  have y1 := c1 1
  clear a1 c1 hR2 hT2
  go_wp2_with fail
  · refine (among_new g B (K + 30) _ _ _ (hs2.less (by omega)) (by rfl) (by rfl) (by omega) (by omega)).mono ?_
    rintro e w5 ⟨s, rfl, hs5, hg5⟩
    have hR5 := HR.out.grown hg5 (fun e => by injection e; omega)
    have hT5 := HT.out.grown hg5 (fun e => by injection e; omega)
    have hG5 := gtrans hG2 hg5
    obtain ⟨a1, _, _, HT5⟩ := hT5.after (Below.refl _ _) hT5.lt
    obtain ⟨c1, _, _, HR5⟩ := hR5.after (Below.refl _ _) hR5.lt
    have x0 := a1 0
    have x1 := a1 1
    have y0 := c1 0
    have y1 := c1 1
    clear a1 c1 hR5 hT5 hs2 hg5 hG2
    go_wp2_with fail
    have z3 := (HR5.out.far (p := ⟨bt, 0, none⟩) (by show w.heap.size ≠ bt; omega) (.int .i64 s)).set2 (x := .int .i64 s) (y := .int .i64 q)
    obtain ⟨z4, _, _, _⟩ := z3.after (Below.refl _ _) z3.lt
    refine bodyPost_ret (v := .agg #[.int .i64 s, .int .i64 q]) (by simp [results, Try.results44, go_sem, z4]) rfl ⟨_, _, rfl, ?_, gnew (gnew (gnew hG5 (by omega) _) (Nat.le_refl _) _) (Nat.le_refl _) _⟩
    exact (((hs5.cells_ bt 0 (by omega) (by omega) _).cells_ _ _ (by omega) (by omega) _).cells_ _ _ (by omega) (by omega) _).less (by omega)
  · refine (among_new g B (K + 30) _ _ _ (hs2.less (by omega)) (by rfl) (by rfl) (by omega) (by omega)).mono ?_
    rintro e w5 ⟨s, rfl, hs5, hg5⟩
    have hR5 := HR.out.grown hg5 (fun e => by injection e; omega)
    have hT5 := HT.out.grown hg5 (fun e => by injection e; omega)
    have hG5 := gtrans hG2 hg5
    obtain ⟨a1, _, _, HT5⟩ := hT5.after (Below.refl _ _) hT5.lt
    obtain ⟨c1, _, _, HR5⟩ := hR5.after (Below.refl _ _) hR5.lt
    have x0 := a1 0
    have x1 := a1 1
    have y0 := c1 0
    have y1 := c1 1
    clear a1 c1 hR5 hT5 hs2 hg5 hG2
    go_wp2_with fail
    have z3 := (HR5.out.far (p := ⟨bt, 1, none⟩) (by show w.heap.size ≠ bt; omega) (.int .i64 s)).set2 (x := .int .i64 p) (y := .int .i64 s)
    obtain ⟨z4, _, _, _⟩ := z3.after (Below.refl _ _) z3.lt
    refine bodyPost_ret (v := .agg #[.int .i64 p, .int .i64 s]) (by simp [results, Try.results44, go_sem, z4]) rfl ⟨_, _, rfl, ?_, gnew (gnew (gnew hG5 (by omega) _) (Nat.le_refl _) _) (Nat.le_refl _) _⟩
    exact (((hs5.cells_ bt 1 (by omega) (by omega) _).cells_ _ _ (by omega) (by omega) _).cells_ _ _ (by omega) (by omega) _).less (by omega)
  · have z3 := HR.out.set2 (x := .int .i64 2) (y := .int .i64 4)
    obtain ⟨z4, _, _, _⟩ := z3.after (Below.refl _ _) z3.lt
    refine bodyPost_ret (v := .agg #[.int .i64 2, .int .i64 4]) (by simp [results, Try.results44, go_sem, z4]) rfl ⟨_, _, rfl, ?_, gnew (gnew hG2 (Nat.le_refl _) _) (Nat.le_refl _) _⟩
    exact ((hs2.cells_ _ _ (by omega) (by omega) _).cells_ _ _ (by omega) (by omega) _).less (by omega)
  · refine (pick_any g B (K + 30) _ _ (hs2.less (by omega))).mono ?_
    rintro e w3 ⟨u, rfl, u0, u1, hs3, hg3⟩
    have hR3 := HR.out.grown hg3 (fun e => by injection e; omega)
    have hT3 := HT.out.grown hg3 (fun e => by injection e; omega)
    have hG3 := gtrans hG2 hg3
    clear x0 x1 y0 y1 hs2 hg3 hG2
    go_wp2_with fail
    refine (pick_any g B (K + 28) _ _ hs3).mono ?_
    rintro e w4 ⟨s, rfl, s0, s1, hs4, hg4⟩
    have hR4 := hR3.grown hg4 (fun e => by injection e; omega)
    have hT4 := hT3.grown hg4 (fun e => by injection e; omega)
    have hG4 := gtrans hG3 hg4
    have hM := l02Make_any (1000000000 - u) (1000000000 - s)
    generalize (1000000000 - u) / ((Int.gcd (1000000000 - u) (1000000000 - s) : Nat) : Int) = x at *
    generalize (1000000000 - s) / ((Int.gcd (1000000000 - u) (1000000000 - s) : Nat) : Int) = y at *
    clear hs3 hR3 hT3 hG3 hg4
    go_wp2_with fail
    refine (hM _ (by omega) (by omega) (by omega)).mono ?_
    rintro e w5 ⟨rfl, b5⟩
    obtain ⟨a1, _, _, HT5⟩ := hT4.after b5 hT4.lt
    obtain ⟨c1, _, _, HR5⟩ := hR4.after b5 hR4.lt
    have hs5 := hs4.below_ b5
    have hG5 := gbel hG4 b5
    have x0 := a1 0
    have x1 := a1 1
    have y0 := c1 0
    have y1 := c1 1
    clear a1 c1 hs4 hR4 hT4 hG4 hM b5
    go_wp2_with fail
    have z3 := ((HR5.out.far (p := ⟨bt, 0, none⟩) (by show w.heap.size ≠ bt; omega) (.int .i64 x)).far (p := ⟨bt, 1, none⟩) (by show w.heap.size ≠ bt; omega) (.int .i64 y)).set2 (x := .int .i64 x) (y := .int .i64 y)
    obtain ⟨z4, _, _, _⟩ := z3.after (Below.refl _ _) z3.lt
    refine bodyPost_ret (v := .agg #[.int .i64 x, .int .i64 y]) (by simp [results, Try.results44, go_sem, z4]) rfl ⟨_, _, rfl, ?_, gnew (gnew (gnew (gnew hG5 (by omega) _) (by omega) _) (Nat.le_refl _) _) (Nat.le_refl _) _⟩
    exact ((((hs5.cells_ bt 0 (by omega) (by omega) _).cells_ bt 1 (by omega) (by omega) _).cells_ _ _ (by omega) (by omega) _).cells_ _ _ (by omega) (by omega) _).less (by omega)
  · have z3 := HR.out.set2 (x := .int .i64 p) (y := .int .i64 q)
    obtain ⟨z4, _, _, _⟩ := z3.after (Below.refl _ _) z3.lt
    refine bodyPost_ret (v := .agg #[.int .i64 p, .int .i64 q]) (by simp [results, Try.results44, go_sem, z4]) rfl ⟨_, _, rfl, ?_, gnew (gnew hG2 (Nat.le_refl _) _) (Nat.le_refl _) _⟩
    exact ((hs2.cells_ _ _ (by omega) (by omega) _).cells_ _ _ (by omega) (by omega) _).less (by omega)

end Go.Proofs.Ytpagfikhcmeciaa
