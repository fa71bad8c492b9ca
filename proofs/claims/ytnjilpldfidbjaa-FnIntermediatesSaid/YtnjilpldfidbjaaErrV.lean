/- ErrorTimes in the reference. -/
import Derived.Test.YtnjilpldfidbjaaErrU
namespace Go.Proofs.Ytnjilpldfidbjaa
open Go.RowKit

theorem l08Big_any (a b : Int) (w : World) (ha : -1000000000 ≤ a ∧ a ≤ 1000000000) (hb : 1 ≤ b ∧ b ≤ 1000000000) :
    Calls Try.prog 69 #[.int .i64 a, .int .i64 b] w fun e w' => e = .returned (.bool true) ∧ w = w' := by
  by_cases h0 : a = 0
  · subst h0
    go_enter Try.func69, Try.ntmps69
    go_wp2_with fail
    go_ret
    exact ⟨rfl, rfl⟩
  · have hz : (a == 0) = false := beq_eq_false_iff_ne.2 h0
    have h1 := sz_bd (x := a) (M := 1000000000) ha
    have h2 : 1 ≤ sz a := by have := sz_nat a; omega
    have e2 : sz b = b := by unfold sz; rw [if_neg (by omega)]
    have e3 : Int.tdiv 1000000000000000000 (sz a) = 1000000000000000000 / sz a := Int.tdiv_eq_ediv_of_nonneg (by omega)
    have h3 : 1000000000 ≤ 1000000000000000000 / sz a := (Int.le_ediv_iff_mul_le (by omega)).2 (by omega)
    have h4 : 1000000000000000000 / sz a ≤ 1000000000000000000 := Int.ediv_le_self _ (by omega)
    have hA1 := fun w => specSize_any a w (by omega) (by omega)
    have hB1 := fun w => specSize_any b w (by omega) (by omega)
    rw [e2] at hB1
    generalize sz a = A at *
    have hA : ¬ A = 0 := by omega
    generalize hq : 1000000000000000000 / A = Q at *
    have e4 : IntKind.i64.wrap Q = Q := IntWalk.i64_in _ (by omega)
    have hd : decide (b ≤ Q) = true := decide_eq_true (by omega)
    clear hq e2
    go_enter Try.func69, Try.ntmps69
    go_wp2_with fail
    refine (hB1 _).mono ?_
    rintro e w1 ⟨rfl, rfl⟩
    go_wp2_with fail
    refine (hA1 _).mono ?_
    rintro e w1 ⟨rfl, rfl⟩
    go_wp2_with fail
    go_ret
    exact ⟨rfl, rfl⟩

theorem l02Two_any (p q r s : Int) (w : World) :
    Calls Try.prog 68 #[.agg #[.int .i64 p, .int .i64 q], .agg #[.int .i64 r, .int .i64 s]] w fun e w' => e = .returned (.int .i64 (if okF p q = true ∧ okF r s = true then 0 else 1)) ∧ Below w.heap.size w w' := by
  have hV1 := l02Ok_any p q
  have hV2 := l02Ok_any r s
  have B0 : Below w.heap.size w ((w.alloc (.cells #[.int .i64 p, .int .i64 q] 25)).alloc (.cells #[.int .i64 r, .int .i64 s] 25)) := by go_grown
  have hX0 : Blk ((w.alloc (.cells #[.int .i64 p, .int .i64 q] 25)).alloc (.cells #[.int .i64 r, .int .i64 s] 25)) (w.heap.size + 1) 25 #[.int .i64 r, .int .i64 s] := Blk.newAt (by simp)
  by_cases h1 : okF p q = true
  · rw [h1] at hV1
    generalize h2 : okF r s = k at *
    have hR : (if okF p q = true ∧ k = true then (0 : Int) else 1) = if k = true then 0 else 1 := by rw [h1]; simp
    rw [hR]
    clear hR h1 h2
    go_enter Try.func68, Try.ntmps68
    go_wp2_with fail
    refine (hV1 _).mono ?_
    rintro e w1 ⟨rfl, b1⟩
    have B1 := bstep B0 b1 B0.size
    obtain ⟨c1, _, c3, HX1⟩ := hX0.after b1 hX0.lt
    have x0 := c1 0
    have x1 := c1 1
    clear c1 b1 hX0 B0
    go_wp2_with fail
    refine (hV2 _).mono ?_
    rintro e w2 ⟨rfl, b2⟩
    have B2 := bstep B1 b2 B1.size
    cases k
    all_goals
      go_wp2_with fail
      go_ret
      exact ⟨rfl, B2⟩
  · have h1' : okF p q = false := by simpa using h1
    rw [h1'] at hV1
    rw [if_neg (fun h => h1 h.1)]
    clear h1 h1'
    go_enter Try.func68, Try.ntmps68
    go_wp2_with fail
    refine (hV1 _).mono ?_
    rintro e w1 ⟨rfl, b1⟩
    have B1 := bstep B0 b1 B0.size
    go_wp2_with fail
    go_ret
    exact ⟨rfl, B1⟩

set_option maxRecDepth 100000 in
set_option maxHeartbeats 4000000 in
theorem specErrorTimes_any (p q r s : Int) (w : World) :
    Calls Try.prog 31 #[.agg #[.int .i64 p, .int .i64 q], .agg #[.int .i64 r, .int .i64 s]] w fun e w' => e = .returned (ert p q r s) ∧ Below w.heap.size w w' := by
  have hT := l02Two_any p q r s
  have B0 : Below w.heap.size w (((w.alloc (.cells #[.int .i64 p, .int .i64 q] 25)).alloc (.cells #[.int .i64 r, .int .i64 s] 25)).alloc (.cells #[.int .i64 0, .int .i64 0] 25)) := by go_grown
  have hP0 := ((Blk.new w 25 #[.int .i64 p, .int .i64 q]).alloc (.cells #[.int .i64 r, .int .i64 s] 25)).alloc (.cells #[.int .i64 0, .int .i64 0] 25)
  have hX0 : Blk (((w.alloc (.cells #[.int .i64 p, .int .i64 q] 25)).alloc (.cells #[.int .i64 r, .int .i64 s] 25)).alloc (.cells #[.int .i64 0, .int .i64 0] 25)) (w.heap.size + 1) 25 #[.int .i64 r, .int .i64 s] := (Blk.newAt (by simp)).alloc _
  have hR0 : Blk (((w.alloc (.cells #[.int .i64 p, .int .i64 q] 25)).alloc (.cells #[.int .i64 r, .int .i64 s] 25)).alloc (.cells #[.int .i64 0, .int .i64 0] 25)) (w.heap.size + 1 + 1) 25 #[.int .i64 0, .int .i64 0] := Blk.newAt (by simp)
  by_cases h : okF p q = true ∧ okF r s = true
  · obtain ⟨o1, o2, _⟩ := okF_iff.1 h.1
    obtain ⟨o3, o4, _⟩ := okF_iff.1 h.2
    have m1 := prod18 o2 o3
    have m2 := prod18 o4 o1
    have hbd := sz_bd (x := p * s - r * q) (M := 2000000000000000000) (by omega)
    have hR : ert p q r s = pln (sz (p * s - r * q)) q := if_pos h
    rw [hR]
    rw [if_pos h] at hT
    have hS := fun w => specSize_any (p * s - r * q) w (by omega) (by omega)
    have hF := fun w => l02FullG_any (sz (p * s - r * q)) q w (by omega) (by omega)
    have hB1 := fun w => l08Big_any p s w o2 o3
    have hB2 := fun w => l08Big_any r q w o4 o1
    obtain ⟨x, y, c, hf⟩ := pln_form (sz (p * s - r * q)) q
    rw [hf] at hF ⊢
    have s1 : IntKind.i64.wrap (p * s) = p * s := IntWalk.i64_in _ (by omega)
    have s2 : IntKind.i64.wrap (r * q) = r * q := IntWalk.i64_in _ (by omega)
    have s3 : IntKind.i64.wrap (p * s - r * q) = p * s - r * q := IntWalk.i64_in _ (by omega)
    generalize sz (p * s - r * q) = E at *
    clear hR hf hbd h
    go_enter Try.func31, Try.ntmps31
    go_wp2_with fail
    refine (hT _).mono ?_
    rintro e w1 ⟨rfl, b1⟩
    have B1 := bstep B0 b1 B0.size
    obtain ⟨a1, _, a3, HP1⟩ := hP0.after b1 hP0.lt
    obtain ⟨c1, _, c3, HX1⟩ := hX0.after b1 hX0.lt
    obtain ⟨d1, _, d3, HR1⟩ := hR0.after b1 hR0.lt
    have y0 := a1 0
    have y1 := a1 1
    have x0 := c1 0
    have x1 := c1 1
    clear a1 c1 d1 b1 hP0 hX0 hR0 B0
    go_wp2_with fail
    refine (hB1 _).mono ?_
    rintro e w2 ⟨rfl, rfl⟩
    go_wp2_with fail
    refine (hB2 _).mono ?_
    rintro e w2 ⟨rfl, rfl⟩
    go_wp2_with fail
    have hRd : Hid (Blk w1.drew (w.heap.size + 1 + 1) 25 #[.int .i64 0, .int .i64 0]) := HR1.out
    have B1d : Below w.heap.size w w1.drew := B1.drew
    have hb2 : w.heap.size < w1.drew.heap.size := HP1.out.lt
    have hb3 : w.heap.size + 1 < w1.drew.heap.size := HX1.out.lt
    have HS : Hid (∀ w' : World, w'.heap[w.heap.size]? = w1.heap[w.heap.size]? → w'.heap[w.heap.size + 1]? = w1.heap[w.heap.size + 1]? → w'.cell? ⟨w.heap.size, 0, none⟩ = some (.int .i64 p) ∧ w'.cell? ⟨w.heap.size, 1, none⟩ = some (.int .i64 q) ∧ w'.cell? ⟨w.heap.size + 1, 0, none⟩ = some (.int .i64 r) ∧ w'.cell? ⟨w.heap.size + 1, 1, none⟩ = some (.int .i64 s)) := by
      intro w' e1 e2
      exact ⟨(World.cell?_of_block (w := w1) (a := ⟨w.heap.size, 0, none⟩) e1).trans y0, (World.cell?_of_block (w := w1) (a := ⟨w.heap.size, 1, none⟩) e1).trans y1, (World.cell?_of_block (w := w1) (a := ⟨w.heap.size + 1, 0, none⟩) e2).trans x0, (World.cell?_of_block (w := w1) (a := ⟨w.heap.size + 1, 1, none⟩) e2).trans x1⟩
    have HN : Hid (∀ (w4 : World) (u v : Value), ((w4.setCell ⟨w.heap.size + 1 + 1, 0, none⟩ u).setCell ⟨w.heap.size + 1 + 1, 1, none⟩ v).heap[w.heap.size]? = w4.heap[w.heap.size]? ∧ ((w4.setCell ⟨w.heap.size + 1 + 1, 0, none⟩ u).setCell ⟨w.heap.size + 1 + 1, 1, none⟩ v).heap[w.heap.size + 1]? = w4.heap[w.heap.size + 1]?) := by
      intro w4 u v
      exact ⟨(Below.heap_setCell _ ⟨w.heap.size + 1 + 1, 1, none⟩ v _ (by show w.heap.size ≠ w.heap.size + 1 + 1; omega)).trans (Below.heap_setCell _ ⟨w.heap.size + 1 + 1, 0, none⟩ u _ (by show w.heap.size ≠ w.heap.size + 1 + 1; omega)),
        (Below.heap_setCell _ ⟨w.heap.size + 1 + 1, 1, none⟩ v _ (by show w.heap.size + 1 ≠ w.heap.size + 1 + 1; omega)).trans (Below.heap_setCell _ ⟨w.heap.size + 1 + 1, 0, none⟩ u _ (by show w.heap.size + 1 ≠ w.heap.size + 1 + 1; omega))⟩
    clear y0 y1 x0 x1
    go_region_held3 (fun w' => w'.cell? ⟨w.heap.size, 0, none⟩ = some (.int .i64 p) ∧ w'.cell? ⟨w.heap.size, 1, none⟩ = some (.int .i64 q) ∧ w'.cell? ⟨w.heap.size + 1, 0, none⟩ = some (.int .i64 r) ∧ w'.cell? ⟨w.heap.size + 1, 1, none⟩ = some (.int .i64 s))
      (first
        | assumption | exact HS.out _ rfl rfl | exact HS.out _ (b4.block _ hb2) (b4.block _ hb3) | exact HS.out _ ((HN.out _ _ _).1.trans (b4.block _ hb2)) ((HN.out _ _ _).2.trans (b4.block _ hb3)))
      (first
        | (go_at_call 42; refine (hS _).mono ?_; rintro e w2 ⟨rfl, rfl⟩)
        | (go_at_call 70; refine (hF _).mono ?_; rintro e w4 ⟨rfl, b4⟩; obtain ⟨f6, _, f7, HR4⟩ := hRd.out.after b4 hRd.out.lt))
    all_goals
      have B4 := bstep B1d b4 B1d.size
      go_wp2_with fail
      have z3 := HR4.out.set2 (x := .int .i64 x) (y := .int .i64 y)
      obtain ⟨z4, _, _, _⟩ := z3.after (Below.refl _ _) z3.lt
      exact bodyPost_ret (v := .tuple #[.agg #[.int .i64 x, .int .i64 y], .int .i64 c]) (by simp [results, Try.results31, go_sem, z4]) rfl ⟨rfl, (B4.setCell (by show w.heap.size ≤ w.heap.size + 1 + 1; omega) _).setCell (by show w.heap.size ≤ w.heap.size + 1 + 1; omega) _⟩
  · have hR : ert p q r s = .tuple #[.agg #[.int .i64 0, .int .i64 0], .int .i64 1] := if_neg h
    rw [hR]
    rw [if_neg h] at hT
    clear hR h
    go_enter Try.func31, Try.ntmps31
    go_wp2_with fail
    refine (hT _).mono ?_
    rintro e w1 ⟨rfl, b1⟩
    have B1 := bstep B0 b1 B0.size
    obtain ⟨d1, _, d3, HR1⟩ := hR0.after b1 hR0.lt
    have y0 := d1 0
    have y1 := d1 1
    clear d1 b1 hP0 hX0 hR0 B0
    go_wp2_with fail
    have z3 := HR1.out.set2 (x := .int .i64 0) (y := .int .i64 0)
    obtain ⟨z4, _, _, _⟩ := z3.after (Below.refl _ _) z3.lt
    exact bodyPost_ret (v := .tuple #[.agg #[.int .i64 0, .int .i64 0], .int .i64 1]) (by simp [results, Try.results31, go_sem, z4]) rfl ⟨rfl, (B1.setCell (by show w.heap.size ≤ w.heap.size + 1 + 1; omega) _).setCell (by show w.heap.size ≤ w.heap.size + 1 + 1; omega) _⟩

end Go.Proofs.Ytnjilpldfidbjaa
