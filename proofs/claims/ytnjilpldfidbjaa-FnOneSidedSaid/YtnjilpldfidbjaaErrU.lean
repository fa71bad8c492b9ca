/- ErrorTimes: the program's and the reference's. -/
import Derived.Test.YtnjilpldfidbjaaErrT
import Derived.Deep.RegionHeld3
namespace Go.Proofs.Ytnjilpldfidbjaa
open Go.RowKit

theorem prod18 {x y : Int} (hx : -1000000000 ≤ x ∧ x ≤ 1000000000) (hy : 1 ≤ y ∧ y ≤ 1000000000) : -1000000000000000000 ≤ x * y ∧ x * y ≤ 1000000000000000000 := by
  constructor
  · have h1 : -1000000000 * y ≤ x * y := Int.mul_le_mul_of_nonneg_right hx.1 (by omega)
    omega
  · have h1 : x * y ≤ 1000000000 * y := Int.mul_le_mul_of_nonneg_right hx.2 (by omega)
    omega
theorem sz_bd {x M : Int} (h : -M ≤ x ∧ x ≤ M) : 0 ≤ sz x ∧ sz x ≤ M := by
  have := sz_nat x
  omega

theorem errorOf_any (p q r s : Int) (w : World) (hp : -1000000000 ≤ p ∧ p ≤ 1000000000) (hq : 1 ≤ q ∧ q ≤ 1000000000) (hr : -1000000000 ≤ r ∧ r ≤ 1000000000) (hs : 1 ≤ s ∧ s ≤ 1000000000) :
    Calls Try.prog 67 #[.agg #[.int .i64 p, .int .i64 q], .agg #[.int .i64 r, .int .i64 s]] w fun e w' => e = .returned (.int .i64 (sz (p * s - r * q))) ∧ Below w.heap.size w w' := by
  have m1 := prod18 hp hs
  have m2 := prod18 hr hq
  have s1 : IntKind.i64.wrap (p * s) = p * s := IntWalk.i64_in _ (by omega)
  have s2 : IntKind.i64.wrap (r * q) = r * q := IntWalk.i64_in _ (by omega)
  have s3 : IntKind.i64.wrap (p * s - r * q) = p * s - r * q := IntWalk.i64_in _ (by omega)
  go_enter Try.func67, Try.ntmps67
  go_wp2_with fail
  refine (implAbs_any _ _ (by omega) (by omega)).mono ?_
  rintro e w1 ⟨rfl, rfl⟩
  go_wp2_with fail
  go_ret
  exact ⟨rfl, by go_grown⟩

/-- The distance of two fractions times the denominator of the second one. -/
def ert (p q r s : Int) : Value := if okF p q = true ∧ okF r s = true then pln (sz (p * s - r * q)) q else .tuple #[.agg #[.int .i64 0, .int .i64 0], .int .i64 1]
theorem ert_form (p q r s : Int) : ∃ x y c : Int, ert p q r s = .tuple #[.agg #[.int .i64 x, .int .i64 y], .int .i64 c] := by
  unfold ert; split
  · exact pln_form _ _
  · exact ⟨_, _, _, rfl⟩

set_option maxRecDepth 100000 in
set_option maxHeartbeats 1000000 in
theorem implErrorTimes_any (p q r s : Int) (w : World) :
    Calls Try.prog 30 #[.agg #[.int .i64 p, .int .i64 q], .agg #[.int .i64 r, .int .i64 s]] w fun e w' => e = .returned (ert p q r s) ∧ Below w.heap.size w w' := by
  have hV1 := implValid_any p q
  have hV2 := implValid_any r s
  have B0 : Below w.heap.size w (((w.alloc (.cells #[.int .i64 p, .int .i64 q] 25)).alloc (.cells #[.int .i64 r, .int .i64 s] 25)).alloc (.cells #[.int .i64 0, .int .i64 0] 25)) := by go_grown
  have hP0 := ((Blk.new w 25 #[.int .i64 p, .int .i64 q]).alloc (.cells #[.int .i64 r, .int .i64 s] 25)).alloc (.cells #[.int .i64 0, .int .i64 0] 25)
  have hX0 : Blk (((w.alloc (.cells #[.int .i64 p, .int .i64 q] 25)).alloc (.cells #[.int .i64 r, .int .i64 s] 25)).alloc (.cells #[.int .i64 0, .int .i64 0] 25)) (w.heap.size + 1) 25 #[.int .i64 r, .int .i64 s] := (Blk.newAt (by simp)).alloc _
  have hR0 : Blk (((w.alloc (.cells #[.int .i64 p, .int .i64 q] 25)).alloc (.cells #[.int .i64 r, .int .i64 s] 25)).alloc (.cells #[.int .i64 0, .int .i64 0] 25)) (w.heap.size + 1 + 1) 25 #[.int .i64 0, .int .i64 0] := Blk.newAt (by simp)
  by_cases h1 : okF p q = true
  · rw [h1] at hV1
    by_cases h2 : okF r s = true
    · rw [h2] at hV2
      obtain ⟨o1, o2, _⟩ := okF_iff.1 h1
      obtain ⟨o3, o4, _⟩ := okF_iff.1 h2
      have m1 := prod18 o2 o3
      have m2 := prod18 o4 o1
      have hE := fun w => errorOf_any p q r s w o2 o1 o4 o3
      have hbd := sz_bd (x := p * s - r * q) (M := 2000000000000000000) (by omega)
      have hR : ert p q r s = pln (sz (p * s - r * q)) q := if_pos ⟨h1, h2⟩
      rw [hR]
      have hP := fun w => plainOfG_any (sz (p * s - r * q)) q w (by omega) (by omega)
      obtain ⟨x, y, c, hf⟩ := pln_form (sz (p * s - r * q)) q
      rw [hf] at hP ⊢
      generalize sz (p * s - r * q) = E at *
      clear hR hf hbd h1 h2 m1 m2
      go_enter Try.func30, Try.ntmps30
      go_wp2_with fail
      refine (hV1 _).mono ?_
      rintro e w1 ⟨rfl, b1⟩
      have B1 := bstep B0 b1 B0.size
      obtain ⟨a1, _, a3, HP1⟩ := hP0.after b1 hP0.lt
      obtain ⟨c1, _, c3, HX1⟩ := hX0.after b1 hX0.lt
      obtain ⟨d1, _, d3, HR1⟩ := hR0.after b1 hR0.lt
      have x0 := c1 0
      have x1 := c1 1
      clear a1 c1 d1 b1 hP0 hX0 hR0 B0
      go_wp2_with fail
      refine (hV2 _).mono ?_
      rintro e w2 ⟨rfl, b2⟩
      have B2 := bstep B1 b2 B1.size
      obtain ⟨a1, _, a3, HP2⟩ := HP1.out.after b2 a3
      obtain ⟨c1, _, c3, HX2⟩ := HX1.out.after b2 c3
      obtain ⟨d1, _, d3, HR2⟩ := HR1.out.after b2 d3
      have y0 := a1 0
      have y1 := a1 1
      have x2 := c1 0
      have x3 := c1 1
      clear a1 c1 d1 b2 x0 x1 HP1 HX1 HR1 B1
      go_wp2_with fail
      go_region_with (first
        | (go_at_call 67; refine (hE _).mono ?_; rintro e w3 ⟨rfl, b3'⟩; have b3 : Below w2.heap.size w2 w3 := (Below.refl _ w2).drew.trans b3'; obtain ⟨f1, _, f3, HP3⟩ := HP2.out.after b3 a3; obtain ⟨f4, _, f5, HR3⟩ := HR2.out.after b3 d3; have z0 := f1 0; have z1 := f1 1; clear f1 f4 b3')
        | (go_at_call 66; refine (hP _).mono ?_; rintro e w4 ⟨rfl, b4⟩; obtain ⟨f6, _, f7, HR4⟩ := HR3.out.after b4 f5))
      all_goals
        have B3 := bstep B2 b3 B2.size
        have B4 := bstep B3 b4 B3.size
        go_wp2_with fail
        have z3 := HR4.out.set2 (x := .int .i64 x) (y := .int .i64 y)
        obtain ⟨z4, _, _, _⟩ := z3.after (Below.refl _ _) z3.lt
        exact bodyPost_ret (v := .tuple #[.agg #[.int .i64 x, .int .i64 y], .int .i64 c]) (by simp [results, Try.results30, go_sem, z4]) rfl ⟨rfl, (B4.setCell (by show w.heap.size ≤ w.heap.size + 1 + 1; omega) _).setCell (by show w.heap.size ≤ w.heap.size + 1 + 1; omega) _⟩
    · have h2' : okF r s = false := by simpa using h2
      rw [h2'] at hV2
      have hR : ert p q r s = .tuple #[.agg #[.int .i64 0, .int .i64 0], .int .i64 1] := if_neg (fun h => h2 h.2)
      rw [hR]
      clear hR h1 h2 h2'
      go_enter Try.func30, Try.ntmps30
      go_wp2_with fail
      refine (hV1 _).mono ?_
      rintro e w1 ⟨rfl, b1⟩
      have B1 := bstep B0 b1 B0.size
      obtain ⟨c1, _, c3, HX1⟩ := hX0.after b1 hX0.lt
      obtain ⟨d1, _, d3, HR1⟩ := hR0.after b1 hR0.lt
      have x0 := c1 0
      have x1 := c1 1
      clear c1 d1 b1 hP0 hX0 hR0 B0
      go_wp2_with fail
      refine (hV2 _).mono ?_
      rintro e w2 ⟨rfl, b2⟩
      have B2 := bstep B1 b2 B1.size
      obtain ⟨d1, _, d3, HR2⟩ := HR1.out.after b2 d3
      have y0 := d1 0
      have y1 := d1 1
      clear d1 b2 x0 x1
      go_wp2_with fail
      have z3 := HR2.out.set2 (x := .int .i64 0) (y := .int .i64 0)
      obtain ⟨z4, _, _, _⟩ := z3.after (Below.refl _ _) z3.lt
      exact bodyPost_ret (v := .tuple #[.agg #[.int .i64 0, .int .i64 0], .int .i64 1]) (by simp [results, Try.results30, go_sem, z4]) rfl ⟨rfl, (B2.setCell (by show w.heap.size ≤ w.heap.size + 1 + 1; omega) _).setCell (by show w.heap.size ≤ w.heap.size + 1 + 1; omega) _⟩
  · have h1' : okF p q = false := by simpa using h1
    rw [h1'] at hV1
    have hR : ert p q r s = .tuple #[.agg #[.int .i64 0, .int .i64 0], .int .i64 1] := if_neg (fun h => h1 h.1)
    rw [hR]
    clear hR h1 h1'
    go_enter Try.func30, Try.ntmps30
    go_wp2_with fail
    refine (hV1 _).mono ?_
    rintro e w1 ⟨rfl, b1⟩
    have B1 := bstep B0 b1 B0.size
    obtain ⟨d1, _, d3, HR1⟩ := hR0.after b1 hR0.lt
    have y0 := d1 0
    have y1 := d1 1
    clear d1 b1 hP0 hX0 hR0 B0
    go_wp2_with fail
    have z3 := HR1.out.set2 (x := .int .i64 0) (y := .int .i64 0)
    obtain ⟨z4, _, _, _⟩ := z3.after (Below.refl _ _) z3.lt
    exact bodyPost_ret (v := .tuple #[.agg #[.int .i64 0, .int .i64 0], .int .i64 1]) (by simp [results, Try.results30, go_sem, z4]) rfl ⟨rfl, (B1.setCell (by show w.heap.size ≤ w.heap.size + 1 + 1; omega) _).setCell (by show w.heap.size ≤ w.heap.size + 1 + 1; omega) _⟩

end Go.Proofs.Ytnjilpldfidbjaa
