/- The nearest fractions on both sides: the reference's. -/
import Derived.Test.YtnjilpldfidbjaaSidA
import Derived.Test.YtnjilpldfidbjaaNumF
namespace Go.Proofs.Ytnjilpldfidbjaa
open Go.RowKit Go.Sort

theorem l00Min_any (a b : Int) (w : World) :
    Calls Try.prog 75 #[.int .i64 a, .int .i64 b] w fun e w' => e = .returned (.int .i64 (min a b)) ∧ w = w' := by
  go_enter Try.func75, Try.ntmps75
  by_cases h : a < b
  · have e : min a b = a := by omega
    go_wp2
    go_ret
    exact ⟨by first | rfl | (rw [e]; rfl), rfl⟩
  · have e : min a b = b := by omega
    go_wp2
    go_ret
    exact ⟨by first | rfl | (rw [e]; rfl), rfl⟩

theorem Blk.cI4 {w : World} {g : Nat} {t : TypeId} {a b c d : Value} (h : Blk w g t #[a, b, c, d]) : Go.Proofs.Ytnjilpldfidbjaa.cI w g 1 = intOf b ∧ Go.Proofs.Ytnjilpldfidbjaa.cI w g 3 = intOf d := by
  obtain ⟨z, -, -, -⟩ := h.after (Below.refl _ _) h.lt
  unfold Go.Proofs.Ytnjilpldfidbjaa.cI
  rw [z 1, z 3]
  exact ⟨rfl, rfl⟩

/-- The one that is asked for. -/
def sel (s a b c d : Int) : Value := if 0 < s then .agg #[.int .i64 a, .int .i64 b] else .agg #[.int .i64 c, .int .i64 d]

set_option maxRecDepth 100000 in
set_option maxHeartbeats 4000000 in
theorem l19Side_any (p q m s : Int) (w : World) (hp : -1000000000 ≤ p ∧ p ≤ 1000000000) (hq : 1 ≤ q ∧ q ≤ 1000000000) (hg : Int.gcd p q = 1) (hm : 1 ≤ m ∧ m ≤ 1000000000) :
    Calls Try.prog 39 #[.agg #[.int .i64 p, .int .i64 q], .int .i64 m, .int .i64 s] w fun e w' => ∃ a b c d, e = .returned (sel s a b c d) ∧ Near p q m a b c d ∧ Below w.heap.size w w' := by
  by_cases hlt : q ≤ m
  · have hd : decide (q ≤ m) = true := decide_eq_true hlt
    go_enter Try.func39, Try.ntmps39
    go_wp2_with fail
    go_returns
    exact ⟨p, q, p, q, by unfold sel; split <;> rfl, .inl ⟨hlt, rfl, rfl, rfl, rfl⟩, by go_grown⟩
  · have hd : decide (q ≤ m) = false := decide_eq_false hlt
    have hS := Sides.start (p := p) (q := q) (m := m) hg hm.1 (by omega)
    have hF := fun w => specFloor_any p q w (by omega) (by omega) (by omega) (by omega)
    obtain ⟨hb1, hb2⟩ := hS.bd (by omega) hp
    generalize p / q = f at *
    have HS := hide hS
    clear hS
    go_enter Try.func39, Try.ntmps39
    go_wp2_with fail
    refine (hF _).mono ?_
    rintro e w1 ⟨rfl, rfl⟩
    go_wp2_with fail
    go_loopw [8] (fun _ wr => ∃ a b c d, Sides p q m a b c d ∧ Blk wr w.heap.size 25 #[.int .i64 p, .int .i64 q] ∧ Blk wr (w.heap.size + 1) 25 #[.int .i64 0, .int .i64 0] ∧ Blk wr (w.heap.size + 1 + 1) 80 #[.int .i64 a, .int .i64 b, .int .i64 c, .int .i64 d] ∧ Below w.heap.size w wr) (fun _ wr => (2 * m - cI wr (w.heap.size + 1 + 1) 1 - cI wr (w.heap.size + 1 + 1) 3).toNat)
    case atStart =>
      exact ⟨_, _, _, _, HS.out, ((Blk.new w _ _).alloc _).alloc _, (Blk.newAt (by simp)).alloc _, Blk.newAt (by simp), by go_grown⟩
    case round =>
      obtain ⟨a, b, c, d, hS, H2, H6, H7, hbel⟩ := hrel
      obtain ⟨A, B, k, kc, kd, kB, a2, b2, A2, j, ja, jb, c2, d2, pb, aq, cq, pd, pb2, aq2, ⟨r1, r2, r3, r4, r5, r6⟩, ⟨r7, r8, r9, r10⟩, ⟨r11, r12, r13, r14, r15, r16⟩, ⟨r17, r18, r19⟩, ⟨r20, r21, r22, r23, r24, r25, r26⟩, ⟨r27, r28, r29⟩, ⟨r30, r31, r32, r33, r34, r35⟩, ⟨r36, r37⟩, ⟨hS2, hS3⟩, hend⟩ := hS.round hg (by omega) hp hq.2
      have hb := hS.b1; have hbm := hS.bm; have hd1 := hS.d1; have hdm := hS.dm
      obtain ⟨ha9, hc9⟩ := hS.bd (by omega) hp
      have hb2 := hS2.b1; have hbm2 := hS2.bm
      obtain ⟨ha29, -⟩ := hS2.bd (by omega) hp
      have hd2 := hS3.d1; have hdm2 := hS3.dm
      obtain ⟨-, hc29⟩ := hS3.bd (by omega) hp
      obtain ⟨x2, -, -, I2⟩ := H2.after (Below.refl _ _) H2.lt
      obtain ⟨x6, f6, -, I6⟩ := H6.after (Below.refl _ _) H6.lt
      obtain ⟨x7, f7, -, I7⟩ := H7.after (Below.refl _ _) H7.lt
      have mo : Hid (2 * m - cI wr (w.heap.size + 1 + 1) 1 - cI wr (w.heap.size + 1 + 1) 3 = 2 * m - b - d) := by
        rw [H7.cI4.1, H7.cI4.2]
        exact rfl
      have y20 := x2 0
      have y21 := x2 1
      have y60 := x6 0
      have y61 := x6 1
      have f60 := f6 0
      have f61 := f6 1
      have y70 := x7 0
      have y71 := x7 1
      have y72 := x7 2
      have y73 := x7 3
      have f70 := f7 0
      have f71 := f7 1
      have f72 := f7 2
      have f73 := f7 3
      have HS2 := hide hS2
      have HS3 := hide hS3
      have HE := hide hend
      have t1 : A.tdiv B = A / B := Int.tdiv_eq_ediv_of_nonneg (by omega)
      have t2 : (m - b).tdiv d = (m - b) / d := Int.tdiv_eq_ediv_of_nonneg (by omega)
      have t3 : B.tdiv A2 = B / A2 := Int.tdiv_eq_ediv_of_nonneg (by omega)
      have t4 : (m - d).tdiv b2 = (m - d) / b2 := Int.tdiv_eq_ediv_of_nonneg (by omega)
      have v1 := ediv_bd (n := A) (m := B) (by omega) 1000000000 (by omega)
      have v2 := ediv_bd (n := m - b) (m := d) (by omega) 1000000000 (by omega)
      have v3 := ediv_bd (n := B) (m := A2) (by omega) 1000000000 (by omega)
      have v4 := ediv_bd (n := m - d) (m := b2) (by omega) 1000000000 (by omega)
      have hM1 := fun w => l00Min_any ((m - b) / d) (A / B) w
      have hM2 := fun w => l00Min_any ((m - d) / b2) (B / A2) w
      rw [Int.min_comm, r20] at hM1
      rw [Int.min_comm, r30] at hM2
      have hne : (pb2 != aq2) = true := by rw [bne_iff_ne]; omega
      generalize A / B = K1 at *
      generalize (m - b) / d = K2 at *
      generalize B / A2 = K3 at *
      generalize (m - d) / b2 = K4 at *
      clear x2 x6 x7 f6 f7 hS hS2 hS3 hend H2 H6 H7 HS hF
      go_wp2_with fail
      refine (hM1 _).mono ?_
      rintro e w1 ⟨rfl, rfl⟩
      go_wp2_with fail
      refine (hM2 _).mono ?_
      rintro e w1 ⟨rfl, rfl⟩
      go_upto_region 15 with fail
      have K7 : Blk ((((wr.setCell ⟨w.heap.size + 1 + 1, 0, none⟩ (.int .i64 a2)).setCell ⟨w.heap.size + 1 + 1, 1, none⟩ (.int .i64 b2)).setCell ⟨w.heap.size + 1 + 1, 2, none⟩ (.int .i64 c2)).setCell ⟨w.heap.size + 1 + 1, 3, none⟩ (.int .i64 d2)) (w.heap.size + 1 + 1) 80 #[.int .i64 a2, .int .i64 b2, .int .i64 c2, .int .i64 d2] := (((I7.out.set_ 0 (.int .i64 a2)).set_ 1 (.int .i64 b2)).set_ 2 (.int .i64 c2)).set_ 3 (.int .i64 d2)
      have K2 := (((I2.out.far (p := ⟨w.heap.size + 1 + 1, 0, none⟩) (by simp; omega) (.int .i64 a2)).far (p := ⟨w.heap.size + 1 + 1, 1, none⟩) (by simp; omega) (.int .i64 b2)).far (p := ⟨w.heap.size + 1 + 1, 2, none⟩) (by simp; omega) (.int .i64 c2)).far (p := ⟨w.heap.size + 1 + 1, 3, none⟩) (by simp; omega) (.int .i64 d2)
      have K6 := (((I6.out.far (p := ⟨w.heap.size + 1 + 1, 0, none⟩) (by simp) (.int .i64 a2)).far (p := ⟨w.heap.size + 1 + 1, 1, none⟩) (by simp) (.int .i64 b2)).far (p := ⟨w.heap.size + 1 + 1, 2, none⟩) (by simp) (.int .i64 c2)).far (p := ⟨w.heap.size + 1 + 1, 3, none⟩) (by simp) (.int .i64 d2)
      have KB := (((hbel.setCell (p := ⟨w.heap.size + 1 + 1, 0, none⟩) (show w.heap.size ≤ w.heap.size + 1 + 1 by omega) (.int .i64 a2)).setCell (p := ⟨w.heap.size + 1 + 1, 1, none⟩) (show w.heap.size ≤ w.heap.size + 1 + 1 by omega) (.int .i64 b2)).setCell (p := ⟨w.heap.size + 1 + 1, 2, none⟩) (show w.heap.size ≤ w.heap.size + 1 + 1 by omega) (.int .i64 c2)).setCell (p := ⟨w.heap.size + 1 + 1, 3, none⟩) (show w.heap.size ≤ w.heap.size + 1 + 1 by omega) (.int .i64 d2)
      generalize ((((wr.setCell ⟨w.heap.size + 1 + 1, 0, none⟩ (.int .i64 a2)).setCell ⟨w.heap.size + 1 + 1, 1, none⟩ (.int .i64 b2)).setCell ⟨w.heap.size + 1 + 1, 2, none⟩ (.int .i64 c2)).setCell ⟨w.heap.size + 1 + 1, 3, none⟩ (.int .i64 d2)) = V at *
      clear y20 y21 y60 y61 f60 f61 y70 y71 y72 y73 f70 f71 f72 f73 I2 I6 I7 hM1 hM2
      have K2 := hide K2
      have K6 := hide K6
      have K7 := hide K7
      by_cases hk0 : k = 0
      · by_cases hj0 : j = 0
        · have hfin : m < b2 + d2 := by rcases HE.out with ⟨_, _, h⟩ | ⟨h, _⟩; · exact h
                                        · exact absurd ⟨hk0, hj0⟩ h
          obtain ⟨c7, -, -, -⟩ := K7.out.after (Below.refl _ _) K7.out.lt
          obtain ⟨c6, f6, -, -⟩ := K6.out.after (Below.refl _ _) K6.out.lt
          have c70 := c7 0
          have c71 := c7 1
          have c72 := c7 2
          have c73 := c7 3
          have c60 := c6 0
          have c61 := c6 1
          have f60 := f6 0
          have f61 := f6 1
          clear c7 c6 f6 mo HE HS2
          by_cases hs : 0 < s
          · have m0 := hide (K6.out.same_ (i := 0) (by simp) (.int .i64 a2))
            have m1 := hide ((K6.out.set_ 0 (.int .i64 a2)).same_ (i := 1) (by simp) (.int .i64 b2))
            go_wp2_with fail
            exact bodyPost_ret (v := .agg #[.int .i64 a2, .int .i64 b2]) (by simp [results, Try.results39, go_sem, m0.out, m1.out]) rfl ⟨a2, b2, c2, d2, by unfold sel; rw [if_pos hs], .inr ⟨by omega, HS3.out, hfin⟩, (KB.setCell (show w.heap.size ≤ w.heap.size + 1 by omega) _).setCell (show w.heap.size ≤ w.heap.size + 1 by omega) _⟩
          · have m0 := hide (K6.out.same_ (i := 0) (by simp) (.int .i64 c2))
            have m1 := hide ((K6.out.set_ 0 (.int .i64 c2)).same_ (i := 1) (by simp) (.int .i64 d2))
            go_wp2_with fail
            exact bodyPost_ret (v := .agg #[.int .i64 c2, .int .i64 d2]) (by simp [results, Try.results39, go_sem, m0.out, m1.out]) rfl ⟨a2, b2, c2, d2, by unfold sel; rw [if_neg (by omega)], .inr ⟨by omega, HS3.out, hfin⟩, (KB.setCell (show w.heap.size ≤ w.heap.size + 1 by omega) _).setCell (show w.heap.size ≤ w.heap.size + 1 by omega) _⟩
        · go_wp2_with fail
          go_roundw
          case rel => exact ⟨a2, b2, c2, d2, HS3.out, K2.out, K6.out, K7.out, KB⟩
          case measure =>
            rw [K7.out.cI4.1, K7.out.cI4.2, mo.out]
            have := HE.out
            simp only [intOf]
            omega
      · go_wp2_with fail
        go_roundw
        case rel => exact ⟨a2, b2, c2, d2, HS3.out, K2.out, K6.out, K7.out, KB⟩
        case measure =>
          rw [K7.out.cI4.1, K7.out.cI4.2, mo.out]
          have := HE.out
          simp only [intOf]
          omega

end Go.Proofs.Ytnjilpldfidbjaa
