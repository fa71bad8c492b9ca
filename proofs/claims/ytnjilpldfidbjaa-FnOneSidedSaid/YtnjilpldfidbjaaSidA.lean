/- The nearest fractions on both sides: the program's. -/
import Derived.Test.YtnjilpldfidbjaaSidR
import Derived.Test.YtnjilpldfidbjaaErrU
import Derived.Test.YtnjilpldfidbjaaBlk
import Derived.Test.YtnjilpldfidbjaaNumD
import Derived.Lib.QuietBelow
import Derived.Deep.DeepCutAuto
namespace Go.Proofs.Ytnjilpldfidbjaa
open Go.RowKit Go.Sort

theorem bch {w w1 w2 : World} (h : Below w.heap.size w w1) (h2 : Below w1.heap.size w1 w2) : Below w.heap.size w w2 := bstep h h2 h.size
theorem Blk.bel {w w' : World} {g : Nat} {t : TypeId} {cs : Array Value} (h : Blk w g t cs) (hb : Below w.heap.size w w') : Blk w' g t cs := (hb.block g h.lt).trans h
def cI (w : World) (g i : Nat) : Int := match w.cell? ⟨g, i, none⟩ with | some v => intOf v | none => 0
theorem Blk.cI {w : World} {g : Nat} {t : TypeId} {a b : Value} (h : Blk w g t #[a, b]) : Go.Proofs.Ytnjilpldfidbjaa.cI w g 1 = intOf b := by
  obtain ⟨d, -, -, -⟩ := h.after (Below.refl _ _) h.lt
  unfold Go.Proofs.Ytnjilpldfidbjaa.cI
  rw [d 1]
  rfl

theorem Blk.same_ {w : World} {g i : Nat} {t : TypeId} {cs : Array Value} (h : Blk w g t cs) (hi : i < cs.size) (u : Value) : (w.setCell ⟨g, i, none⟩ u).cell? ⟨g, i, none⟩ = some u := by
  obtain ⟨d, -, -, -⟩ := (h.set_ i u).after (Below.refl _ _) (h.set_ i u).lt
  rw [d i]
  simp [hi]

/-- What both give: the fraction itself, or the two on both sides. -/
def Near (p q m a b c d : Int) : Prop := (q ≤ m ∧ a = p ∧ b = q ∧ c = p ∧ d = q) ∨ (m < q ∧ Sides p q m a b c d ∧ m < b + d)

set_option maxRecDepth 100000 in
set_option maxHeartbeats 4000000 in
theorem around_any (p q m : Int) (w : World) (hp : -1000000000 ≤ p ∧ p ≤ 1000000000) (hq : 1 ≤ q ∧ q ≤ 1000000000) (hg : Int.gcd p q = 1) (hm : 1 ≤ m ∧ m ≤ 1000000000) :
    Calls Try.prog 37 #[.agg #[.int .i64 p, .int .i64 q], .int .i64 m] w fun e w' => ∃ a b c d, e = .returned (.tuple #[.agg #[.int .i64 a, .int .i64 b], .agg #[.int .i64 c, .int .i64 d]]) ∧ Near p q m a b c d ∧ Below w.heap.size w w' := by
  by_cases hlt : q ≤ m
  · have hd : decide (q ≤ m) = true := decide_eq_true hlt
    go_enter Try.func37, Try.ntmps37
    go_wp2_with fail
    go_region
    all_goals
      go_wp2_with fail
      go_returns
      exact ⟨_, _, _, _, rfl, .inl ⟨hlt, rfl, rfl, rfl, rfl⟩, by go_grown⟩
  · have hd : decide (q ≤ m) = false := decide_eq_false hlt
    have hS := Sides.start (p := p) (q := q) (m := m) hg hm.1 (by omega)
    have hF := fun w => floorDiv_any p q w (by omega) (by omega) (by omega) (by omega)
    obtain ⟨hb1, hb2⟩ := hS.bd (by omega) hp
    generalize p / q = f at *
    have mixed : Try.prog.follows .mixedOrders = true := by kernel_rfl
    have HS := hide hS
    clear hS
    go_enter Try.func37, Try.ntmps37
    go_wp2_with fail
    refine (hF _).mono ?_
    rintro e w1 ⟨rfl, rfl⟩
    go_wp2_with fail
    go_loopw [9] (fun _ wr => ∃ a b c d, Sides p q m a b c d ∧ Blk wr w.heap.size 25 #[.int .i64 p, .int .i64 q] ∧ Blk wr (w.heap.size + 1) 25 #[.int .i64 0, .int .i64 0] ∧ Blk wr (w.heap.size + 1 + 1) 25 #[.int .i64 0, .int .i64 0] ∧ Blk wr (w.heap.size + 1 + 1 + 1) 25 #[.int .i64 a, .int .i64 b] ∧ Blk wr (w.heap.size + 1 + 1 + 1 + 1) 25 #[.int .i64 c, .int .i64 d] ∧ Below w.heap.size w wr) (fun _ wr => (2 * m - cI wr (w.heap.size + 1 + 1 + 1) 1 - cI wr (w.heap.size + 1 + 1 + 1 + 1) 1).toNat)
    case atStart =>
      exact ⟨_, _, _, _, HS.out, ((((Blk.new w _ _).alloc _).alloc _).alloc _).alloc _, (((Blk.newAt (by simp)).alloc _).alloc _).alloc _, ((Blk.newAt (by simp)).alloc _).alloc _, (Blk.newAt (by simp)).alloc _, Blk.newAt (by simp), by go_grown⟩
    case round =>
      obtain ⟨a, b, c, d, hS, H2, H4, H5, H7, H8, hbel⟩ := hrel
      obtain ⟨A, B, k, kc, kd, kB, a2, b2, A2, j, ja, jb, c2, d2, pb, aq, cq, pd, pb2, aq2, ⟨r1, r2, r3, r4, r5, r6⟩, ⟨r7, r8, r9, r10⟩, ⟨r11, r12, r13, r14, r15, r16⟩, ⟨r17, r18, r19⟩, ⟨r20, r21, r22, r23, r24, r25, r26⟩, ⟨r27, r28, r29⟩, ⟨r30, r31, r32, r33, r34, r35⟩, ⟨r36, r37⟩, ⟨hS2, hS3⟩, hend⟩ := hS.round hg (by omega) hp hq.2
      have hb := hS.b1; have hbm := hS.bm; have hd1 := hS.d1; have hdm := hS.dm
      obtain ⟨ha9, hc9⟩ := hS.bd (by omega) hp
      have hb2 := hS2.b1; have hbm2 := hS2.bm
      obtain ⟨ha29, -⟩ := hS2.bd (by omega) hp
      have hd2 := hS3.d1; have hdm2 := hS3.dm
      obtain ⟨-, hc29⟩ := hS3.bd (by omega) hp
      have z1 : sz (p * b - a * q) = A := by rw [r1, r2, r7]; unfold sz; rw [if_neg (by omega)]
      have z2 : sz (p * d - c * q) = B := by rw [r3, r4]; unfold sz; rw [if_pos (by omega)]; omega
      have cE1 := fun w => errorOf_any p q a b w hp hq (by omega) (by omega)
      have cE2 := fun w => errorOf_any p q c d w hp hq (by omega) (by omega)
      rw [z1] at cE1
      rw [z2] at cE2
      obtain ⟨x2, -, -, -⟩ := H2.after (Below.refl _ _) H2.lt
      obtain ⟨x7, -, -, -⟩ := H7.after (Below.refl _ _) H7.lt
      obtain ⟨x8, -, -, -⟩ := H8.after (Below.refl _ _) H8.lt
      have y1 : ∀ d os, (grow (redrawn wr d) os).cell? ⟨w.heap.size, 0, none⟩ = some (.int .i64 p) := fun d os => cell_regrown (x2 0) d os
      have y2 : ∀ d os, (grow (redrawn wr d) os).cell? ⟨w.heap.size, 1, none⟩ = some (.int .i64 q) := fun d os => cell_regrown (x2 1) d os
      have y3 : ∀ d os, (grow (redrawn wr d) os).cell? ⟨w.heap.size + 1 + 1 + 1, 0, none⟩ = some (.int .i64 a) := fun d os => cell_regrown (x7 0) d os
      have y4 : ∀ d os, (grow (redrawn wr d) os).cell? ⟨w.heap.size + 1 + 1 + 1, 1, none⟩ = some (.int .i64 b) := fun d os => cell_regrown (x7 1) d os
      have y5 : ∀ d os, (grow (redrawn wr d) os).cell? ⟨w.heap.size + 1 + 1 + 1 + 1, 0, none⟩ = some (.int .i64 c) := fun d os => cell_regrown (x8 0) d os
      have y6 : ∀ e os, (grow (redrawn wr e) os).cell? ⟨w.heap.size + 1 + 1 + 1 + 1, 1, none⟩ = some (.int .i64 d) := fun d os => cell_regrown (x8 1) d os
      have cN1 : ∀ d os, Calls Try.prog 67 #[.agg #[.int .i64 p, .int .i64 q], .agg #[.int .i64 a, .int .i64 b]] (grow (redrawn wr d) os) fun e w'' => e = .returned (.int .i64 A) ∧ ∃ p : Regrown, w'' = grow (redrawn wr p.d) p.os := fun d os => Calls.regrown_of (cE1 _)
      have cN2 : ∀ e os, Calls Try.prog 67 #[.agg #[.int .i64 p, .int .i64 q], .agg #[.int .i64 c, .int .i64 d]] (grow (redrawn wr e) os) fun e w'' => e = .returned (.int .i64 B) ∧ ∃ p : Regrown, w'' = grow (redrawn wr p.d) p.os := fun d os => Calls.regrown_of (cE2 _)
      have HS2 := hide hS2
      have HS3 := hide hS3
      have HE := hide hend
      have HS1 := hide hS
      have G2 := hide H2
      have G4 := hide H4
      have G5 := hide H5
      have G7 := hide H7
      have G8 := hide H8
      clear x2 x7 x8 cE1 cE2 hS hS2 hS3 hend H2 H4 H5 H7 H8 HS hF z1 z2
      go_wp2_with fail
      refine wp_region_quiet_below (by assumption) (by kernel_rfl) ?_
      repeat (first | go_big_quiet_step (first | with_reducible exact cN1 _ _ | with_reducible exact cN2 _ _) | quiet_step (first | with_reducible exact cN1 _ _ | with_reducible exact cN2 _ _))
      refine wpQuiet_nil ?_
      intro _ hw'
      obtain ⟨⟨dq, osq⟩, hw''⟩ := hw'
      subst hw''
      have hb3 := below_regrown wr dq osq
      generalize grow (redrawn wr dq) osq = wn at *
      clear y1 y2 y3 y4 y5 y6 cN1 cN2
      have sn := hb3.size
      have hbn := bch hbel hb3
      obtain ⟨x7, z7, u7, I7⟩ := G7.out.after hb3 G7.out.lt
      obtain ⟨x8, z8, u8, I8⟩ := G8.out.after hb3 G8.out.lt
      obtain ⟨x4, z4, u4, I4⟩ := G4.out.after hb3 G4.out.lt
      obtain ⟨x5, z5, u5, I5⟩ := G5.out.after hb3 G5.out.lt
      have x70 := x7 0
      have x71 := x7 1
      have x80 := x8 0
      have x81 := x8 1
      have z70 := z7 0
      have z71 := z7 1
      have z80 := z8 0
      have z81 := z8 1
      have I2 := hide (G2.out.bel hb3)
      have x40 := x4 0
      have x41 := x4 1
      have x50 := x5 0
      have x51 := x5 1
      have z40 := z4 0
      have z41 := z4 1
      have z50 := z5 0
      have z51 := z5 1
      have mo : Hid (2 * m - cI wr (w.heap.size + 1 + 1 + 1) 1 - cI wr (w.heap.size + 1 + 1 + 1 + 1) 1 = 2 * m - b - d) := by
        rw [G7.out.cI, G8.out.cI]
        exact rfl
      clear x7 x8 z7 z8 x4 x5 z4 z5 G2 G4 G5 G7 G8
      have t1 : A.tdiv B = A / B := Int.tdiv_eq_ediv_of_nonneg (by omega)
      have t2 : (m - b).tdiv d = (m - b) / d := Int.tdiv_eq_ediv_of_nonneg (by omega)
      have t3 : B.tdiv A2 = B / A2 := Int.tdiv_eq_ediv_of_nonneg (by omega)
      have t4 : (m - d).tdiv b2 = (m - d) / b2 := Int.tdiv_eq_ediv_of_nonneg (by omega)
      have v1 := ediv_bd (n := A) (m := B) (by omega) 1000000000 (by omega)
      have v2 := ediv_bd (n := m - b) (m := d) (by omega) 1000000000 (by omega)
      have v3 := ediv_bd (n := B) (m := A2) (by omega) 1000000000 (by omega)
      have v4 := ediv_bd (n := m - d) (m := b2) (by omega) 1000000000 (by omega)
      generalize A / B = K1 at *
      generalize (m - b) / d = K2 at *
      generalize B / A2 = K3 at *
      generalize (m - d) / b2 = K4 at *
      go_upto_region 6 with fail
      go_cut [11] (fun v wc => v = .int .i64 k ∧ ∃ n, wc = wn.drewN n)
      case first => as_aux_lemma =>
        rcases Int.lt_or_le K2 K1 with hk | hk
        · have ek : K2 = k := by omega
          go_wp2_with fail
          go_quiet (fail)
          go_wp2_with fail
          go_meet
          case rel => exact ⟨by first | rfl | rw [ek], _, rfl⟩
        · have ek : K1 = k := by omega
          go_wp2_with fail
          go_quiet (fail)
          go_wp2_with fail
          go_meet
          case rel => exact ⟨by first | rfl | rw [ek], _, rfl⟩
      case rest =>
        obtain ⟨rfl, n1, rfl⟩ := hcut
        go_upto_region 9 with fail
        go_cut [12] (fun v wc => v = .int .i64 j ∧ ∃ n, wc = (((wn.drewN n1).setCell ⟨w.heap.size + 1 + 1 + 1, 0, none⟩ (.int .i64 a2)).setCell ⟨w.heap.size + 1 + 1 + 1, 1, none⟩ (.int .i64 b2)).drewN n)
        case first => as_aux_lemma =>
          rcases Int.lt_or_le K4 K3 with hk | hk
          · have ek : K4 = j := by omega
            go_wp2_with fail
            go_quiet (fail)
            go_wp2_with fail
            go_meet
            case rel => exact ⟨by first | rfl | rw [ek], _, rfl⟩
          · have ek : K3 = j := by omega
            go_wp2_with fail
            go_quiet (fail)
            go_wp2_with fail
            go_meet
            case rel => exact ⟨by first | rfl | rw [ek], _, rfl⟩
        case rest =>
          obtain ⟨rfl, n2, rfl⟩ := hcut
          have J7 := hide ((I7.out.drewN n1).set2 (x := .int .i64 a2) (y := .int .i64 b2) |>.drewN n2)
          have J8 := hide ((((I8.out.drewN n1).far (p := ⟨w.heap.size + 1 + 1 + 1, 0, none⟩) (by simp) (.int .i64 a2)).far (p := ⟨w.heap.size + 1 + 1 + 1, 1, none⟩) (by simp) (.int .i64 b2)).drewN n2)
          have J2 := hide ((((I2.out.drewN n1).far (p := ⟨w.heap.size + 1 + 1 + 1, 0, none⟩) (by simp; omega) (.int .i64 a2)).far (p := ⟨w.heap.size + 1 + 1 + 1, 1, none⟩) (by simp; omega) (.int .i64 b2)).drewN n2)
          have J4 := hide ((((I4.out.drewN n1).far (p := ⟨w.heap.size + 1 + 1 + 1, 0, none⟩) (by simp) (.int .i64 a2)).far (p := ⟨w.heap.size + 1 + 1 + 1, 1, none⟩) (by simp) (.int .i64 b2)).drewN n2)
          have J5 := hide ((((I5.out.drewN n1).far (p := ⟨w.heap.size + 1 + 1 + 1, 0, none⟩) (by simp) (.int .i64 a2)).far (p := ⟨w.heap.size + 1 + 1 + 1, 1, none⟩) (by simp) (.int .i64 b2)).drewN n2)
          have JB := belowN (((belowN hbn n1).setCell (p := ⟨w.heap.size + 1 + 1 + 1, 0, none⟩) (by simp; omega) (.int .i64 a2)).setCell (p := ⟨w.heap.size + 1 + 1 + 1, 1, none⟩) (by simp; omega) (.int .i64 b2)) n2
          have K7 := hide ((J7.out.far (p := ⟨w.heap.size + 1 + 1 + 1 + 1, 0, none⟩) (by simp) (.int .i64 c2)).far (p := ⟨w.heap.size + 1 + 1 + 1 + 1, 1, none⟩) (by simp) (.int .i64 d2))
          have K8 := hide (J8.out.set2 (x := .int .i64 c2) (y := .int .i64 d2))
          have K2 := hide ((J2.out.far (p := ⟨w.heap.size + 1 + 1 + 1 + 1, 0, none⟩) (by simp; omega) (.int .i64 c2)).far (p := ⟨w.heap.size + 1 + 1 + 1 + 1, 1, none⟩) (by simp; omega) (.int .i64 d2))
          have K4 := hide ((J4.out.far (p := ⟨w.heap.size + 1 + 1 + 1 + 1, 0, none⟩) (by simp) (.int .i64 c2)).far (p := ⟨w.heap.size + 1 + 1 + 1 + 1, 1, none⟩) (by simp) (.int .i64 d2))
          have K5 := hide ((J5.out.far (p := ⟨w.heap.size + 1 + 1 + 1 + 1, 0, none⟩) (by simp) (.int .i64 c2)).far (p := ⟨w.heap.size + 1 + 1 + 1 + 1, 1, none⟩) (by simp) (.int .i64 d2))
          have KB := (JB.setCell (p := ⟨w.heap.size + 1 + 1 + 1 + 1, 0, none⟩) (by simp; omega) (.int .i64 c2)).setCell (p := ⟨w.heap.size + 1 + 1 + 1 + 1, 1, none⟩) (by simp; omega) (.int .i64 d2)
          clear J7 J8 J2 J4 J5 JB I2 I4 I5 I7 I8 hbn
          by_cases hk0 : k = 0
          · by_cases hj0 : j = 0
            · have hfin : m < b2 + d2 := by rcases HE.out with ⟨_, _, h⟩ | ⟨h, _⟩; · exact h
                                            · exact absurd ⟨hk0, hj0⟩ h
              have hja : ja = 0 := by rw [← r32, hj0, Int.zero_mul]
              have hjb : jb = 0 := by rw [← r33, hj0, Int.zero_mul]
              obtain rfl : c2 = c := by omega
              obtain rfl : d2 = d := by omega
              clear x40 x41 x50 x51 z40 z41 z50 z51
              go_wp2_with fail
              generalize ((((((wn.drewN n1).setCell ⟨w.heap.size + 1 + 1 + 1, 0, none⟩ (.int .i64 a2)).setCell ⟨w.heap.size + 1 + 1 + 1, 1, none⟩ (.int .i64 b2)).drewN n2).setCell ⟨w.heap.size + 1 + 1 + 1 + 1, 0, none⟩ (.int .i64 c2)).setCell ⟨w.heap.size + 1 + 1 + 1 + 1, 1, none⟩ (.int .i64 d2)) = V at *
              obtain ⟨c7, -, -, -⟩ := K7.out.after (Below.refl _ _) K7.out.lt
              obtain ⟨c8, -, -, -⟩ := K8.out.after (Below.refl _ _) K8.out.lt
              obtain ⟨c4, f4, -, -⟩ := K4.out.after (Below.refl _ _) K4.out.lt
              obtain ⟨c5, f5, -, -⟩ := K5.out.after (Below.refl _ _) K5.out.lt
              have c70 : V.cell? ⟨w.heap.size + 1 + 1 + 1, 0, none⟩ = some (.int .i64 a2) := c7 0
              have c71 : V.cell? ⟨w.heap.size + 1 + 1 + 1, 1, none⟩ = some (.int .i64 b2) := c7 1
              have c80 : V.cell? ⟨w.heap.size + 1 + 1 + 1 + 1, 0, none⟩ = some (.int .i64 c2) := c8 0
              have c81 : V.cell? ⟨w.heap.size + 1 + 1 + 1 + 1, 1, none⟩ = some (.int .i64 d2) := c8 1
              have c40 : V.cell? ⟨w.heap.size + 1, 0, none⟩ = some (.int .i64 0) := c4 0
              have c41 : V.cell? ⟨w.heap.size + 1, 1, none⟩ = some (.int .i64 0) := c4 1
              have c50 : V.cell? ⟨w.heap.size + 1 + 1, 0, none⟩ = some (.int .i64 0) := c5 0
              have c51 : V.cell? ⟨w.heap.size + 1 + 1, 1, none⟩ = some (.int .i64 0) := c5 1
              have f40 := f4 0
              have f41 := f4 1
              have f50 := f5 0
              have f51 := f5 1
              have m40 := K4.out.same_ (i := 0) (by simp) (.int .i64 a2)
              have m41 := (K4.out.set_ 0 (.int .i64 a2)).same_ (i := 1) (by simp) (.int .i64 b2)
              have L5 := (K5.out.far (p := ⟨w.heap.size + 1, 0, none⟩) (by simp) (.int .i64 a2)).far (p := ⟨w.heap.size + 1, 1, none⟩) (by simp) (.int .i64 b2)
              have m50 := L5.same_ (i := 0) (by simp) (.int .i64 c2)
              have m51 := (L5.set_ 0 (.int .i64 c2)).same_ (i := 1) (by simp) (.int .i64 d2)
              have M0 := hide m40
              have M1 := hide m41
              have M2 := hide m50
              have M3 := hide m51
              clear c7 c8 c4 c5 f4 f5 K2 K4 K5 K7 K8 x70 x71 x80 x81 z70 z71 z80 z81 mo HE HS1 HS3 L5 m40 m41 m50 m51
              go_region
              all_goals
                go_wp2_with fail
                refine bodyPost_ret (v := .tuple #[.agg #[.int .i64 a2, .int .i64 b2], .agg #[.int .i64 c2, .int .i64 d2]]) (by simp [results, Try.results37, go_sem, M0.out, M1.out, M2.out, M3.out]) rfl ⟨_, _, _, _, rfl, .inr ⟨by omega, HS2.out, hfin⟩, ((((KB.setCell (show w.heap.size ≤ w.heap.size + 1 by omega) _).setCell (show w.heap.size ≤ w.heap.size + 1 by omega) _).setCell (show w.heap.size ≤ w.heap.size + 1 + 1 by omega) _).setCell (show w.heap.size ≤ w.heap.size + 1 + 1 by omega) _).drew⟩
            · go_wp2_with fail
              go_roundw
              case rel => exact ⟨a2, b2, c2, d2, HS3.out, K2.out, K4.out, K5.out, K7.out, K8.out, KB⟩
              case measure =>
                rw [K7.out.cI, K8.out.cI, mo.out]
                have := HE.out
                simp only [intOf]
                omega
          · go_wp2_with fail
            go_roundw
            case rel => exact ⟨a2, b2, c2, d2, HS3.out, K2.out, K4.out, K5.out, K7.out, K8.out, KB⟩
            case measure =>
              rw [K7.out.cI, K8.out.cI, mo.out]
              have := HE.out
              simp only [intOf]
              omega

end Go.Proofs.Ytnjilpldfidbjaa
