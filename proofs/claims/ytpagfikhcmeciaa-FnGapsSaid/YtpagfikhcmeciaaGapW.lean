/- The law FnGaps: its walk. -/
import Derived.Test.YtpagfikhcmeciaaGapS
import Derived.Test.YtpagfikhcmeciaaDrwZ
import Derived.Test.YtpagfikhcmeciaaF6F
import Derived.Test.YtpagfikhcmeciaaMulB
import Derived.Deep.DeepCutAuto
import Derived.StillTailTactics
namespace Go.Proofs.Ytpagfikhcmeciaa
open Go.RowKit Go.Sort

theorem bnextG {W w0 w1 : World} {P : Prop} (h : Below W.heap.size W w0 ∧ P) (hb : Below w0.heap.size w0 w1) : Below W.heap.size W w1 := h.1.trans (hb.mono h.1.size)
theorem ballocG {W w0 : World} {P : Prop} {o : Obj} (h : Below W.heap.size W w0 ∧ P) : Below W.heap.size W (w0.alloc o) := h.1.alloc h.1.size o
theorem bA {W w4 : World} {o : Obj} (hb : Below (W.alloc o).drew.heap.size (W.alloc o).drew w4) : Below W.heap.size W w4 :=
  (((Below.refl W.heap.size W).alloc (Nat.le_refl _) o).drew).trans (hb.mono (by simp))
theorem bD {W w4 : World} (hb : Below W.drew.heap.size W.drew w4) : Below W.heap.size W w4 := (Below.refl W.heap.size W).drew.trans hb

theorem Lst.cellAtL {w : World} {B : Nat} {A : Option Addr} {n cap : Nat} {xs : List Int} (h : Lst w B (.slice A n cap) xs) {i : Nat} (hi : i < n) : ∃ g, A = some ⟨g, 0, none⟩ ∧ g < w.heap.size ∧ w.cell? ⟨g, i, none⟩ = some (.int .i64 (xs.getD i 0)) := by
  obtain ⟨A', n', c', e, hn, _, h⟩ := h
  injection e with e1 e2 e3
  subst e1 e2 e3
  rcases h with ⟨_, h0⟩ | ⟨g, rfl, _, hr⟩
  · omega
  · obtain ⟨b, o, e, hb, hc⟩ := (hr.rd).cell hi
    injection e with e
    injection e with e1 e2
    subst e1 e2
    rw [il_getD (by omega)] at hc
    exact ⟨g, rfl, hr.lt, by simpa using hc⟩

set_option maxRecDepth 100000 in
set_option maxHeartbeats 8000000 in
theorem law_Gaps (A : Option Addr) (n c : Nat) (xs : List Int) (w : World) (h : Rd w w.heap.size 1 A n (u8l xs)) (hn : n ≤ 9223372036854775807) (hx : ∀ x ∈ xs, 0 ≤ x ∧ x ≤ 255) :
    Calls Try.prog 3 #[.slice A n c] w fun e w' => e = .returned (.bool true) ∧ Below w.heap.size w w' := by
  by_cases hbig : 4096 < n
  · go_enter Try.func3, Try.ntmps3
    go_wp2_with fail
    refine (f6big_any A n c _ hn).mono ?_
    rintro e w1 ⟨rfl, rfl⟩
    go_wp2_with fail
    go_ret
    exact ⟨rfl, Below.refl _ _⟩
  · go_enter Try.func3, Try.ntmps3
    go_wp2_with fail
    refine (f6big_any A n c _ hn).mono ?_
    rintro e w1 ⟨rfl, rfl⟩
    go_wp2_with fail
    refine (drawGapLengths_any A n c xs _ h hn hx).mono ?_
    rintro e w1 ⟨p, q, kq, rfl, b1⟩
    have hI1 := implGapLengths_any p q kq
    have hS1 := specGapLengths_any p q kq
    have hI2 := implGapsOf_any p q kq
    have hS2 := specGapsOf_any p q kq
    have hI3 := implGapCounts_any p q kq
    have hS3 := specGapCounts_any p q kq
    have hI4 := implOrderOfMultiples_any p q kq
    have hS4 := specOrderOfMultiples_any p q kq
    obtain ⟨gc, hgc⟩ : ∃ gc, gpc p q kq = gc := ⟨_, rfl⟩
    obtain ⟨X1, hX1⟩ : ∃ X, glx p q kq = X := ⟨_, rfl⟩
    obtain ⟨X2, hX2⟩ : ∃ X, gpx p q kq = X := ⟨_, rfl⟩
    obtain ⟨X3, hX3⟩ : ∃ X, gcx p q kq = X := ⟨_, rfl⟩
    obtain ⟨X4, hX4⟩ : ∃ X, odx p q kq = X := ⟨_, rfl⟩
    rw [hgc, hX1] at hI1 hS1
    rw [hgc, hX2] at hI2 hS2
    rw [hgc, hX3] at hI3 hS3
    rw [hgc, hX4] at hI4 hS4
    have HGC := hide hgc
    have HX1 := hide hX1
    have HX2 := hide hX2
    have HX3 := hide hX3
    have HX4 := hide hX4
    have B1 := b1.alloc b1.size (.cells #[.int .i64 p, .int .i64 q] 25)
    have HF := hide (Blk.new w1 25 #[.int .i64 p, .int .i64 q])
    clear b1 hbig hgc hX1 hX2 hX3 hX4
    obtain ⟨HFc, -, -, -⟩ := HF.out.after (Below.refl _ _) HF.out.lt
    have HFx0 := HFc 0
    have HFx1 := HFc 1
    clear HFc
    go_wp2_with fail
    refine (hI1 _).mono ?_
    rintro e w2 ⟨v1, rfl, L10, b2⟩
    have B2 := bch B1 b2
    clear HFx0 HFx1
    have HF := hide (HF.out.bel b2)
    clear b2 B1
    obtain ⟨HFc, -, -, -⟩ := HF.out.after (Below.refl _ _) HF.out.lt
    have HFx0 := HFc 0
    have HFx1 := HFc 1
    clear HFc
    have L1 := hide L10
    clear L10
    go_wp2_with fail
    refine (hS1 _).mono ?_
    rintro e w3 ⟨v2, rfl, L20, b3⟩
    have B3 := bch B2 b3
    clear HFx0 HFx1
    have HF := hide (HF.out.bel b3)
    have L1 := hide (L1.out.keep b3)
    clear b3 B2
    obtain ⟨HFc, -, -, -⟩ := HF.out.after (Below.refl _ _) HF.out.lt
    have HFx0 := HFc 0
    have HFx1 := HFc 1
    clear HFc
    have L2 := hide L20
    clear L20
    go_wp2_with fail
    refine (hI2 _).mono ?_
    rintro e w4 ⟨v3, rfl, L30, b4⟩
    have B4 := bch B3 b4
    clear HFx0 HFx1
    have HF := hide (HF.out.bel b4)
    have L1 := hide (L1.out.keep b4)
    have L2 := hide (L2.out.keep b4)
    clear b4 B3
    obtain ⟨HFc, -, -, -⟩ := HF.out.after (Below.refl _ _) HF.out.lt
    have HFx0 := HFc 0
    have HFx1 := HFc 1
    clear HFc
    have L3 := hide L30
    clear L30
    go_wp2_with fail
    refine (hS2 _).mono ?_
    rintro e w5 ⟨v4, rfl, L40, b5⟩
    have B5 := bch B4 b5
    clear HFx0 HFx1
    have HF := hide (HF.out.bel b5)
    have L1 := hide (L1.out.keep b5)
    have L2 := hide (L2.out.keep b5)
    have L3 := hide (L3.out.keep b5)
    clear b5 B4
    obtain ⟨HFc, -, -, -⟩ := HF.out.after (Below.refl _ _) HF.out.lt
    have HFx0 := HFc 0
    have HFx1 := HFc 1
    clear HFc
    have L4 := hide L40
    clear L40
    go_wp2_with fail
    refine (hI3 _).mono ?_
    rintro e w6 ⟨v5, rfl, L50, b6⟩
    have B6 := bch B5 b6
    clear HFx0 HFx1
    have HF := hide (HF.out.bel b6)
    have L1 := hide (L1.out.keep b6)
    have L2 := hide (L2.out.keep b6)
    have L3 := hide (L3.out.keep b6)
    have L4 := hide (L4.out.keep b6)
    clear b6 B5
    obtain ⟨HFc, -, -, -⟩ := HF.out.after (Below.refl _ _) HF.out.lt
    have HFx0 := HFc 0
    have HFx1 := HFc 1
    clear HFc
    have L5 := hide L50
    clear L50
    go_wp2_with fail
    refine (hS3 _).mono ?_
    rintro e w7 ⟨v6, rfl, L60, b7⟩
    have B7 := bch B6 b7
    clear HFx0 HFx1
    have HF := hide (HF.out.bel b7)
    have L1 := hide (L1.out.keep b7)
    have L2 := hide (L2.out.keep b7)
    have L3 := hide (L3.out.keep b7)
    have L4 := hide (L4.out.keep b7)
    have L5 := hide (L5.out.keep b7)
    clear b7 B6
    obtain ⟨HFc, -, -, -⟩ := HF.out.after (Below.refl _ _) HF.out.lt
    have HFx0 := HFc 0
    have HFx1 := HFc 1
    clear HFc
    have L6 := hide L60
    clear L60
    go_wp2_with fail
    refine (hI4 _).mono ?_
    rintro e w8 ⟨v7, rfl, L70, b8⟩
    have B8 := bch B7 b8
    clear HFx0 HFx1
    have HF := hide (HF.out.bel b8)
    have L1 := hide (L1.out.keep b8)
    have L2 := hide (L2.out.keep b8)
    have L3 := hide (L3.out.keep b8)
    have L4 := hide (L4.out.keep b8)
    have L5 := hide (L5.out.keep b8)
    have L6 := hide (L6.out.keep b8)
    clear b8 B7
    obtain ⟨HFc, -, -, -⟩ := HF.out.after (Below.refl _ _) HF.out.lt
    have HFx0 := HFc 0
    have HFx1 := HFc 1
    clear HFc
    have L7 := hide L70
    clear L70
    go_wp2_with fail
    refine (hS4 _).mono ?_
    rintro e w9 ⟨v8, rfl, L80, b9⟩
    have B9 := bch B8 b9
    clear HFx0 HFx1
    have HF := hide (HF.out.bel b9)
    have L1 := hide (L1.out.keep b9)
    have L2 := hide (L2.out.keep b9)
    have L3 := hide (L3.out.keep b9)
    have L4 := hide (L4.out.keep b9)
    have L5 := hide (L5.out.keep b9)
    have L6 := hide (L6.out.keep b9)
    have L7 := hide (L7.out.keep b9)
    clear b9 B8
    obtain ⟨HFc, -, -, -⟩ := HF.out.after (Below.refl _ _) HF.out.lt
    have HFx0 := HFc 0
    have HFx1 := HFc 1
    clear HFc
    have L8 := hide L80
    clear L80
    clear HFx0 HFx1 HF
    clear hI1 hS1 hI2 hS2 hI3 hS3 hI4 hS4
    go_wp2_with fail
    refine (drawMultipleAt_any A n c xs _ ((h.below B9).more B9.size) hn hx).mono ?_
    rintro e w10 ⟨p2, q2, k2, rfl, b10⟩
    have B10 := bch B9 b10
    have L1 := hide (L1.out.keep b10)
    have L2 := hide (L2.out.keep b10)
    have L3 := hide (L3.out.keep b10)
    have L4 := hide (L4.out.keep b10)
    have L5 := hide (L5.out.keep b10)
    have L6 := hide (L6.out.keep b10)
    have L7 := hide (L7.out.keep b10)
    have L8 := hide (L8.out.keep b10)
    clear b10 B9
    have HM := hide (Blk.new w10 25 #[.int .i64 p2, .int .i64 q2])
    have L1 := hide (L1.out.keep (show Below w10.heap.size w10 (w10.alloc (.cells #[.int .i64 p2, .int .i64 q2] 25)) by go_grown))
    have L2 := hide (L2.out.keep (show Below w10.heap.size w10 (w10.alloc (.cells #[.int .i64 p2, .int .i64 q2] 25)) by go_grown))
    have L3 := hide (L3.out.keep (show Below w10.heap.size w10 (w10.alloc (.cells #[.int .i64 p2, .int .i64 q2] 25)) by go_grown))
    have L4 := hide (L4.out.keep (show Below w10.heap.size w10 (w10.alloc (.cells #[.int .i64 p2, .int .i64 q2] 25)) by go_grown))
    have L5 := hide (L5.out.keep (show Below w10.heap.size w10 (w10.alloc (.cells #[.int .i64 p2, .int .i64 q2] 25)) by go_grown))
    have L6 := hide (L6.out.keep (show Below w10.heap.size w10 (w10.alloc (.cells #[.int .i64 p2, .int .i64 q2] 25)) by go_grown))
    have L7 := hide (L7.out.keep (show Below w10.heap.size w10 (w10.alloc (.cells #[.int .i64 p2, .int .i64 q2] 25)) by go_grown))
    have L8 := hide (L8.out.keep (show Below w10.heap.size w10 (w10.alloc (.cells #[.int .i64 p2, .int .i64 q2] 25)) by go_grown))
    have B10 := B10.alloc B10.size (.cells #[.int .i64 p2, .int .i64 q2] 25)
    obtain ⟨HMc, -, -, -⟩ := HM.out.after (Below.refl _ _) HM.out.lt
    have HMx0 := HMc 0
    have HMx1 := HMc 1
    clear HMc
    have hI5 := implMultipleAt_any p2 q2 k2
    have hS5 := specMultipleAt_any p2 q2 k2
    obtain ⟨mx, my, mc, hml⟩ := mlv_some p2 q2 k2
    rw [hml] at hI5 hS5
    clear hml
    go_wp2_with fail
    refine (hI5 _).mono ?_
    rintro e w11 ⟨rfl, b11⟩
    have B11 := bch B10 b11
    clear HMx0 HMx1
    have HM := hide (HM.out.bel b11)
    have L1 := hide (L1.out.keep b11)
    have L2 := hide (L2.out.keep b11)
    have L3 := hide (L3.out.keep b11)
    have L4 := hide (L4.out.keep b11)
    have L5 := hide (L5.out.keep b11)
    have L6 := hide (L6.out.keep b11)
    have L7 := hide (L7.out.keep b11)
    have L8 := hide (L8.out.keep b11)
    clear b11 B10
    obtain ⟨HMc, -, -, -⟩ := HM.out.after (Below.refl _ _) HM.out.lt
    have HMx0 := HMc 0
    have HMx1 := HMc 1
    clear HMc
    have HX := hide (Blk.new w11 25 #[.int .i64 mx, .int .i64 my])
    clear HMx0 HMx1
    have HM := hide (HM.out.alloc (.cells #[.int .i64 mx, .int .i64 my] 25))
    have L1 := hide (L1.out.keep (show Below w11.heap.size w11 (w11.alloc (.cells #[.int .i64 mx, .int .i64 my] 25)) by go_grown))
    have L2 := hide (L2.out.keep (show Below w11.heap.size w11 (w11.alloc (.cells #[.int .i64 mx, .int .i64 my] 25)) by go_grown))
    have L3 := hide (L3.out.keep (show Below w11.heap.size w11 (w11.alloc (.cells #[.int .i64 mx, .int .i64 my] 25)) by go_grown))
    have L4 := hide (L4.out.keep (show Below w11.heap.size w11 (w11.alloc (.cells #[.int .i64 mx, .int .i64 my] 25)) by go_grown))
    have L5 := hide (L5.out.keep (show Below w11.heap.size w11 (w11.alloc (.cells #[.int .i64 mx, .int .i64 my] 25)) by go_grown))
    have L6 := hide (L6.out.keep (show Below w11.heap.size w11 (w11.alloc (.cells #[.int .i64 mx, .int .i64 my] 25)) by go_grown))
    have L7 := hide (L7.out.keep (show Below w11.heap.size w11 (w11.alloc (.cells #[.int .i64 mx, .int .i64 my] 25)) by go_grown))
    have L8 := hide (L8.out.keep (show Below w11.heap.size w11 (w11.alloc (.cells #[.int .i64 mx, .int .i64 my] 25)) by go_grown))
    have B11 := B11.alloc B11.size (.cells #[.int .i64 mx, .int .i64 my] 25)
    obtain ⟨HMc, -, -, -⟩ := HM.out.after (Below.refl _ _) HM.out.lt
    have HMx0 := HMc 0
    have HMx1 := HMc 1
    clear HMc
    obtain ⟨HXc, -, -, -⟩ := HX.out.after (Below.refl _ _) HX.out.lt
    have HXx0 := HXc 0
    have HXx1 := HXc 1
    clear HXc
    go_wp2_with fail
    refine (hS5 _).mono ?_
    rintro e w12 ⟨rfl, b12⟩
    have B12 := bch B11 b12
    clear HMx0 HMx1
    have HM := hide (HM.out.bel b12)
    clear HXx0 HXx1
    have HX := hide (HX.out.bel b12)
    have L1 := hide (L1.out.keep b12)
    have L2 := hide (L2.out.keep b12)
    have L3 := hide (L3.out.keep b12)
    have L4 := hide (L4.out.keep b12)
    have L5 := hide (L5.out.keep b12)
    have L6 := hide (L6.out.keep b12)
    have L7 := hide (L7.out.keep b12)
    have L8 := hide (L8.out.keep b12)
    clear b12 B11
    obtain ⟨HMc, -, -, -⟩ := HM.out.after (Below.refl _ _) HM.out.lt
    have HMx0 := HMc 0
    have HMx1 := HMc 1
    clear HMc
    obtain ⟨HXc, -, -, -⟩ := HX.out.after (Below.refl _ _) HX.out.lt
    have HXx0 := HXc 0
    have HXx1 := HXc 1
    clear HXc
    have HY := hide (Blk.new w12 25 #[.int .i64 mx, .int .i64 my])
    clear HMx0 HMx1
    have HM := hide (HM.out.alloc (.cells #[.int .i64 mx, .int .i64 my] 25))
    clear HXx0 HXx1
    have HX := hide (HX.out.alloc (.cells #[.int .i64 mx, .int .i64 my] 25))
    have L1 := hide (L1.out.keep (show Below w12.heap.size w12 (w12.alloc (.cells #[.int .i64 mx, .int .i64 my] 25)) by go_grown))
    have L2 := hide (L2.out.keep (show Below w12.heap.size w12 (w12.alloc (.cells #[.int .i64 mx, .int .i64 my] 25)) by go_grown))
    have L3 := hide (L3.out.keep (show Below w12.heap.size w12 (w12.alloc (.cells #[.int .i64 mx, .int .i64 my] 25)) by go_grown))
    have L4 := hide (L4.out.keep (show Below w12.heap.size w12 (w12.alloc (.cells #[.int .i64 mx, .int .i64 my] 25)) by go_grown))
    have L5 := hide (L5.out.keep (show Below w12.heap.size w12 (w12.alloc (.cells #[.int .i64 mx, .int .i64 my] 25)) by go_grown))
    have L6 := hide (L6.out.keep (show Below w12.heap.size w12 (w12.alloc (.cells #[.int .i64 mx, .int .i64 my] 25)) by go_grown))
    have L7 := hide (L7.out.keep (show Below w12.heap.size w12 (w12.alloc (.cells #[.int .i64 mx, .int .i64 my] 25)) by go_grown))
    have L8 := hide (L8.out.keep (show Below w12.heap.size w12 (w12.alloc (.cells #[.int .i64 mx, .int .i64 my] 25)) by go_grown))
    have B12 := B12.alloc B12.size (.cells #[.int .i64 mx, .int .i64 my] 25)
    obtain ⟨HMc, -, -, -⟩ := HM.out.after (Below.refl _ _) HM.out.lt
    have HMx0 := HMc 0
    have HMx1 := HMc 1
    clear HMc
    obtain ⟨HXc, -, -, -⟩ := HX.out.after (Below.refl _ _) HX.out.lt
    have HXx0 := HXc 0
    have HXx1 := HXc 1
    clear HXc
    obtain ⟨HYc, -, -, -⟩ := HY.out.after (Below.refl _ _) HY.out.lt
    have HYx0 := HYc 0
    have HYx1 := HYc 1
    clear HYc
    clear HMx0 HMx1 HM
    clear hI5 hS5 h hx
    have qq0 : (gc != gc) = false := by simp
    have qq1 : (mc != mc) = false := by simp
    have qq2 : (mx != mx) = false := by simp
    have qq3 : (my != my) = false := by simp
    have ee0 : (mx == mx) = true := by simp
    have ee1 : (my == my) = true := by simp
    go_wp2_with fail
    refine (f6fractions_any _ _ _ _ X1 _ L1.out L2.out).mono ?_
    rintro e w13 ⟨rfl, b13⟩
    have B13 := bch B12 b13
    clear HXx0 HXx1
    have HX := hide (HX.out.bel b13)
    clear HYx0 HYx1
    have HY := hide (HY.out.bel b13)
    have L1 := hide (L1.out.keep b13)
    have L2 := hide (L2.out.keep b13)
    have L3 := hide (L3.out.keep b13)
    have L4 := hide (L4.out.keep b13)
    have L5 := hide (L5.out.keep b13)
    have L6 := hide (L6.out.keep b13)
    have L7 := hide (L7.out.keep b13)
    have L8 := hide (L8.out.keep b13)
    clear b13 B12
    obtain ⟨HXc, -, -, -⟩ := HX.out.after (Below.refl _ _) HX.out.lt
    have HXx0 := HXc 0
    have HXx1 := HXc 1
    clear HXc
    obtain ⟨HYc, -, -, -⟩ := HY.out.after (Below.refl _ _) HY.out.lt
    have HYx0 := HYc 0
    have HYx1 := HYc 1
    clear HYc
    clear L1
    go_wp2_with fail
    refine (f6fractions_any _ _ _ _ X2 _ L3.out L4.out).mono ?_
    rintro e w14 ⟨rfl, b14⟩
    have B14 := bch B13 b14
    clear HXx0 HXx1
    have HX := hide (HX.out.bel b14)
    clear HYx0 HYx1
    have HY := hide (HY.out.bel b14)
    have L2 := hide (L2.out.keep b14)
    have L3 := hide (L3.out.keep b14)
    have L4 := hide (L4.out.keep b14)
    have L5 := hide (L5.out.keep b14)
    have L6 := hide (L6.out.keep b14)
    have L7 := hide (L7.out.keep b14)
    have L8 := hide (L8.out.keep b14)
    clear b14 B13
    obtain ⟨HXc, -, -, -⟩ := HX.out.after (Below.refl _ _) HX.out.lt
    have HXx0 := HXc 0
    have HXx1 := HXc 1
    clear HXc
    obtain ⟨HYc, -, -, -⟩ := HY.out.after (Below.refl _ _) HY.out.lt
    have HYx0 := HYc 0
    have HYx1 := HYc 1
    clear HYc
    clear L3
    go_wp2_with fail
    refine (f6intsL_any _ _ _ _ X3 _ L5.out L6.out).mono ?_
    rintro e w15 ⟨rfl, b15⟩
    have B15 := bch B14 b15
    clear HXx0 HXx1
    have HX := hide (HX.out.bel b15)
    clear HYx0 HYx1
    have HY := hide (HY.out.bel b15)
    have L2 := hide (L2.out.keep b15)
    have L4 := hide (L4.out.keep b15)
    have L5 := hide (L5.out.keep b15)
    have L6 := hide (L6.out.keep b15)
    have L7 := hide (L7.out.keep b15)
    have L8 := hide (L8.out.keep b15)
    clear b15 B14
    obtain ⟨HXc, -, -, -⟩ := HX.out.after (Below.refl _ _) HX.out.lt
    have HXx0 := HXc 0
    have HXx1 := HXc 1
    clear HXc
    obtain ⟨HYc, -, -, -⟩ := HY.out.after (Below.refl _ _) HY.out.lt
    have HYx0 := HYc 0
    have HYx1 := HYc 1
    clear HYc
    clear L5
    go_wp2_with fail
    refine (f6intsL_any _ _ _ _ X4 _ L7.out L8.out).mono ?_
    rintro e w16 ⟨rfl, b16⟩
    have B16 := bch B15 b16
    clear HXx0 HXx1
    have HX := hide (HX.out.bel b16)
    clear HYx0 HYx1
    have HY := hide (HY.out.bel b16)
    have L2 := hide (L2.out.keep b16)
    have L4 := hide (L4.out.keep b16)
    have L6 := hide (L6.out.keep b16)
    have L7 := hide (L7.out.keep b16)
    have L8 := hide (L8.out.keep b16)
    clear b16 B15
    obtain ⟨HXc, -, -, -⟩ := HX.out.after (Below.refl _ _) HX.out.lt
    have HXx0 := HXc 0
    have HXx1 := HXc 1
    clear HXc
    obtain ⟨HYc, -, -, -⟩ := HY.out.after (Below.refl _ _) HY.out.lt
    have HYx0 := HYc 0
    have HYx1 := HYc 1
    clear HYc
    clear L8
    go_upto_region 17 with fail
    clear qq0 qq1 qq2 qq3 ee0 ee1 HXx0 HXx1 HX HYx0 HYx1 HY
    by_cases h0 : gc = 0
    · have hgp : gpc p q kq = 0 := HGC.out.trans h0
      have d0 : (gc != 0) = false := by rw [h0]; rfl
      obtain ⟨f1, f2, f3⟩ := gpc_ok hgp
      obtain ⟨o1, o2, o3⟩ := okF_iff.1 f1
      obtain ⟨m, rfl⟩ : ∃ m : Nat, kq = m := ⟨kq.toNat, by omega⟩
      have e1 : X1 = (puts (gps p q m)).map (red q) := by rw [← HX1.out]; unfold glx; rw [if_pos hgp, Int.toNat_natCast]
      have e2 : X2 = (gps p q m).map (red q) := by rw [← HX2.out]; unfold gpx gps; rw [if_pos hgp, Int.toNat_natCast]
      have e3 : X3 = cnt (gps p q m) := by rw [← HX3.out]; unfold gcx; rw [if_pos hgp, Int.toNat_natCast]
      have e4 : X4.length = m := by rw [← HX4.out]; unfold odx; rw [if_pos hgp, Int.toNat_natCast, ord_len]
      obtain ⟨g1, g2, g3⟩ := gap_lens (p := p) (q := q) (c := m) (by omega) o3 (by omega) (by omega)
      have hsum := fun i hi => gaps_sum (p := p) (q := q) (c := m) (by omega) o3 (by omega) (by omega) (i := i) hi
      have hgb := gap_bd (p := p) (q := q) (n := m) (by omega) o3 (by omega)
      have hpb := puts_bd (p := p) (q := q) (c := m) (by omega) o3 (by omega)
      have hcs := cnt_sum (gps p q m)
      have hcb := cnt_bd (gps p q m)
      have hcl := cnt_len (gps p q m)
      have hgl := gps_len p q m
      change ∀ x ∈ gps p q m, 0 < x ∧ x ≤ q at hgb
      generalize gps p q m = G at *
      subst e1 e2 e3
      have HSUM := hide hsum
      have HGB := hide hgb
      have HPB := hide hpb
      have HCS := hide hcs
      have HCB := hide hcb
      have HG3 := hide g3
      have HGL := hide hgl
      have HCL := hide hcl
      have hm : 1 ≤ m ∧ m ≤ 200 := by omega
      clear h0 hgp hsum hgb hpb hcs hcb g3 HX1 HX2 HX3 HX4 HGC f1 f2 f3
      obtain ⟨A2, z2, k2', rfl, hn2, -, -⟩ := L2.out
      obtain ⟨A4, z4, k4, rfl, hn4, -, -⟩ := L4.out
      obtain ⟨A6, z6, k6, rfl, hn6, -, -⟩ := L6.out
      obtain ⟨A7, z7, k7, rfl, hn7, -, -⟩ := L7.out
      rw [List.length_map] at hn2 hn4
      have hz2 : 1 ≤ z2 ∧ z2 ≤ 3 := by omega
      have hz6 : z6 ≤ 200 := by omega
      have i1 : ¬ (z2 : Int) < 1 := by omega
      have i2 : ¬ (3 : Int) < (z2 : Int) := by omega
      have HN2 := hide hn2
      have HN4 := hide (hn4.trans hgl)
      have HN6 := hide (hn6.trans hcl)
      have HN7 := hide (hn7.trans e4)
      clear hn2 hn4 hn6 hn7 hgl hcl e4 g1 g2
      obtain ⟨sb, hsb⟩ : ∃ sb, ((z2 : Int) == 3) = sb := ⟨_, rfl⟩
      have HSB := hide hsb
      obtain ⟨gA, rfl, hgA, -, -, -⟩ := L2.out.cellAt (i := 0) (by omega)
      go_upto_if 171 with fail
      go_cut [2] (fun x wc => x = .bool false ∧ Below w16.heap.size w16 wc)
      case first =>
        cases sb
        · clear hsb
          go_wp2_with fail
          go_meet
          case rel => exact ⟨rfl, Below.refl _ _⟩
        · have hz3 : z2 = 3 := by have : (z2 : Int) = 3 := by simpa using HSB.out
                                  omega
          have hcell : ∀ i (hi : i < z2), ∃ hl : i < ((puts G).map (red q)).length, w16.cell? ⟨gA, i * 2, none⟩ = some (.int .i64 (((puts G).map (red q))[i]).1) ∧ w16.cell? ⟨gA, i * 2 + 1, none⟩ = some (.int .i64 (((puts G).map (red q))[i]).2) := by
            intro i hi
            obtain ⟨g', hgg, _, hl, a, b⟩ := L2.out.cellAt hi
            injection hgg with hgg
            injection hgg with hgg
            subst hgg
            exact ⟨hl, a, b⟩
          obtain ⟨l0, a0, b0⟩ := hcell 0 (by omega)
          obtain ⟨l1, a1, b1⟩ := hcell 1 (by omega)
          obtain ⟨l2, a2, b2⟩ := hcell 2 (by omega)
          have hpl : (puts G).length = 3 := by have := HN2.out; omega
          have hd := HG3.out hpl
          rw [getD_getElem (by omega), getD_getElem (by omega), getD_getElem (by omega)] at hd
          have p0 := HPB.out _ (List.getElem_mem (show 0 < (puts G).length by omega))
          have p1 := HPB.out _ (List.getElem_mem (show 1 < (puts G).length by omega))
          have p2 := HPB.out _ (List.getElem_mem (show 2 < (puts G).length by omega))
          rw [List.getElem_map] at a0 b0 a1 b1 a2 b2
          rw [← hd] at a2 b2
          generalize (puts G)[0]'(by omega) = x0 at *
          generalize (puts G)[1]'(by omega) = x1 at *
          generalize (puts G)[2]'(by omega) = x2 at *
          have hAdd := fun w => addRed_any q x0 x1 w o1 (by omega) (by omega) (by omega)
          generalize (red q x0).1 = u0' at *
          generalize (red q x0).2 = t0' at *
          generalize (red q x1).1 = u1' at *
          generalize (red q x1).2 = t1' at *
          generalize (red q (x0 + x1)).1 = u2' at *
          generalize (red q (x0 + x1)).2 = t2' at *
          simp only [Nat.zero_mul, Nat.zero_add, Nat.one_mul, Nat.reduceMul, Nat.reduceAdd] at a0 b0 a1 b1 a2 b2
          have A2' : Hid (∀ W', Below w16.heap.size w16 W' → W'.cell? ⟨gA, 4, none⟩ = some (.int .i64 u2') ∧ W'.cell? ⟨gA, 5, none⟩ = some (.int .i64 t2')) := fun W' hb => ⟨(hb.cell (p := ⟨gA, 4, none⟩) hgA).trans a2, (hb.cell (p := ⟨gA, 5, none⟩) hgA).trans b2⟩
          have j0 : (0 : Int) < (z2 : Int) := by omega
          have j1 : (1 : Int) < (z2 : Int) := by omega
          have j2 : (2 : Int) < (z2 : Int) := by omega
          have j3 : 0 < z2 := by omega
          have j4 : 1 < z2 := by omega
          have j5 : 2 < z2 := by omega
          have k1 : (u2' != u2') = false := by simp
          have k2 : (t2' != t2') = false := by simp
          have k3 : (u2' == u2') = true := by simp
          have k4 : (t2' == t2') = true := by simp
          clear hcell l0 l1 l2 hpl hd p0 p1 p2 a2 b2 hz3 hz2 L2 L4 L6 L7 HG3 HPB
          go_upto_region 22 with fail
          have HS : Hid (∀ w', Below w16.heap.size w16 w' → Below w16.heap.size w16 w' ∧ w'.cell? ⟨gA, 0, none⟩ = some (.int .i64 u0') ∧ w'.cell? ⟨gA, 1, none⟩ = some (.int .i64 t0') ∧ w'.cell? ⟨gA, 2, none⟩ = some (.int .i64 u1') ∧ w'.cell? ⟨gA, 3, none⟩ = some (.int .i64 t1')) :=
            fun w' hb => ⟨hb, (hb.cell (p := ⟨gA, 0, none⟩) hgA).trans a0, (hb.cell (p := ⟨gA, 1, none⟩) hgA).trans b0, (hb.cell (p := ⟨gA, 2, none⟩) hgA).trans a1, (hb.cell (p := ⟨gA, 3, none⟩) hgA).trans b1⟩
          have HC := hide hAdd
          clear hAdd
          go_region_held3 (fun w' => Below w16.heap.size w16 w' ∧ w'.cell? ⟨gA, 0, none⟩ = some (.int .i64 u0') ∧ w'.cell? ⟨gA, 1, none⟩ = some (.int .i64 t0') ∧ w'.cell? ⟨gA, 2, none⟩ = some (.int .i64 u1') ∧ w'.cell? ⟨gA, 3, none⟩ = some (.int .i64 t1'))
            (first
              | assumption | exact HS.out _ ((Below.refl _ _).drew) | exact HS.out _ (bnextG (by assumption) hb4) | exact HS.out _ (ballocG (by assumption))
              | exact HS.out _ (((bA hb4).setCell (Nat.le_refl _) _).setCell (Nat.le_refl _) _)
              | exact HS.out _ ((((bD hb4).alloc (bD hb4).size _).setCell (bD hb4).size _).setCell (bD hb4).size _)
              | exact HS.out _ ((bD hb4).alloc (bD hb4).size _))
            (first
              | (go_at_call 20; (with_reducible refine (HC.out (w16.alloc (.cells #[.int .i64 0, .int .i64 0] 25)).drew).mono ?_); rintro e w4 ⟨rfl, hb4⟩; have hN4 := hide (Blk.bel (show Blk (w16.alloc (.cells #[.int .i64 0, .int .i64 0] 25)).drew w16.heap.size 25 #[.int .i64 0, .int .i64 0] from Blk.new w16 _ _) hb4); obtain ⟨q1, q2, q3, _⟩ := hN4.out.after (Below.refl _ _) hN4.out.lt)
              | (go_at_call 20; (with_reducible refine (HC.out w16.drew).mono ?_); rintro e w4 ⟨rfl, hb4⟩))
          · have c51 := (bD hb4).alloc (bD hb4).size (.cells #[.int .i64 u2', .int .i64 t2'] 25)
            have N5 := Blk.new w4 25 #[.int .i64 u2', .int .i64 t2']
            obtain ⟨y, -, -, -⟩ := N5.after (Below.refl _ _) N5.lt
            have y0 := y 0
            have y1 := y 1
            obtain ⟨y2, y3⟩ := A2'.out _ c51
            clear y N5 a0 b0 a1 b1 hb4
            go_wp2_with fail
            go_quiet (fail)
            go_wp2_with fail
            go_meet
            case rel => exact ⟨rfl, belowN c51 _⟩
          · have c51 : Below w16.heap.size w16 ((w4.setCell ⟨w16.heap.size, 0, none⟩ (.int .i64 u2')).setCell ⟨w16.heap.size, 1, none⟩ (.int .i64 t2')) := ((bA hb4).setCell (Nat.le_refl _) _).setCell (Nat.le_refl _) _
            have N5 := hN4.out.set2 (x := .int .i64 u2') (y := .int .i64 t2')
            obtain ⟨y, -, -, -⟩ := N5.after (Below.refl _ _) N5.lt
            have y0 := y 0
            have y1 := y 1
            obtain ⟨y2, y3⟩ := A2'.out _ c51
            clear y N5 a0 b0 a1 b1 hb4 hN4 q1 q2 q3
            go_wp2_with fail
            go_quiet (fail)
            go_wp2_with fail
            go_meet
            case rel => exact ⟨rfl, belowN c51 _⟩
      case rest =>
        obtain ⟨rfl, hbw⟩ := hcut
        rename_i wc
        have BW := bch B16 hbw
        have L4 := hide (L4.out.keep hbw)
        have L6 := hide (L6.out.keep hbw)
        have L7 := hide (L7.out.keep hbw)
        clear hbw B16 L2 HPB HG3 i1 i2 hsb HSB hgA
        obtain ⟨gB, rfl, hgB, -, -, -⟩ := L4.out.cellAt (i := 0) (by have := HN4.out; omega)
        have HCELL : Hid (∀ i (hi : i < z4), ∃ hl : i < (G.map (red q)).length, wc.cell? ⟨gB, i * 2, none⟩ = some (.int .i64 ((G.map (red q))[i]).1) ∧ wc.cell? ⟨gB, i * 2 + 1, none⟩ = some (.int .i64 ((G.map (red q))[i]).2)) := by
          intro i hi
          obtain ⟨g', hgg, _, hl, a, b⟩ := L4.out.cellAt hi
          injection hgg with hgg
          injection hgg with hgg
          subst hgg
          exact ⟨hl, a, b⟩
        have HT0 := Blk.new wc 25 #[.int .i64 0, .int .i64 1]
        have hr0 : #[Value.int .i64 0, .int .i64 1] = #[.int .i64 (red q (G.take 0).sum).1, .int .i64 (red q (G.take 0).sum).2] := by
          rw [List.take_zero, List.sum_nil, red_zero o1.1]
        rw [hr0] at HT0
        have HT0 := hide HT0
        clear hr0
        go_wp2_with fail
        go_loopw [2, 30] (fun rv iv wr => ∃ i : Nat, rv = .bool false ∧ iv = .int .i64 i ∧ i ≤ m ∧ Blk wr wc.heap.size 25 #[.int .i64 (red q (G.take i).sum).1, .int .i64 (red q (G.take i).sum).2] ∧ Below wc.heap.size wc wr) (fun _ iv _ => m - (intOf iv).toNat)
        case atStart => exact ⟨0, rfl, rfl, by omega, by simpa only [List.take_zero, List.sum_nil, red_zero o1.1] using HT0.out, (Below.refl _ _).alloc (Nat.le_refl _) _⟩
        case round =>
          obtain ⟨i, rfl, rfl, hi, hbl, hbel⟩ := hrel
          rename_i wr
          by_cases hlt : i < m
          · have lz : i < z4 := by have := HN4.out; omega
            have lG : i < G.length := by have := HGL.out; omega
            obtain ⟨hl, a1, b1⟩ := HCELL.out i lz
            rw [List.getElem_map] at a1 b1
            have hs := HSUM.out i (by omega)
            have hs1 := HSUM.out (i + 1) (by omega)
            have hnx := sum_next G lG
            rw [getD_getElem lG] at hnx
            have hxb := HGB.out _ (List.getElem_mem lG)
            obtain ⟨x1, hx1⟩ : ∃ x, G[i] = x := ⟨_, rfl⟩
            rw [hx1] at hnx hxb a1 b1
            have hAdd := fun w => addRed_any q (G.take i).sum x1 w o1 (by omega) (by omega) (by omega)
            rw [← hnx] at hAdd
            obtain ⟨u0', hu0⟩ : ∃ u, (red q (G.take i).sum).1 = u := ⟨_, rfl⟩
            obtain ⟨t0', ht0⟩ : ∃ u, (red q (G.take i).sum).2 = u := ⟨_, rfl⟩
            obtain ⟨u2', hu2⟩ : ∃ u, (red q (G.take (i + 1)).sum).1 = u := ⟨_, rfl⟩
            obtain ⟨t2', ht2⟩ : ∃ u, (red q (G.take (i + 1)).sum).2 = u := ⟨_, rfl⟩
            rw [hu0, ht0] at hbl hAdd
            rw [hu2, ht2] at hAdd
            obtain ⟨u1', hu1⟩ : ∃ u, (red q x1).1 = u := ⟨_, rfl⟩
            obtain ⟨t1', ht1⟩ : ∃ u, (red q x1).2 = u := ⟨_, rfl⟩
            rw [hu1] at hAdd a1
            rw [ht1] at hAdd b1
            have HU := hide hu2
            have HV := hide ht2
            have HT := hide hbl
            have a1 := (hbel.cell (p := ⟨gB, i * 2, none⟩) hgB).trans a1
            have b1 := (hbel.cell (p := ⟨gB, i * 2 + 1, none⟩) hgB).trans b1
            obtain ⟨y, -, -, -⟩ := hbl.after (Below.refl _ _) hbl.lt
            have a0 := y 0
            have b0 := y 1
            have hTl := hbl.lt
            have hgl : gB < wr.heap.size := by have := hbel.size; omega
            have hBEL := hide hbel
            have d1 : (i : Int) < (z4 : Int) := by omega
            have d2 : IntKind.i64.wrap ((i : Int) + 1) = (i : Int) + 1 := IntWalk.i64_in _ (by omega)
            clear y hl hs hs1 hnx hxb hu0 ht0 hu2 ht2 hbl hbel hx1 lG hu1 ht1
            go_upto_region 29 with fail
            have HS : Hid (∀ w', Below wr.heap.size wr w' → Below wr.heap.size wr w' ∧ w'.cell? ⟨wc.heap.size, 0, none⟩ = some (.int .i64 u0') ∧ w'.cell? ⟨wc.heap.size, 1, none⟩ = some (.int .i64 t0') ∧ w'.cell? ⟨gB, i * 2, none⟩ = some (.int .i64 u1') ∧ w'.cell? ⟨gB, i * 2 + 1, none⟩ = some (.int .i64 t1')) :=
              fun w' hb => ⟨hb, (hb.cell (p := ⟨wc.heap.size, 0, none⟩) hTl).trans a0, (hb.cell (p := ⟨wc.heap.size, 1, none⟩) hTl).trans b0, (hb.cell (p := ⟨gB, i * 2, none⟩) hgl).trans a1, (hb.cell (p := ⟨gB, i * 2 + 1, none⟩) hgl).trans b1⟩
            have HC := hide hAdd
            clear hAdd
            go_region_held3 (fun w' => Below wr.heap.size wr w' ∧ w'.cell? ⟨wc.heap.size, 0, none⟩ = some (.int .i64 u0') ∧ w'.cell? ⟨wc.heap.size, 1, none⟩ = some (.int .i64 t0') ∧ w'.cell? ⟨gB, i * 2, none⟩ = some (.int .i64 u1') ∧ w'.cell? ⟨gB, i * 2 + 1, none⟩ = some (.int .i64 t1'))
              (first
                | assumption | exact HS.out _ ((Below.refl _ _).drew) | exact HS.out _ (bnextG (by assumption) hb4) | exact HS.out _ (ballocG (by assumption))
                | exact HS.out _ (((bA hb4).setCell (Nat.le_refl _) _).setCell (Nat.le_refl _) _)
                | exact HS.out _ ((((bD hb4).alloc (bD hb4).size _).setCell (bD hb4).size _).setCell (bD hb4).size _)
                | exact HS.out _ ((bD hb4).alloc (bD hb4).size _))
              (first
                | (go_at_call 20; (with_reducible refine (HC.out (wr.alloc (.cells #[.int .i64 0, .int .i64 0] 25)).drew).mono ?_); rintro e w4 ⟨rfl, hb4⟩; have hN4 := hide (Blk.bel (show Blk (wr.alloc (.cells #[.int .i64 0, .int .i64 0] 25)).drew wr.heap.size 25 #[.int .i64 0, .int .i64 0] from Blk.new wr _ _) hb4); obtain ⟨q1, q2, q3, _⟩ := hN4.out.after (Below.refl _ _) hN4.out.lt)
                | (go_at_call 20; (with_reducible refine (HC.out wr.drew).mono ?_); rintro e w4 ⟨rfl, hb4⟩))
            · have c51 : Below wr.heap.size wr (w4.alloc (.cells #[.int .i64 u2', .int .i64 t2'] 25)) := (bD hb4).alloc (bD hb4).size _
              have N5 := Blk.new w4 25 #[.int .i64 u2', .int .i64 t2']
              obtain ⟨y, -, -, -⟩ := N5.after (Below.refl _ _) N5.lt
              have y0 := y 0
              have y1 := y 1
              have T5 := hide (HT.out.bel c51)
              have N6 := hide N5
              clear y N5 a0 b0 a1 b1 hb4 
              obtain ⟨s1, s2, s3, _⟩ := T5.out.after (Below.refl _ _) T5.out.lt
              go_wp2_with fail
              go_roundw
              case rel => exact ⟨i + 1, rfl, by go_num, by omega, by rw [HU.out, HV.out]; exact T5.out.set2, ((hBEL.out.trans (c51.mono hBEL.out.size)).setCell (Nat.le_refl _) _).setCell (Nat.le_refl _) _⟩
              case measure => simp [intOf]; omega
            · have c51 : Below wr.heap.size wr ((w4.setCell ⟨wr.heap.size, 0, none⟩ (.int .i64 u2')).setCell ⟨wr.heap.size, 1, none⟩ (.int .i64 t2')) := ((bA hb4).setCell (Nat.le_refl _) _).setCell (Nat.le_refl _) _
              have N5 := hN4.out.set2 (x := .int .i64 u2') (y := .int .i64 t2')
              obtain ⟨y, -, -, -⟩ := N5.after (Below.refl _ _) N5.lt
              have y0 := y 0
              have y1 := y 1
              have T5 := hide (HT.out.bel c51)
              have N6 := hide N5
              clear y N5 a0 b0 a1 b1 hb4 hN4 q1 q2 q3
              obtain ⟨s1, s2, s3, _⟩ := T5.out.after (Below.refl _ _) T5.out.lt
              go_wp2_with fail
              go_roundw
              case rel => exact ⟨i + 1, rfl, by go_num, by omega, by rw [HU.out, HV.out]; exact T5.out.set2, ((hBEL.out.trans (c51.mono hBEL.out.size)).setCell (Nat.le_refl _) _).setCell (Nat.le_refl _) _⟩
              case measure => simp [intOf]; omega
          · have d1 : ¬ (i : Int) < (z4 : Int) := by have := HN4.out; omega
            have him : i = m := by omega
            rw [him] at hbl
            have hse := (HSUM.out m (by omega)).2.2 rfl
            rw [hse, red_self o1.1] at hbl
            obtain ⟨y, -, -, -⟩ := hbl.after (Below.refl _ _) hbl.lt
            have a0 := y 0
            have b0 := y 1
            have hTl := hbl.lt
            have BF := bch BW hbel
            have L6 := hide (L6.out.keep hbel)
            have h6 : 0 < z6 := by have := HN2.out; have := HN6.out; omega
            obtain ⟨gC, rfl, hgC, -⟩ := L6.out.cellAtL (i := 0) h6
            have HCC : Hid (∀ j, j < z6 → wr.cell? ⟨gC, j, none⟩ = some (.int .i64 ((cnt G).getD j 0))) := by
              intro j hj
              obtain ⟨g', hgg, _, a⟩ := L6.out.cellAtL hj
              injection hgg with hgg
              injection hgg with hgg
              subst hgg
              exact a
            have hMM : G.length ≤ 200 := by have := HGL.out; omega
            have HBD : Hid (∀ j, j ≤ (cnt G).length → 0 ≤ ((cnt G).take j).sum ∧ ((cnt G).take j).sum ≤ (j : Int) * 200) := fun j hj => sum_take_bd (by omega) (fun x hx => ⟨(HCB.out x hx).1, by have := (HCB.out x hx).2; omega⟩) j hj
            have hlc : z6 = (cnt G).length := by have := HN6.out; have := HCL.out; omega
            have HLC := hide hlc
            clear y hse him hbl hbel BW HT0 HCELL L4 L6 HSUM HGB hlc hMM h6 HCB hi hgB
            go_wp2_with fail
            go_loopw [33, 34] (fun nv iv wz => ∃ j : Nat, nv = .int .i64 ((cnt G).take j).sum ∧ iv = .int .i64 j ∧ j ≤ z6 ∧ Below wr.heap.size wr wz) (fun _ iv _ => z6 - (intOf iv).toNat)
            case atStart => exact ⟨0, rfl, rfl, by omega, Below.refl _ _⟩
            case round =>
              obtain ⟨j, rfl, rfl, hj, hbz⟩ := hrel
              rename_i wz
              by_cases hlj : j < z6
              · have e := (hbz.cell (p := ⟨gC, j, none⟩) hgC).trans (HCC.out j hlj)
                have hjc : j < (cnt G).length := by have := HLC.out; omega
                have hsn := sum_next (cnt G) hjc
                have hb1 := HBD.out j (by omega)
                have hb2 := HBD.out (j + 1) (by omega)
                obtain ⟨s, hs⟩ : ∃ s, ((cnt G).take j).sum = s := ⟨_, rfl⟩
                obtain ⟨x, hx⟩ : ∃ s, (cnt G).getD j 0 = s := ⟨_, rfl⟩
                rw [hs] at hsn hb1
                rw [hs]
                rw [hx] at hsn e
                rw [hsn] at hb2
                have HSN := hide hsn
                have e1 : (j : Int) < (z6 : Int) := by omega
                have e2 : IntKind.i64.wrap (s + x) = s + x := IntWalk.i64_in _ (by omega)
                have e3 : IntKind.i64.wrap ((j : Int) + 1) = (j : Int) + 1 := IntWalk.i64_in _ (by omega)
                have HBZ := hide hbz
                clear hs hx hsn hb1 hb2 hjc a0 b0 hbz
                go_wp2_with fail
                go_roundw
                case rel => exact ⟨j + 1, by rw [HSN.out], by go_num, by omega, HBZ.out⟩
                case measure => simp [intOf]; omega
              · have e1 : ¬ (j : Int) < (z6 : Int) := by omega
                have hsm : ((cnt G).take j).sum = (m : Int) := by
                  rw [List.take_of_length_le (by have := HLC.out; omega), HCS.out, HGL.out]
                rw [hsm]
                have a0 := (hbz.cell (p := ⟨wc.heap.size, 0, none⟩) hTl).trans a0
                have b0 := (hbz.cell (p := ⟨wc.heap.size, 1, none⟩) hTl).trans b0
                have BZ := bch BF hbz
                have e7 : ((z7 : Int) == (m : Int)) = true := by rw [HN7.out]; simp
                have e8 : ((m : Int) == (m : Int)) = true := by simp
                clear hsm hbz BF
                go_wp2_with fail
                go_ret
                exact ⟨rfl, BZ⟩
    · have d0 : (gc != 0) = true := by simpa using h0
      clear h0
      go_wp2_with fail
      go_ret
      exact ⟨rfl, B16⟩

theorem walk_Gaps (A : Option Addr) (n c : Nat) (xs : List Int) (hw : ∀ z ∈ xs, (Lit.int .u8 z).wf = true) (w : World) (h : Rd w w.heap.size 1 A n (xs.map (Value.int .u8))) (hn : n ≤ 9223372036854775807) :
    Calls Try.prog 3 #[.slice A n c] w fun e w' => e = .returned (.bool true) ∧ Below w.heap.size w w' :=
  law_Gaps A n c xs w h hn (u8_rng hw)

end Go.Proofs.Ytpagfikhcmeciaa
