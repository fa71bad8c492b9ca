/- The law FnWords: its walk. -/
import Derived.Test.YtednobegombphaaDoorWrdF
import Derived.Test.YtednobegombphaaDoorDrwX
import Derived.Test.YtednobegombphaaDoorF6
import Derived.Lib.QuietBelow
import Derived.Deep.DeepCutAuto
namespace Go.Proofs.YtednobegombphaaDoor
open Go.RowKit Go.Sort

set_option maxRecDepth 100000 in
set_option maxHeartbeats 8000000 in
theorem law_Words (A : Option Addr) (n c : Nat) (xs : List Int) (w : World) (h : Rd w w.heap.size 1 A n (u8l xs)) (hn : n ≤ 9223372036854775807) (hx : ∀ x ∈ xs, 0 ≤ x ∧ x ≤ 255) :
    Calls Tryd.prog 3 #[.slice A n c] w fun e w' => e = .returned (.bool true) ∧ Below w.heap.size w w' := by
  by_cases hbig : 4096 < n
  · go_enter Tryd.func3, Tryd.ntmps3
    go_wp2_with fail
    refine (f6big_any A n c _ hn).mono ?_
    rintro e w1 ⟨rfl, rfl⟩
    go_wp2_with fail
    go_ret
    exact ⟨rfl, Below.refl _ _⟩
  · go_enter Tryd.func3, Tryd.ntmps3
    go_wp2_with fail
    refine (f6big_any A n c _ hn).mono ?_
    rintro e w1 ⟨rfl, rfl⟩
    go_wp2_with fail
    refine (drawChristoffelWord_any A n c xs _ h hn hx).mono ?_
    rintro e w1 ⟨p, q, rfl, b1⟩
    obtain ⟨x, c1, ex, fx⟩ := chv_form p q
    have hI1 := implChristoffelWord_any p q
    have hS1 := specChristoffelWord_any p q
    rw [ex] at hI1 hS1
    clear ex
    have FX := hide fx
    have hXB := hide (b1.size)
    have B1 := b1.alloc b1.size (.cells #[.int .i64 p, .int .i64 q] 25)
    have HF := hide (Blk.new w1 25 #[.int .i64 p, .int .i64 q])
    clear b1 fx hbig
    obtain ⟨HFc, -, -, -⟩ := HF.out.after (Below.refl _ _) HF.out.lt
    have HFx0 := HFc 0
    have HFx1 := HFc 1
    clear HFc
    go_wp2_with fail
    refine (hI1 _).mono ?_
    rintro e w2 ⟨rfl, b2⟩
    have B2 := bch B1 b2
    clear HFx0 HFx1
    have HF := hide (HF.out.bel b2)
    clear b2 B1
    obtain ⟨HFc, -, -, -⟩ := HF.out.after (Below.refl _ _) HF.out.lt
    have HFx0 := HFc 0
    have HFx1 := HFc 1
    clear HFc
    go_wp2_with fail
    refine (hS1 _).mono ?_
    rintro e w3 ⟨rfl, b3⟩
    have B3 := bch B2 b3
    clear HFx0 HFx1
    have HF := hide (HF.out.bel b3)
    clear b3 B2
    obtain ⟨HFc, -, -, -⟩ := HF.out.after (Below.refl _ _) HF.out.lt
    have HFx0 := HFc 0
    have HFx1 := HFc 1
    clear HFc
    go_wp2_with fail
    refine (drawSplitWord_any A n c xs _ ((h.below B3).more B3.size) hn hx).mono ?_
    rintro e w4 ⟨s, rfl, hzs, b4⟩
    have B4 := bch B3 b4
    clear HFx0 HFx1
    have HF := hide (HF.out.bel b4)
    clear b4 B3
    obtain ⟨HFc, -, -, -⟩ := HF.out.after (Below.refl _ _) HF.out.lt
    have HFx0 := HFc 0
    have HFx1 := HFc 1
    clear HFc
    obtain ⟨y, z, c2, ey, fy⟩ := spv_form s
    have hI2 := implSplitWord_any s
    have hS2 := specSplitWord_any s
    rw [ey] at hI2 hS2
    clear ey
    have FY := hide fy
    clear fy
    go_wp2_with fail
    refine (hI2 _ (by omega)).mono ?_
    rintro e w5 ⟨rfl, b5⟩
    have B5 := bch B4 b5
    clear HFx0 HFx1
    have HF := hide (HF.out.bel b5)
    clear b5 B4
    obtain ⟨HFc, -, -, -⟩ := HF.out.after (Below.refl _ _) HF.out.lt
    have HFx0 := HFc 0
    have HFx1 := HFc 1
    clear HFc
    go_wp2_with fail
    refine (hS2 _ (by omega)).mono ?_
    rintro e w6 ⟨rfl, b6⟩
    have B6 := bch B5 b6
    clear HFx0 HFx1
    have HF := hide (HF.out.bel b6)
    clear b6 B5
    obtain ⟨HFc, -, -, -⟩ := HF.out.after (Below.refl _ _) HF.out.lt
    have HFx0 := HFc 0
    have HFx1 := HFc 1
    clear HFc
    go_wp2_with fail
    refine (drawSlopeOfWord_any A n c xs _ ((h.below B6).more B6.size) hn hx).mono ?_
    rintro e w7 ⟨v, rfl, hzv, b7⟩
    have B7 := bch B6 b7
    clear HFx0 HFx1
    have HF := hide (HF.out.bel b7)
    clear b7 B6
    obtain ⟨HFc, -, -, -⟩ := HF.out.after (Below.refl _ _) HF.out.lt
    have HFx0 := HFc 0
    have HFx1 := HFc 1
    clear HFc
    obtain ⟨p2, q2, c3, ez⟩ := slp_some v.data.toList
    have hI3 := implSlopeOfWord_any v
    have hS3 := specSlopeOfWord_any v
    rw [ez] at hI3 hS3
    clear ez
    go_wp2_with fail
    refine (hI3 _ (by omega)).mono ?_
    rintro e w8 ⟨rfl, b8⟩
    have B8 := bch B7 b8
    clear HFx0 HFx1
    have HF := hide (HF.out.bel b8)
    clear b8 B7
    obtain ⟨HFc, -, -, -⟩ := HF.out.after (Below.refl _ _) HF.out.lt
    have HFx0 := HFc 0
    have HFx1 := HFc 1
    clear HFc
    have HA := hide (Blk.new w8 25 #[.int .i64 p2, .int .i64 q2])
    clear HFx0 HFx1
    have HF := hide (HF.out.alloc (.cells #[.int .i64 p2, .int .i64 q2] 25))
    have B8 := B8.alloc B8.size (.cells #[.int .i64 p2, .int .i64 q2] 25)
    obtain ⟨HFc, -, -, -⟩ := HF.out.after (Below.refl _ _) HF.out.lt
    have HFx0 := HFc 0
    have HFx1 := HFc 1
    clear HFc
    obtain ⟨HAc, -, -, -⟩ := HA.out.after (Below.refl _ _) HA.out.lt
    have HAx0 := HAc 0
    have HAx1 := HAc 1
    clear HAc
    go_wp2_with fail
    refine (hS3 _ (by omega)).mono ?_
    rintro e w9 ⟨rfl, b9⟩
    have B9 := bch B8 b9
    clear HFx0 HFx1
    have HF := hide (HF.out.bel b9)
    clear HAx0 HAx1
    have HA := hide (HA.out.bel b9)
    clear b9 B8
    obtain ⟨HFc, -, -, -⟩ := HF.out.after (Below.refl _ _) HF.out.lt
    have HFx0 := HFc 0
    have HFx1 := HFc 1
    clear HFc
    obtain ⟨HAc, -, -, -⟩ := HA.out.after (Below.refl _ _) HA.out.lt
    have HAx0 := HAc 0
    have HAx1 := HAc 1
    clear HAc
    have HB := hide (Blk.new w9 25 #[.int .i64 p2, .int .i64 q2])
    clear HFx0 HFx1
    have HF := hide (HF.out.alloc (.cells #[.int .i64 p2, .int .i64 q2] 25))
    clear HAx0 HAx1
    have HA := hide (HA.out.alloc (.cells #[.int .i64 p2, .int .i64 q2] 25))
    have B9 := B9.alloc B9.size (.cells #[.int .i64 p2, .int .i64 q2] 25)
    obtain ⟨HFc, -, -, -⟩ := HF.out.after (Below.refl _ _) HF.out.lt
    have HFx0 := HFc 0
    have HFx1 := HFc 1
    clear HFc
    obtain ⟨HAc, -, -, -⟩ := HA.out.after (Below.refl _ _) HA.out.lt
    have HAx0 := HAc 0
    have HAx1 := HAc 1
    clear HAc
    obtain ⟨HBc, -, -, -⟩ := HB.out.after (Below.refl _ _) HB.out.lt
    have HBx0 := HBc 0
    have HBx1 := HBc 1
    clear HBc
    go_wp2_with fail
    refine (drawCentralPart_any A n c xs _ ((h.below B9).more B9.size) hn hx).mono ?_
    rintro e w10 ⟨u, rfl, hzu, b10⟩
    have B10 := bch B9 b10
    clear HFx0 HFx1
    have HF := hide (HF.out.bel b10)
    clear HAx0 HAx1
    have HA := hide (HA.out.bel b10)
    clear HBx0 HBx1
    have HB := hide (HB.out.bel b10)
    clear b10 B9
    obtain ⟨HFc, -, -, -⟩ := HF.out.after (Below.refl _ _) HF.out.lt
    have HFx0 := HFc 0
    have HFx1 := HFc 1
    clear HFc
    obtain ⟨HAc, -, -, -⟩ := HA.out.after (Below.refl _ _) HA.out.lt
    have HAx0 := HAc 0
    have HAx1 := HAc 1
    clear HAc
    obtain ⟨HBc, -, -, -⟩ := HB.out.after (Below.refl _ _) HB.out.lt
    have HBx0 := HBc 0
    have HBx1 := HBc 1
    clear HBc
    obtain ⟨t, c4, et, ft⟩ := ctp_form u
    have hI4 := implCentralPart_any u
    have hS4 := specCentralPart_any u
    rw [et] at hI4 hS4
    clear et
    have FT := hide ft
    clear ft
    go_wp2_with fail
    refine (hI4 _ (by omega)).mono ?_
    rintro e w11 ⟨rfl, b11⟩
    have B11 := bch B10 b11
    clear HFx0 HFx1
    have HF := hide (HF.out.bel b11)
    clear HAx0 HAx1
    have HA := hide (HA.out.bel b11)
    clear HBx0 HBx1
    have HB := hide (HB.out.bel b11)
    clear b11 B10
    obtain ⟨HFc, -, -, -⟩ := HF.out.after (Below.refl _ _) HF.out.lt
    have HFx0 := HFc 0
    have HFx1 := HFc 1
    clear HFc
    obtain ⟨HAc, -, -, -⟩ := HA.out.after (Below.refl _ _) HA.out.lt
    have HAx0 := HAc 0
    have HAx1 := HAc 1
    clear HAc
    obtain ⟨HBc, -, -, -⟩ := HB.out.after (Below.refl _ _) HB.out.lt
    have HBx0 := HBc 0
    have HBx1 := HBc 1
    clear HBc
    go_wp2_with fail
    refine (hS4 _ (by omega)).mono ?_
    rintro e w12 ⟨rfl, b12⟩
    have B12 := bch B11 b12
    clear HFx0 HFx1
    have HF := hide (HF.out.bel b12)
    clear HAx0 HAx1
    have HA := hide (HA.out.bel b12)
    clear HBx0 HBx1
    have HB := hide (HB.out.bel b12)
    clear b12 B11
    obtain ⟨HFc, -, -, -⟩ := HF.out.after (Below.refl _ _) HF.out.lt
    have HFx0 := HFc 0
    have HFx1 := HFc 1
    clear HFc
    obtain ⟨HAc, -, -, -⟩ := HA.out.after (Below.refl _ _) HA.out.lt
    have HAx0 := HAc 0
    have HAx1 := HAc 1
    clear HAc
    obtain ⟨HBc, -, -, -⟩ := HB.out.after (Below.refl _ _) HB.out.lt
    have HBx0 := HBc 0
    have HBx1 := HBc 1
    clear HBc
    go_wp2_with fail
    refine (drawTermsOfWord_any A n c xs _ ((h.below B12).more B12.size) hn hx).mono ?_
    rintro e w13 ⟨r, rfl, hzr, b13⟩
    have B13 := bch B12 b13
    clear HFx0 HFx1
    have HF := hide (HF.out.bel b13)
    clear HAx0 HAx1
    have HA := hide (HA.out.bel b13)
    clear HBx0 HBx1
    have HB := hide (HB.out.bel b13)
    clear b13 B12
    obtain ⟨HFc, -, -, -⟩ := HF.out.after (Below.refl _ _) HF.out.lt
    have HFx0 := HFc 0
    have HFx1 := HFc 1
    clear HFc
    obtain ⟨HAc, -, -, -⟩ := HA.out.after (Below.refl _ _) HA.out.lt
    have HAx0 := HAc 0
    have HAx1 := HAc 1
    clear HAc
    obtain ⟨HBc, -, -, -⟩ := HB.out.after (Below.refl _ _) HB.out.lt
    have HBx0 := HBc 0
    have HBx1 := HBc 1
    clear HBc
    have hI5 := implTermsOfWord_any r
    have hS5 := specTermsOfWord_any r
    generalize twx r.data.toList = X at *
    generalize twc r.data.toList = c5 at *
    go_wp2_with fail
    refine (hI5 _ (by omega)).mono ?_
    rintro e w14 ⟨v1, rfl, L10, b14⟩
    have B14 := bch B13 b14
    clear HFx0 HFx1
    have HF := hide (HF.out.bel b14)
    clear HAx0 HAx1
    have HA := hide (HA.out.bel b14)
    clear HBx0 HBx1
    have HB := hide (HB.out.bel b14)
    clear b14 B13
    obtain ⟨HFc, -, -, -⟩ := HF.out.after (Below.refl _ _) HF.out.lt
    have HFx0 := HFc 0
    have HFx1 := HFc 1
    clear HFc
    obtain ⟨HAc, -, -, -⟩ := HA.out.after (Below.refl _ _) HA.out.lt
    have HAx0 := HAc 0
    have HAx1 := HAc 1
    clear HAc
    obtain ⟨HBc, -, -, -⟩ := HB.out.after (Below.refl _ _) HB.out.lt
    have HBx0 := HBc 0
    have HBx1 := HBc 1
    clear HBc
    have L1 := hide L10
    clear L10
    go_wp2_with fail
    refine (hS5 _ (by omega)).mono ?_
    rintro e w15 ⟨v2, rfl, L20, b15⟩
    have B15 := bch B14 b15
    clear HFx0 HFx1
    have HF := hide (HF.out.bel b15)
    clear HAx0 HAx1
    have HA := hide (HA.out.bel b15)
    clear HBx0 HBx1
    have HB := hide (HB.out.bel b15)
    have L1 := hide (L1.out.keep b15)
    clear b15 B14
    obtain ⟨HFc, -, -, -⟩ := HF.out.after (Below.refl _ _) HF.out.lt
    have HFx0 := HFc 0
    have HFx1 := HFc 1
    clear HFc
    obtain ⟨HAc, -, -, -⟩ := HA.out.after (Below.refl _ _) HA.out.lt
    have HAx0 := HAc 0
    have HAx1 := HAc 1
    clear HAc
    obtain ⟨HBc, -, -, -⟩ := HB.out.after (Below.refl _ _) HB.out.lt
    have HBx0 := HBc 0
    have HBx1 := HBc 1
    clear HBc
    have L2 := hide L20
    clear L20
    clear hI1 hS1 hI2 hS2 hI3 hS3 hI4 hS4 hI5 hS5 h hx hzr hzu
    have qq0 : (c1 != c1) = false := by simp
    have qq1 : (c2 != c2) = false := by simp
    have qq2 : (c3 != c3) = false := by simp
    have qq3 : (c4 != c4) = false := by simp
    have qq4 : (c5 != c5) = false := by simp
    have qq5 : (p2 != p2) = false := by simp
    have qq6 : (q2 != q2) = false := by simp
    have e0 : (p2 == p2) = true := by simp
    have e1 : (q2 == q2) = true := by simp
    have e2 : (p == p) = true := by simp
    have e3 : (q == q) = true := by simp
    have m0 := bn_self x
    have m1 := bn_self y
    have m2 := bn_self z
    have m3 := bn_self t
    have hI6 := implIsChristoffel_any s
    have hS6 := specIsChristoffel_any s
    have hI7 := implIsBalanced_any v
    have hS7 := specIsBalanced_any v
    generalize isC s.data.toList = i1 at *
    generalize bal v.data.toList = i2 at *
    have m4 : (i1 != i1) = false := by simp
    have m5 : (i2 != i2) = false := by simp
    go_wp2_with fail
    refine (f6intsL_any _ _ _ _ X _ L1.out L2.out).mono ?_
    rintro e w16 ⟨rfl, b16⟩
    clear L1 L2
    have B16 := bch B15 b16
    clear HFx0 HFx1
    have HF := hide (HF.out.bel b16)
    clear HAx0 HAx1
    have HA := hide (HA.out.bel b16)
    clear HBx0 HBx1
    have HB := hide (HB.out.bel b16)
    clear b16 B15
    obtain ⟨HFc, -, -, -⟩ := HF.out.after (Below.refl _ _) HF.out.lt
    have HFx0 := HFc 0
    have HFx1 := HFc 1
    clear HFc
    obtain ⟨HAc, -, -, -⟩ := HA.out.after (Below.refl _ _) HA.out.lt
    have HAx0 := HAc 0
    have HAx1 := HAc 1
    clear HAc
    obtain ⟨HBc, -, -, -⟩ := HB.out.after (Below.refl _ _) HB.out.lt
    have HBx0 := HBc 0
    have HBx1 := HBc 1
    clear HBc
    go_wp2_with fail
    refine (hI6 _ (by omega)).mono ?_
    rintro e w17 ⟨rfl, b17⟩
    have B17 := bch B16 b17
    clear HFx0 HFx1
    have HF := hide (HF.out.bel b17)
    clear HAx0 HAx1
    have HA := hide (HA.out.bel b17)
    clear HBx0 HBx1
    have HB := hide (HB.out.bel b17)
    clear b17 B16
    obtain ⟨HFc, -, -, -⟩ := HF.out.after (Below.refl _ _) HF.out.lt
    have HFx0 := HFc 0
    have HFx1 := HFc 1
    clear HFc
    obtain ⟨HAc, -, -, -⟩ := HA.out.after (Below.refl _ _) HA.out.lt
    have HAx0 := HAc 0
    have HAx1 := HAc 1
    clear HAc
    obtain ⟨HBc, -, -, -⟩ := HB.out.after (Below.refl _ _) HB.out.lt
    have HBx0 := HBc 0
    have HBx1 := HBc 1
    clear HBc
    go_wp2_with fail
    refine (hS6 _ (by omega)).mono ?_
    rintro e w18 ⟨rfl, b18⟩
    have B18 := bch B17 b18
    clear HFx0 HFx1
    have HF := hide (HF.out.bel b18)
    clear HAx0 HAx1
    have HA := hide (HA.out.bel b18)
    clear HBx0 HBx1
    have HB := hide (HB.out.bel b18)
    clear b18 B17
    obtain ⟨HFc, -, -, -⟩ := HF.out.after (Below.refl _ _) HF.out.lt
    have HFx0 := HFc 0
    have HFx1 := HFc 1
    clear HFc
    obtain ⟨HAc, -, -, -⟩ := HA.out.after (Below.refl _ _) HA.out.lt
    have HAx0 := HAc 0
    have HAx1 := HAc 1
    clear HAc
    obtain ⟨HBc, -, -, -⟩ := HB.out.after (Below.refl _ _) HB.out.lt
    have HBx0 := HBc 0
    have HBx1 := HBc 1
    clear HBc
    go_wp2_with fail
    refine (hI7 _ (by omega)).mono ?_
    rintro e w19 ⟨rfl, b19⟩
    have B19 := bch B18 b19
    clear HFx0 HFx1
    have HF := hide (HF.out.bel b19)
    clear HAx0 HAx1
    have HA := hide (HA.out.bel b19)
    clear HBx0 HBx1
    have HB := hide (HB.out.bel b19)
    clear b19 B18
    obtain ⟨HFc, -, -, -⟩ := HF.out.after (Below.refl _ _) HF.out.lt
    have HFx0 := HFc 0
    have HFx1 := HFc 1
    clear HFc
    obtain ⟨HAc, -, -, -⟩ := HA.out.after (Below.refl _ _) HA.out.lt
    have HAx0 := HAc 0
    have HAx1 := HAc 1
    clear HAc
    obtain ⟨HBc, -, -, -⟩ := HB.out.after (Below.refl _ _) HB.out.lt
    have HBx0 := HBc 0
    have HBx1 := HBc 1
    clear HBc
    go_wp2_with fail
    refine (hS7 _ (by omega)).mono ?_
    rintro e w20 ⟨rfl, b20⟩
    have B20 := bch B19 b20
    clear HFx0 HFx1
    have HF := hide (HF.out.bel b20)
    clear HAx0 HAx1
    have HA := hide (HA.out.bel b20)
    clear HBx0 HBx1
    have HB := hide (HB.out.bel b20)
    clear b20 B19
    obtain ⟨HFc, -, -, -⟩ := HF.out.after (Below.refl _ _) HF.out.lt
    have HFx0 := HFc 0
    have HFx1 := HFc 1
    clear HFc
    obtain ⟨HAc, -, -, -⟩ := HA.out.after (Below.refl _ _) HA.out.lt
    have HAx0 := HAc 0
    have HAx1 := HAc 1
    clear HAc
    obtain ⟨HBc, -, -, -⟩ := HB.out.after (Below.refl _ _) HB.out.lt
    have HBx0 := HBc 0
    have HBx1 := HBc 1
    clear HBc
    clear hI6 hS6 hI7 hS7 hzv
    obtain ⟨sb, hsb⟩ : ∃ sb, (c4 == 0) = sb := ⟨_, rfl⟩
    go_upto_if 166 with fail
    go_cut [2] (fun x wc => x = .bool false ∧ Below w20.heap.size w20 wc)
    case first =>
      cases sb
      · go_wp2_with fail
        go_meet
        case rel => exact ⟨rfl, Below.refl _ _⟩
      · obtain ⟨ht4, hpal⟩ := FT.out (by simpa using hsb)
        have HP := hide hpal
        clear hpal hsb
        go_wp2_with fail
        go_loopw [2, 30] (fun rv iv wr => ∃ k : Nat, rv = .bool false ∧ iv = .int .i64 k ∧ k ≤ t.size ∧ Below w20.heap.size w20 wr) (fun _ iv _ => t.size - (intOf iv).toNat)
        case atStart => exact ⟨0, rfl, rfl, by omega, Below.refl _ _⟩
        case round =>
          obtain ⟨k, rfl, rfl, hk, hbel⟩ := hrel
          by_cases hlt : k < t.size
          · obtain ⟨m, hm⟩ : ∃ m, t.size - 1 - k = m := ⟨_, rfl⟩
            have hml : m < t.size := by omega
            have hne : ((t[k].toNat : Int) != (t[m].toNat : Int)) = false := by
              have := HP.out k hlt
              subst hm
              rw [this]
              simp
            have d1 : (k : Int) < (t.size : Int) := by omega
            have d2 : (m : Int) < (t.size : Int) := by omega
            have d3 : IntKind.i64.wrap ((t.size : Int) - 1) = (t.size : Int) - 1 := IntWalk.i64_in _ (by omega)
            have d4 : IntKind.i64.wrap ((t.size : Int) - 1 - (k : Int)) = (m : Int) := by rw [IntWalk.i64_in _ (by omega)]; omega
            have d5 : (t.size : Int) - 1 - (k : Int) = (m : Int) := by omega
            have HM := hide hm
            clear hm
            go_wp2_with fail
            go_quiet (fail)
            go_wp2_with fail
            go_roundw
            case rel => exact ⟨k + 1, rfl, by go_num, by omega, belowN hbel _⟩
            case measure => simp [intOf]; omega
          · have d1 : ¬ (k : Int) < (t.size : Int) := by omega
            go_wp2_with fail
            go_meet
            case rel => exact ⟨rfl, hbel⟩
    case rest =>
      obtain ⟨rfl, hbw⟩ := hcut
      have BW := bch B20 hbw
      clear HFx0 HFx1 HAx0 HAx1 HBx0 HBx1
      have HF := hide (HF.out.bel hbw)
      clear hbw B20 HA HB FT hsb
      obtain ⟨HFc, -, -, -⟩ := HF.out.after (Below.refl _ _) HF.out.lt
      have HFx0 := HFc 0
      have HFx1 := HFc 1
      clear HFc
      have hyz : (c2 == 0) = false ∨ ((c2 == 0) = true ∧ ((y ++ z).toList == s.toList) = true ∧ y.size + z.size ≤ 400) := by
        by_cases h2 : c2 = 0
        · right
          obtain ⟨e, hl⟩ := FY.out h2
          rw [e]
          exact ⟨by simpa using h2, by simp, hl⟩
        · left
          simpa using h2
      rename_i wc
      by_cases h1 : c1 = 0
      · obtain ⟨k1, k2, k3, k4⟩ := FX.out h1
        have d1 : (c1 != 0) = false := by rw [h1]; rfl
        have hI8 := implSlopeOfWord_any x
        have hI9 := implIsBalanced_any x
        have hI10 := implIsChristoffel_any x
        rw [k2] at hI8
        rw [k3] at hI9
        rw [k4] at hI10
        clear k2 k3 k4 h1 FX FY
        rcases hyz with h2 | ⟨h2, h3, h4⟩
        all_goals
          go_wp2_with fail
          refine (hI8 _ (by omega)).mono ?_
          rintro e z1 ⟨rfl, a1⟩
          have HF1 := hide ((HF.out.bel a1).alloc (.cells #[.int .i64 p, .int .i64 q] 25))
          have HO1 := hide (Blk.new z1 25 #[.int .i64 p, .int .i64 q])
          have BW1 := (bch BW a1).alloc (bch BW a1).size (.cells #[.int .i64 p, .int .i64 q] 25)
          clear HFx0 HFx1 a1 BW
          obtain ⟨y1, -, -, -⟩ := HF1.out.after (Below.refl _ _) HF1.out.lt
          obtain ⟨y2, -, -, -⟩ := HO1.out.after (Below.refl _ _) HO1.out.lt
          have r0 := y1 0
          have r1 := y1 1
          have r2 := y2 0
          have r3 := y2 1
          clear y1 y2
          go_wp2_with fail
          refine (hI9 _ (by omega)).mono ?_
          rintro e z2 ⟨rfl, a2⟩
          have BW2 := bch BW1 a2
          clear r0 r1 r2 r3 BW1 a2
          go_wp2_with fail
          refine (hI10 _ (by omega)).mono ?_
          rintro e z3 ⟨rfl, a3⟩
          have BW3 := bch BW2 a3
          go_wp2_with fail
          go_ret
          exact ⟨rfl, BW3⟩
      · have d1 : (c1 != 0) = true := by simpa using h1
        clear h1 FX FY
        rcases hyz with h2 | ⟨h2, h3, h4⟩
        all_goals
          go_wp2_with fail
          go_ret
          exact ⟨rfl, BW⟩

theorem walk_Words (A : Option Addr) (n c : Nat) (xs : List Int) (hw : ∀ z ∈ xs, (Lit.int .u8 z).wf = true) (w : World) (h : Rd w w.heap.size 1 A n (xs.map (Value.int .u8))) (hn : n ≤ 9223372036854775807) :
    Calls Tryd.prog 3 #[.slice A n c] w fun e w' => e = .returned (.bool true) ∧ Below w.heap.size w w' :=
  law_Words A n c xs w h hn (u8_rng hw)

end Go.Proofs.YtednobegombphaaDoor
