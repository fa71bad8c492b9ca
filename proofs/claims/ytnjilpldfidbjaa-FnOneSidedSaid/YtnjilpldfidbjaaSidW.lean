/- The law FnOneSided: its walk. -/
import Derived.Test.YtnjilpldfidbjaaSidY
import Derived.Test.YtnjilpldfidbjaaSidM
import Derived.Test.YtnjilpldfidbjaaItC
import Derived.Lib.QuietBelow
import Derived.Deep.DeepCutAuto
namespace Go.Proofs.Ytnjilpldfidbjaa
open Go.RowKit Go.Sort

theorem NsR.uniq {p q k r r' : Int} (h : NsR p q k r) (h' : NsR p q k r') : r = r' := by
  rcases h with ⟨h1, a, b, c, d, h2, rfl⟩ | ⟨h1, rfl⟩ <;> rcases h' with ⟨g1, a', b', c', d', g2, rfl⟩ | ⟨g1, rfl⟩
  · obtain ⟨rfl, rfl, rfl, rfl⟩ := h2.uniq g2
    rfl
  · exact absurd h1 g1
  · exact absurd g1 h1
  · rfl

theorem LstF.cellAt {w : World} {B : Nat} {A : Option Addr} {n cap : Nat} {xs : List (Int × Int)} (h : LstF w B (.slice A n cap) xs) {i : Nat} (hi : i < n) : ∃ g, A = some ⟨g, 0, none⟩ ∧ g < w.heap.size ∧ ∃ hl : i < xs.length, w.cell? ⟨g, i * 2, none⟩ = some (.int .i64 (xs[i]).1) ∧ w.cell? ⟨g, i * 2 + 1, none⟩ = some (.int .i64 (xs[i]).2) := by
  obtain ⟨A', n', cap', e, hn, _, h | ⟨g, hA, hg, hr⟩⟩ := h
  · cases e; omega
  · cases e
    obtain ⟨e1, e2⟩ := cs2_at (fs := xs) (i := i) (by omega)
    exact ⟨g, hA, hr.lt, by omega, hr.cell e1, hr.cell e2⟩

set_option maxRecDepth 100000 in
set_option maxHeartbeats 4000000 in
theorem law_OneSided (A : Option Addr) (n c : Nat) (xs : List Int) (w : World) (h : Rd w w.heap.size 1 A n (u8l xs)) (hn : n ≤ 9223372036854775807) (hx : ∀ x ∈ xs, 0 ≤ x ∧ x ≤ 255) :
    Calls Try.prog 3 #[.slice A n c] w fun e w' => e = .returned (.bool true) ∧ Below w.heap.size w w' := by
  by_cases hbig : 4096 < n
  · go_enter Try.func3, Try.ntmps3
    go_wp2_with fail
    refine (f6big_any A n c _ hn).mono ?_
    rintro e w1 ⟨rfl, rfl⟩
    go_wp2_with fail
    go_ret
    exact ⟨rfl, Below.refl _ _⟩
  · go_enter Try.func3, Try.ntmps3
    go_wp2_with fail
    refine (f6big_any A n c _ hn).mono ?_
    rintro e w1 ⟨rfl, rfl⟩
    go_wp2_with fail
    refine (drawBestBelow_any A n c xs _ h hn hx).mono ?_
    rintro e w1 ⟨p, q, k, rfl, b1⟩
    have hI1 := implBestBelow_any p q k
    have hS1 := specBestBelow_any p q k
    have hI2 := implBestAbove_any p q k
    have hS2 := specBestAbove_any p q k
    have hI3 := implLowerBest_any p q k
    have hS3 := specLowerBest_any p q k
    have hI4 := implUpperBest_any p q k
    have hS4 := specUpperBest_any p q k
    have hI5 := implNearerSide_any p q k
    have hS5 := specNearerSide_any p q k
    obtain ⟨X, hX⟩ : ∃ X, bbx p q k = X := ⟨_, rfl⟩
    obtain ⟨Y, hY⟩ : ∃ Y, bax p q k = Y := ⟨_, rfl⟩
    obtain ⟨cb, hcb⟩ : ∃ cb, bbc p q k = cb := ⟨_, rfl⟩
    obtain ⟨cs, hcs⟩ : ∃ cs, sdc p q k = cs := ⟨_, rfl⟩
    rw [hX, hcb] at hI1 hS1
    rw [hY, hcb] at hI2 hS2
    rw [hcs] at hI3 hS3 hI4 hS4
    have hX := hide hX
    have hY := hide hY
    have hcb := hide hcb
    have hcs := hide hcs
    have B1 := b1.alloc b1.size (.cells #[.int .i64 p, .int .i64 q] 25)
    have HF := hide (Blk.new w1 25 #[.int .i64 p, .int .i64 q])
    clear b1
    obtain ⟨HFc, -, -, -⟩ := HF.out.after (Below.refl _ _) HF.out.lt
    have HFx0 := HFc 0
    have HFx1 := HFc 1
    clear HFc
    go_wp2_with fail
    refine (hI1 _).mono ?_
    rintro e w2 ⟨v1, rfl, L10, b2⟩
    have B2 := bch B1 b2
    clear HFx0 HFx1
    have HF := hide (HF.out.bel b2)
    clear b2 B1
    have L1 := hide L10
    clear L10
    obtain ⟨HFc, -, -, -⟩ := HF.out.after (Below.refl _ _) HF.out.lt
    have HFx0 := HFc 0
    have HFx1 := HFc 1
    clear HFc
    go_wp2_with fail
    refine (hS1 _).mono ?_
    rintro e w3 ⟨v2, rfl, L20, b3⟩
    have B3 := bch B2 b3
    clear HFx0 HFx1
    have HF := hide (HF.out.bel b3)
    have L1 := hide (L1.out.keep b3)
    clear b3 B2
    have L2 := hide L20
    clear L20
    obtain ⟨HFc, -, -, -⟩ := HF.out.after (Below.refl _ _) HF.out.lt
    have HFx0 := HFc 0
    have HFx1 := HFc 1
    clear HFc
    go_wp2_with fail
    refine (hI2 _).mono ?_
    rintro e w4 ⟨v3, rfl, L30, b4⟩
    have B4 := bch B3 b4
    clear HFx0 HFx1
    have HF := hide (HF.out.bel b4)
    have L1 := hide (L1.out.keep b4)
    have L2 := hide (L2.out.keep b4)
    clear b4 B3
    have L3 := hide L30
    clear L30
    obtain ⟨HFc, -, -, -⟩ := HF.out.after (Below.refl _ _) HF.out.lt
    have HFx0 := HFc 0
    have HFx1 := HFc 1
    clear HFc
    go_wp2_with fail
    refine (hS2 _).mono ?_
    rintro e w5 ⟨v4, rfl, L40, b5⟩
    have B5 := bch B4 b5
    clear HFx0 HFx1
    have HF := hide (HF.out.bel b5)
    have L1 := hide (L1.out.keep b5)
    have L2 := hide (L2.out.keep b5)
    have L3 := hide (L3.out.keep b5)
    clear b5 B4
    have L4 := hide L40
    clear L40
    obtain ⟨HFc, -, -, -⟩ := HF.out.after (Below.refl _ _) HF.out.lt
    have HFx0 := HFc 0
    have HFx1 := HFc 1
    clear HFc
    go_wp2_with fail
    refine (hI3 _).mono ?_
    rintro e w6 ⟨la, lb, lc, ld, rfl, g3, b6⟩
    have B6 := bch B5 b6
    clear HFx0 HFx1
    have HF := hide (HF.out.bel b6)
    have L1 := hide (L1.out.keep b6)
    have L2 := hide (L2.out.keep b6)
    have L3 := hide (L3.out.keep b6)
    have L4 := hide (L4.out.keep b6)
    clear b6 B5
    have HL := hide (Blk.new w6 25 #[.int .i64 la, .int .i64 lb])
    have HF := hide (HF.out.alloc (.cells #[.int .i64 la, .int .i64 lb] 25))
    have L1 := hide (L1.out.keep (show Below w6.heap.size w6 (w6.alloc (.cells #[.int .i64 la, .int .i64 lb] 25)) by go_grown))
    have L2 := hide (L2.out.keep (show Below w6.heap.size w6 (w6.alloc (.cells #[.int .i64 la, .int .i64 lb] 25)) by go_grown))
    have L3 := hide (L3.out.keep (show Below w6.heap.size w6 (w6.alloc (.cells #[.int .i64 la, .int .i64 lb] 25)) by go_grown))
    have L4 := hide (L4.out.keep (show Below w6.heap.size w6 (w6.alloc (.cells #[.int .i64 la, .int .i64 lb] 25)) by go_grown))
    have B6 := B6.alloc B6.size (.cells #[.int .i64 la, .int .i64 lb] 25)
    obtain ⟨HFc, -, -, -⟩ := HF.out.after (Below.refl _ _) HF.out.lt
    have HFx0 := HFc 0
    have HFx1 := HFc 1
    clear HFc
    obtain ⟨HLc, -, -, -⟩ := HL.out.after (Below.refl _ _) HL.out.lt
    have HLx0 := HLc 0
    have HLx1 := HLc 1
    clear HLc
    go_wp2_with fail
    refine (hS3 _).mono ?_
    rintro e w7 ⟨la', lb', lc', ld', rfl, g4, b7⟩
    have B7 := bch B6 b7
    clear HFx0 HFx1
    have HF := hide (HF.out.bel b7)
    clear HLx0 HLx1
    have HL := hide (HL.out.bel b7)
    have L1 := hide (L1.out.keep b7)
    have L2 := hide (L2.out.keep b7)
    have L3 := hide (L3.out.keep b7)
    have L4 := hide (L4.out.keep b7)
    clear b7 B6
    obtain ⟨rfl, rfl, rfl, rfl⟩ := g3.uniq g4
    clear g4
    have HM := hide (Blk.new w7 25 #[.int .i64 la, .int .i64 lb])
    have HF := hide (HF.out.alloc (.cells #[.int .i64 la, .int .i64 lb] 25))
    have HL := hide (HL.out.alloc (.cells #[.int .i64 la, .int .i64 lb] 25))
    have L1 := hide (L1.out.keep (show Below w7.heap.size w7 (w7.alloc (.cells #[.int .i64 la, .int .i64 lb] 25)) by go_grown))
    have L2 := hide (L2.out.keep (show Below w7.heap.size w7 (w7.alloc (.cells #[.int .i64 la, .int .i64 lb] 25)) by go_grown))
    have L3 := hide (L3.out.keep (show Below w7.heap.size w7 (w7.alloc (.cells #[.int .i64 la, .int .i64 lb] 25)) by go_grown))
    have L4 := hide (L4.out.keep (show Below w7.heap.size w7 (w7.alloc (.cells #[.int .i64 la, .int .i64 lb] 25)) by go_grown))
    have B7 := B7.alloc B7.size (.cells #[.int .i64 la, .int .i64 lb] 25)
    obtain ⟨HFc, -, -, -⟩ := HF.out.after (Below.refl _ _) HF.out.lt
    have HFx0 := HFc 0
    have HFx1 := HFc 1
    clear HFc
    obtain ⟨HLc, -, -, -⟩ := HL.out.after (Below.refl _ _) HL.out.lt
    have HLx0 := HLc 0
    have HLx1 := HLc 1
    clear HLc
    obtain ⟨HMc, -, -, -⟩ := HM.out.after (Below.refl _ _) HM.out.lt
    have HMx0 := HMc 0
    have HMx1 := HMc 1
    clear HMc
    go_wp2_with fail
    refine (hI4 _).mono ?_
    rintro e w8 ⟨ua, ub, uc, ud, rfl, g5, b8⟩
    have B8 := bch B7 b8
    clear HFx0 HFx1
    have HF := hide (HF.out.bel b8)
    clear HLx0 HLx1
    have HL := hide (HL.out.bel b8)
    clear HMx0 HMx1
    have HM := hide (HM.out.bel b8)
    have L1 := hide (L1.out.keep b8)
    have L2 := hide (L2.out.keep b8)
    have L3 := hide (L3.out.keep b8)
    have L4 := hide (L4.out.keep b8)
    clear b8 B7
    obtain ⟨rfl, rfl, rfl, rfl⟩ := g3.uniq g5
    clear g5
    have HH := hide (Blk.new w8 25 #[.int .i64 lc, .int .i64 ld])
    have HF := hide (HF.out.alloc (.cells #[.int .i64 lc, .int .i64 ld] 25))
    have HL := hide (HL.out.alloc (.cells #[.int .i64 lc, .int .i64 ld] 25))
    have HM := hide (HM.out.alloc (.cells #[.int .i64 lc, .int .i64 ld] 25))
    have L1 := hide (L1.out.keep (show Below w8.heap.size w8 (w8.alloc (.cells #[.int .i64 lc, .int .i64 ld] 25)) by go_grown))
    have L2 := hide (L2.out.keep (show Below w8.heap.size w8 (w8.alloc (.cells #[.int .i64 lc, .int .i64 ld] 25)) by go_grown))
    have L3 := hide (L3.out.keep (show Below w8.heap.size w8 (w8.alloc (.cells #[.int .i64 lc, .int .i64 ld] 25)) by go_grown))
    have L4 := hide (L4.out.keep (show Below w8.heap.size w8 (w8.alloc (.cells #[.int .i64 lc, .int .i64 ld] 25)) by go_grown))
    have B8 := B8.alloc B8.size (.cells #[.int .i64 lc, .int .i64 ld] 25)
    obtain ⟨HFc, -, -, -⟩ := HF.out.after (Below.refl _ _) HF.out.lt
    have HFx0 := HFc 0
    have HFx1 := HFc 1
    clear HFc
    obtain ⟨HLc, -, -, -⟩ := HL.out.after (Below.refl _ _) HL.out.lt
    have HLx0 := HLc 0
    have HLx1 := HLc 1
    clear HLc
    obtain ⟨HMc, -, -, -⟩ := HM.out.after (Below.refl _ _) HM.out.lt
    have HMx0 := HMc 0
    have HMx1 := HMc 1
    clear HMc
    obtain ⟨HHc, -, -, -⟩ := HH.out.after (Below.refl _ _) HH.out.lt
    have HHx0 := HHc 0
    have HHx1 := HHc 1
    clear HHc
    go_wp2_with fail
    refine (hS4 _).mono ?_
    rintro e w9 ⟨ua, ub, uc, ud, rfl, g6, b9⟩
    have B9 := bch B8 b9
    clear HFx0 HFx1
    have HF := hide (HF.out.bel b9)
    clear HLx0 HLx1
    have HL := hide (HL.out.bel b9)
    clear HMx0 HMx1
    have HM := hide (HM.out.bel b9)
    clear HHx0 HHx1
    have HH := hide (HH.out.bel b9)
    have L1 := hide (L1.out.keep b9)
    have L2 := hide (L2.out.keep b9)
    have L3 := hide (L3.out.keep b9)
    have L4 := hide (L4.out.keep b9)
    clear b9 B8
    obtain ⟨rfl, rfl, rfl, rfl⟩ := g3.uniq g6
    clear g6
    have HU := hide (Blk.new w9 25 #[.int .i64 lc, .int .i64 ld])
    have HF := hide (HF.out.alloc (.cells #[.int .i64 lc, .int .i64 ld] 25))
    have HL := hide (HL.out.alloc (.cells #[.int .i64 lc, .int .i64 ld] 25))
    have HM := hide (HM.out.alloc (.cells #[.int .i64 lc, .int .i64 ld] 25))
    have HH := hide (HH.out.alloc (.cells #[.int .i64 lc, .int .i64 ld] 25))
    have L1 := hide (L1.out.keep (show Below w9.heap.size w9 (w9.alloc (.cells #[.int .i64 lc, .int .i64 ld] 25)) by go_grown))
    have L2 := hide (L2.out.keep (show Below w9.heap.size w9 (w9.alloc (.cells #[.int .i64 lc, .int .i64 ld] 25)) by go_grown))
    have L3 := hide (L3.out.keep (show Below w9.heap.size w9 (w9.alloc (.cells #[.int .i64 lc, .int .i64 ld] 25)) by go_grown))
    have L4 := hide (L4.out.keep (show Below w9.heap.size w9 (w9.alloc (.cells #[.int .i64 lc, .int .i64 ld] 25)) by go_grown))
    have B9 := B9.alloc B9.size (.cells #[.int .i64 lc, .int .i64 ld] 25)
    obtain ⟨HFc, -, -, -⟩ := HF.out.after (Below.refl _ _) HF.out.lt
    have HFx0 := HFc 0
    have HFx1 := HFc 1
    clear HFc
    obtain ⟨HLc, -, -, -⟩ := HL.out.after (Below.refl _ _) HL.out.lt
    have HLx0 := HLc 0
    have HLx1 := HLc 1
    clear HLc
    obtain ⟨HMc, -, -, -⟩ := HM.out.after (Below.refl _ _) HM.out.lt
    have HMx0 := HMc 0
    have HMx1 := HMc 1
    clear HMc
    obtain ⟨HHc, -, -, -⟩ := HH.out.after (Below.refl _ _) HH.out.lt
    have HHx0 := HHc 0
    have HHx1 := HHc 1
    clear HHc
    obtain ⟨HUc, -, -, -⟩ := HU.out.after (Below.refl _ _) HU.out.lt
    have HUx0 := HUc 0
    have HUx1 := HUc 1
    clear HUc
    go_wp2_with fail
    refine (hI5 _).mono ?_
    rintro e w10 ⟨r5, rfl, n5, b10⟩
    have B10 := bch B9 b10
    clear HFx0 HFx1
    have HF := hide (HF.out.bel b10)
    clear HLx0 HLx1
    have HL := hide (HL.out.bel b10)
    clear HMx0 HMx1
    have HM := hide (HM.out.bel b10)
    clear HHx0 HHx1
    have HH := hide (HH.out.bel b10)
    clear HUx0 HUx1
    have HU := hide (HU.out.bel b10)
    have L1 := hide (L1.out.keep b10)
    have L2 := hide (L2.out.keep b10)
    have L3 := hide (L3.out.keep b10)
    have L4 := hide (L4.out.keep b10)
    clear b10 B9
    obtain ⟨HFc, -, -, -⟩ := HF.out.after (Below.refl _ _) HF.out.lt
    have HFx0 := HFc 0
    have HFx1 := HFc 1
    clear HFc
    obtain ⟨HLc, -, -, -⟩ := HL.out.after (Below.refl _ _) HL.out.lt
    have HLx0 := HLc 0
    have HLx1 := HLc 1
    clear HLc
    obtain ⟨HMc, -, -, -⟩ := HM.out.after (Below.refl _ _) HM.out.lt
    have HMx0 := HMc 0
    have HMx1 := HMc 1
    clear HMc
    obtain ⟨HHc, -, -, -⟩ := HH.out.after (Below.refl _ _) HH.out.lt
    have HHx0 := HHc 0
    have HHx1 := HHc 1
    clear HHc
    obtain ⟨HUc, -, -, -⟩ := HU.out.after (Below.refl _ _) HU.out.lt
    have HUx0 := HUc 0
    have HUx1 := HUc 1
    clear HUc
    go_wp2_with fail
    refine (hS5 _).mono ?_
    rintro e w11 ⟨r6, rfl, n6, b11⟩
    have B11 := bch B10 b11
    clear HFx0 HFx1
    have HF := hide (HF.out.bel b11)
    clear HLx0 HLx1
    have HL := hide (HL.out.bel b11)
    clear HMx0 HMx1
    have HM := hide (HM.out.bel b11)
    clear HHx0 HHx1
    have HH := hide (HH.out.bel b11)
    clear HUx0 HUx1
    have HU := hide (HU.out.bel b11)
    have L1 := hide (L1.out.keep b11)
    have L2 := hide (L2.out.keep b11)
    have L3 := hide (L3.out.keep b11)
    have L4 := hide (L4.out.keep b11)
    clear b11 B10
    obtain rfl := NsR.uniq (show NsR p q k r5 from n5) n6
    clear n5 n6
    obtain ⟨cn, hcn⟩ : ∃ cn, nsdc p q k = cn := ⟨_, rfl⟩
    rw [hcn]
    clear hcn
    have q0 : (cb != cb) = false := by simp
    have q1 : (cs != cs) = false := by simp
    have q2 : (cn != cn) = false := by simp
    have q3 : (r5 != r5) = false := by simp
    have q4 : (la != la) = false := by simp
    have q5 : (lb != lb) = false := by simp
    have q6 : (lc != lc) = false := by simp
    have q7 : (ld != ld) = false := by simp
    have e0 : (la == la) = true := by simp
    have e1 : (lb == lb) = true := by simp
    have e2 : (lc == lc) = true := by simp
    have e3 : (ld == ld) = true := by simp
    obtain ⟨HFc, -, -, -⟩ := HF.out.after (Below.refl _ _) HF.out.lt
    have HFx0 := HFc 0
    have HFx1 := HFc 1
    clear HFc
    obtain ⟨HLc, -, -, -⟩ := HL.out.after (Below.refl _ _) HL.out.lt
    have HLx0 := HLc 0
    have HLx1 := HLc 1
    clear HLc
    obtain ⟨HMc, -, -, -⟩ := HM.out.after (Below.refl _ _) HM.out.lt
    have HMx0 := HMc 0
    have HMx1 := HMc 1
    clear HMc
    obtain ⟨HHc, -, -, -⟩ := HH.out.after (Below.refl _ _) HH.out.lt
    have HHx0 := HHc 0
    have HHx1 := HHc 1
    clear HHc
    obtain ⟨HUc, -, -, -⟩ := HU.out.after (Below.refl _ _) HU.out.lt
    have HUx0 := HUc 0
    have HUx1 := HUc 1
    clear HUc
    go_wp2_with fail
    refine (f6fractions_any _ _ _ _ X _ L1.out L2.out).mono ?_
    rintro e w12 ⟨rfl, b12⟩
    have B12 := bch B11 b12
    clear HFx0 HFx1
    have HF := hide (HF.out.bel b12)
    clear HLx0 HLx1
    have HL := hide (HL.out.bel b12)
    clear HMx0 HMx1
    have HM := hide (HM.out.bel b12)
    clear HHx0 HHx1
    have HH := hide (HH.out.bel b12)
    clear HUx0 HUx1
    have HU := hide (HU.out.bel b12)
    have L1 := hide (L1.out.keep b12)
    have L2 := hide (L2.out.keep b12)
    have L3 := hide (L3.out.keep b12)
    have L4 := hide (L4.out.keep b12)
    clear b12 B11
    obtain ⟨HFc, -, -, -⟩ := HF.out.after (Below.refl _ _) HF.out.lt
    have HFx0 := HFc 0
    have HFx1 := HFc 1
    clear HFc
    obtain ⟨HLc, -, -, -⟩ := HL.out.after (Below.refl _ _) HL.out.lt
    have HLx0 := HLc 0
    have HLx1 := HLc 1
    clear HLc
    obtain ⟨HMc, -, -, -⟩ := HM.out.after (Below.refl _ _) HM.out.lt
    have HMx0 := HMc 0
    have HMx1 := HMc 1
    clear HMc
    obtain ⟨HHc, -, -, -⟩ := HH.out.after (Below.refl _ _) HH.out.lt
    have HHx0 := HHc 0
    have HHx1 := HHc 1
    clear HHc
    obtain ⟨HUc, -, -, -⟩ := HU.out.after (Below.refl _ _) HU.out.lt
    have HUx0 := HUc 0
    have HUx1 := HUc 1
    clear HUc
    go_wp2_with fail
    refine (f6fractions_any _ _ _ _ Y _ L3.out L4.out).mono ?_
    rintro e w13 ⟨rfl, b13⟩
    have B13 := bch B12 b13
    clear HFx0 HFx1
    have HF := hide (HF.out.bel b13)
    clear HLx0 HLx1
    have HL := hide (HL.out.bel b13)
    clear HMx0 HMx1
    have HM := hide (HM.out.bel b13)
    clear HHx0 HHx1
    have HH := hide (HH.out.bel b13)
    clear HUx0 HUx1
    have HU := hide (HU.out.bel b13)
    have L1 := hide (L1.out.keep b13)
    have L2 := hide (L2.out.keep b13)
    have L3 := hide (L3.out.keep b13)
    have L4 := hide (L4.out.keep b13)
    clear b13 B12
    obtain ⟨HFc, -, -, -⟩ := HF.out.after (Below.refl _ _) HF.out.lt
    have HFx0 := HFc 0
    have HFx1 := HFc 1
    clear HFc
    obtain ⟨HLc, -, -, -⟩ := HL.out.after (Below.refl _ _) HL.out.lt
    have HLx0 := HLc 0
    have HLx1 := HLc 1
    clear HLc
    obtain ⟨HMc, -, -, -⟩ := HM.out.after (Below.refl _ _) HM.out.lt
    have HMx0 := HMc 0
    have HMx1 := HMc 1
    clear HMc
    obtain ⟨HHc, -, -, -⟩ := HH.out.after (Below.refl _ _) HH.out.lt
    have HHx0 := HHc 0
    have HHx1 := HHc 1
    clear HHc
    obtain ⟨HUc, -, -, -⟩ := HU.out.after (Below.refl _ _) HU.out.lt
    have HUx0 := HUc 0
    have HUx1 := HUc 1
    clear HUc
    go_upto_region 16 with fail
    clear hI1 hS1 hI2 hS2 hI3 hS3 hI4 hS4 hI5 hS5 h hx q0 q1 q2 q3 e0 e1 e2 e3 q4 q5 q6 q7
    by_cases h0 : cs = 0
    case neg =>
      have hb0 : ¬ cb = 0 := by
        intro e
        rw [← hcb.out] at e
        apply h0
        rw [← hcs.out]
        unfold bbc at e
        unfold sdc
        split at e
        · rename_i h1
          split at e
          · rename_i h2
            rw [if_pos h1, if_pos ⟨h2.1, by omega⟩]
          · cases e
        · cases e
      have k0 : (cb != 0) = true := by simpa using hb0
      have k1 : (cs == 0) = false := by simpa using h0
      go_wp2_with fail
      go_ret
      exact ⟨rfl, B13⟩
    case pos =>
      have hsd : sdc p q k = 0 := hcs.out.trans h0
      subst h0
      obtain ⟨hok, hk⟩ := sdc_ok hsd
      have hN : Near p q k la lb lc ld := by
        rcases g3 with ⟨_, h⟩ | ⟨h, _⟩
        · exact h
        · exact absurd hsd h
      obtain ⟨n1, n2, n3, n4, n5, n6, n7⟩ := near_law hN hok hk
      have hC1 := fun w => implCompareFractions_any la lb p q _ _ w n1 hok rfl rfl
      have hC2 := fun w => implCompareFractions_any p q lc ld _ _ w hok n2 rfl rfl
      have s1 : sg3 (la * q) (p * lb) ≤ 0 := by unfold sg3; split <;> (try split) <;> omega
      have s2 : sg3 (p * ld) (lc * q) ≤ 0 := by unfold sg3; split <;> (try split) <;> omega
      generalize sg3 (la * q) (p * lb) = r1 at *
      generalize sg3 (p * ld) (lc * q) = r2 at *
      have k1 : decide (0 < r1) = false := decide_eq_false (by omega)
      have k2 : decide (0 < r2) = false := decide_eq_false (by omega)
      have k3 : decide (k < lb) = false := decide_eq_false (by omega)
      have k4 : decide (k < ld) = false := decide_eq_false (by omega)
      have HN := hide hN
      have N7 := hide n7
      clear n5 n6 n7 hN g3
      go_wp2_with fail
      refine (hC1 _).mono ?_
      rintro e w14 ⟨rfl, b14⟩
      have B14 := bch B13 b14
      clear HFx0 HFx1
      have HF := hide (HF.out.bel b14)
      clear HLx0 HLx1
      have HL := hide (HL.out.bel b14)
      clear HMx0 HMx1
      have HM := hide (HM.out.bel b14)
      clear HHx0 HHx1
      have HH := hide (HH.out.bel b14)
      clear HUx0 HUx1
      have HU := hide (HU.out.bel b14)
      have L1 := hide (L1.out.keep b14)
      have L2 := hide (L2.out.keep b14)
      have L3 := hide (L3.out.keep b14)
      have L4 := hide (L4.out.keep b14)
      clear b14 B13
      obtain ⟨HFc, -, -, -⟩ := HF.out.after (Below.refl _ _) HF.out.lt
      have HFx0 := HFc 0
      have HFx1 := HFc 1
      clear HFc
      obtain ⟨HLc, -, -, -⟩ := HL.out.after (Below.refl _ _) HL.out.lt
      have HLx0 := HLc 0
      have HLx1 := HLc 1
      clear HLc
      obtain ⟨HMc, -, -, -⟩ := HM.out.after (Below.refl _ _) HM.out.lt
      have HMx0 := HMc 0
      have HMx1 := HMc 1
      clear HMc
      obtain ⟨HHc, -, -, -⟩ := HH.out.after (Below.refl _ _) HH.out.lt
      have HHx0 := HHc 0
      have HHx1 := HHc 1
      clear HHc
      obtain ⟨HUc, -, -, -⟩ := HU.out.after (Below.refl _ _) HU.out.lt
      have HUx0 := HUc 0
      have HUx1 := HUc 1
      clear HUc
      go_wp2_with fail
      refine (hC2 _).mono ?_
      rintro e w15 ⟨rfl, b15⟩
      have B15 := bch B14 b15
      clear HFx0 HFx1
      have HF := hide (HF.out.bel b15)
      clear HLx0 HLx1
      have HL := hide (HL.out.bel b15)
      clear HMx0 HMx1
      have HM := hide (HM.out.bel b15)
      clear HHx0 HHx1
      have HH := hide (HH.out.bel b15)
      clear HUx0 HUx1
      have HU := hide (HU.out.bel b15)
      have L1 := hide (L1.out.keep b15)
      have L2 := hide (L2.out.keep b15)
      have L3 := hide (L3.out.keep b15)
      have L4 := hide (L4.out.keep b15)
      clear b15 B14
      obtain ⟨HFc, -, -, -⟩ := HF.out.after (Below.refl _ _) HF.out.lt
      have HFx0 := HFc 0
      have HFx1 := HFc 1
      clear HFc
      obtain ⟨HLc, -, -, -⟩ := HL.out.after (Below.refl _ _) HL.out.lt
      have HLx0 := HLc 0
      have HLx1 := HLc 1
      clear HLc
      obtain ⟨HMc, -, -, -⟩ := HM.out.after (Below.refl _ _) HM.out.lt
      have HMx0 := HMc 0
      have HMx1 := HMc 1
      clear HMc
      obtain ⟨HHc, -, -, -⟩ := HH.out.after (Below.refl _ _) HH.out.lt
      have HHx0 := HHc 0
      have HHx1 := HHc 1
      clear HHc
      obtain ⟨HUc, -, -, -⟩ := HU.out.after (Below.refl _ _) HU.out.lt
      have HUx0 := HUc 0
      have HUx1 := HUc 1
      clear HUc
      go_upto_region 21 with fail
      go_cut [203] (fun v wc => v = .bool false ∧ Below w15.heap.size w15 wc)
      case first => as_aux_lemma =>
        rcases N7.out with ⟨rfl, rfl, rfl, rfl⟩ | ⟨m1, m2, m3⟩
        · go_wp2_with fail
          go_quiet (fail)
          go_wp2_with fail
          go_meet
          case rel => exact ⟨rfl, belowN (Below.refl _ _) _⟩
        · have mixed : Try.prog.follows .mixedOrders = true := by kernel_rfl
          have hnb : Nb (la, lb) (lc, ld) := ⟨n1, n2, .inr (by simp only; omega)⟩
          have HLy0 := fun d os => cell_regrown (show _ = some (Value.int .i64 la) from HLx0) d os
          have HLy1 := fun d os => cell_regrown (show _ = some (Value.int .i64 lb) from HLx1) d os
          have HHy0 := fun d os => cell_regrown (show _ = some (Value.int .i64 lc) from HHx0) d os
          have HHy1 := fun d os => cell_regrown (show _ = some (Value.int .i64 ld) from HHx1) d os
          have HFy0 := fun d os => cell_regrown (show _ = some (Value.int .i64 p) from HFx0) d os
          have HFy1 := fun d os => cell_regrown (show _ = some (Value.int .i64 q) from HFx1) d os
          have cN : ∀ d os, Calls Try.prog 19 #[.agg #[.int .i64 la, .int .i64 lb], .agg #[.int .i64 lc, .int .i64 ld]] (grow (redrawn w15 d) os) fun e w'' => e = .returned (.bool true) ∧ ∃ p : Regrown, w'' = grow (redrawn w15 p.d) p.os := fun d os => Calls.regrown_of (areNb_any _ _ _ _ _ hnb)
          have hA : (la = lc ∧ ¬ lb = ld) ∨ ¬ la = lc := by omega
          have hB : (la = p ∧ ¬ lb = q) ∨ ¬ la = p := by omega
          have HNB := hide hnb
          clear hnb m1 m2 m3
          rcases hA with ⟨rfl, a2⟩ | a1 <;> rcases hB with ⟨rfl, c2⟩ | c1
          all_goals
            go_wp2_with fail
            refine wp_region_quiet_below (by assumption) (by kernel_rfl) ?_
            repeat (first | go_big_quiet_step (with_reducible exact cN _ _) | quiet_step ((with_reducible exact cN _ _)))
            refine wpQuiet_nil ?_
            intro _ hw'
            obtain ⟨⟨dq, osq⟩, hw''⟩ := hw'
            subst hw''
            have hb3 := below_regrown w15 dq osq
            go_wp2_with fail
            go_meet
            case rel => exact ⟨rfl, hb3⟩
      case rest =>
        obtain ⟨rfl, hbw⟩ := hcut
        have BW := bch B15 hbw
        clear HFx0 HFx1
        have HF := hide (HF.out.bel hbw)
        clear HLx0 HLx1
        have HL := hide (HL.out.bel hbw)
        clear HMx0 HMx1
        have HM := hide (HM.out.bel hbw)
        clear HHx0 HHx1
        have HH := hide (HH.out.bel hbw)
        clear HUx0 HUx1
        have HU := hide (HU.out.bel hbw)
        have L1 := hide (L1.out.keep hbw)
        have L2 := hide (L2.out.keep hbw)
        have L3 := hide (L3.out.keep hbw)
        have L4 := hide (L4.out.keep hbw)
        obtain ⟨HFc, -, -, -⟩ := HF.out.after (Below.refl _ _) HF.out.lt
        have HFx0 := HFc 0
        have HFx1 := HFc 1
        clear HFc
        obtain ⟨HLc, -, -, -⟩ := HL.out.after (Below.refl _ _) HL.out.lt
        have HLx0 := HLc 0
        have HLx1 := HLc 1
        clear HLc
        obtain ⟨HMc, -, -, -⟩ := HM.out.after (Below.refl _ _) HM.out.lt
        have HMx0 := HMc 0
        have HMx1 := HMc 1
        clear HMc
        obtain ⟨HHc, -, -, -⟩ := HH.out.after (Below.refl _ _) HH.out.lt
        have HHx0 := HHc 0
        have HHx1 := HHc 1
        clear HHc
        obtain ⟨HUc, -, -, -⟩ := HU.out.after (Below.refl _ _) HU.out.lt
        have HUx0 := HUc 0
        have HUx1 := HUc 1
        clear HUc
        clear hbw B15 N7
        by_cases hc0 : cb = 0
        case neg =>
          have k0 : (cb != 0) = true := by simpa using hc0
          go_wp2_with fail
          go_ret
          exact ⟨rfl, BW⟩
        case pos =>
          subst hc0
          have hb := hcb.out
          have hk2 : 1 ≤ k ∧ k ≤ 10000 := by
            unfold bbc at hb
            rw [if_pos hok] at hb
            apply Classical.byContradiction
            intro hh
            rw [if_neg hh] at hb
            cases hb
          obtain ⟨LX, eX⟩ := bbl_low HN.out hok hk2
          obtain ⟨LY, eY⟩ := bal_high HN.out hok hk2
          have eX' : X = LX ++ [(la, lb)] := by rw [← hX.out]; unfold bbx; rw [if_pos ⟨hok, hk2.1, hk2.2⟩]; exact eX
          have eY' : Y = LY ++ [(lc, ld)] := by rw [← hY.out]; unfold bax; rw [if_pos ⟨hok, hk2.1, hk2.2⟩]; exact eY
          clear hb hk2 eX eY hX hY hcb hcs HN hok hk hsd n1 n2 n3 n4 s1 s2
          obtain ⟨A1, z1, c1, rfl, hn1, -, -⟩ := L1.out
          obtain ⟨A2, z2, c2, rfl, hn2, hz2, -⟩ := L2.out
          obtain ⟨A3, z3, c3, rfl, hn3, -, -⟩ := L3.out
          obtain ⟨A4, z4, c4, rfl, hn4, hz4, -⟩ := L4.out
          obtain ⟨mx, hmx⟩ : ∃ mx, LX.length = mx := ⟨_, rfl⟩
          obtain ⟨my, hmy⟩ : ∃ my, LY.length = my := ⟨_, rfl⟩
          have ex : X.length = mx + 1 := by rw [eX', List.length_append, hmx]; rfl
          have ey : Y.length = my + 1 := by rw [eY', List.length_append, hmy]; rfl
          obtain ⟨g2, rfl, hg2, hl2, e20, e21⟩ := L2.out.cellAt (i := mx) (by omega)
          obtain ⟨g4, rfl, hg4, hl4, e40, e41⟩ := L4.out.cellAt (i := my) (by omega)
          have fx : X[mx] = (la, lb) := by simp [eX', ← hmx]
          have fy : Y[my] = (lc, ld) := by simp [eY', ← hmy]
          rw [fx] at e20 e21
          rw [fy] at e40 e41
          simp only at e20 e21 e40 e41
          have i1 : (0 : Int) < (z1 : Int) := by omega
          have i3 : (0 : Int) < (z3 : Int) := by omega
          have j2 : (mx : Int) < (z2 : Int) := by omega
          have j4 : (my : Int) < (z4 : Int) := by omega
          have k2' : IntKind.i64.wrap ((z2 : Int) - 1) = (mx : Int) := by rw [IntWalk.i64_in _ (by omega)]; omega
          have k4' : IntKind.i64.wrap ((z4 : Int) - 1) = (my : Int) := by rw [IntWalk.i64_in _ (by omega)]; omega
          have l1 : 0 < z1 := by omega
          have l3 : 0 < z3 := by omega
          clear fx fy ex ey hmx hmy hn1 hn2 hn3 hn4 hz2 hz4 hl2 hl4 eX' eY' L1 L2 L3 L4 hg2 hg4
          go_upto_region 25 with fail
          go_quiet (fail)
          go_wp2_with fail
          go_ret
          exact ⟨rfl, belowN BW _⟩

theorem u8_rng {xs : List Int} (hw : ∀ z ∈ xs, (Lit.int .u8 z).wf = true) : ∀ x ∈ xs, 0 ≤ x ∧ x ≤ 255 := fun x hx => by
  have := hw x hx
  simp only [Lit.wf, Bool.and_eq_true, decide_eq_true_eq] at this
  exact this
theorem walk_OneSided (A : Option Addr) (n c : Nat) (xs : List Int) (hw : ∀ z ∈ xs, (Lit.int .u8 z).wf = true) (w : World) (h : Rd w w.heap.size 1 A n (xs.map (Value.int .u8))) (hn : n ≤ 9223372036854775807) :
    Calls Try.prog 3 #[.slice A n c] w fun e w' => e = .returned (.bool true) ∧ Below w.heap.size w w' :=
  law_OneSided A n c xs w h hn (u8_rng hw)

end Go.Proofs.Ytnjilpldfidbjaa
