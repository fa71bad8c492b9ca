/- The law FnMarkov: its walk. -/
import Derived.Test.YtikpiigamnpafaaDoorMvV
import Derived.Deep.DeepCutAuto
import Derived.Lib.Strings
namespace Go.Proofs.YtikpiigamnpafaaDoor
open Go.RowKit Go.Sort

theorem bch {w w1 w2 : World} (h : Below w.heap.size w w1) (h2 : Below w1.heap.size w1 w2) : Below w.heap.size w w2 := bstep h h2 h.size

set_option maxHeartbeats 4000000 in
set_option maxRecDepth 100000 in
theorem law_Markov (A A' : Option Addr) (n c n' c' : Nat) (xs xs' : List Int) (w : World) (h : Rd w w.heap.size 1 A n (u8l xs)) (h' : Rd w w.heap.size 1 A' n' (u8l xs')) (hn : n ≤ 9223372036854775807) (hn' : n' ≤ 9223372036854775807) (hx : ∀ x ∈ xs, 0 ≤ x ∧ x ≤ 255) (hx' : ∀ x ∈ xs', 0 ≤ x ∧ x ≤ 255) (ht : Tab w) :
    Calls Tryd.prog 6 #[.slice A n c, .slice A' n' c'] w fun e w' => e = .returned (.bool true) ∧ Below w.heap.size w w' := by
  by_cases hbig : 3000 < n ∨ 3000 < n'
  · go_enter Tryd.func6, Tryd.ntmps6
    go_wp2_with fail
    refine (a2Long2_any A A' n c n' c' _ hn hn').mono ?_
    rintro e w1 ⟨rfl, rfl⟩
    rw [decide_eq_true hbig]
    go_wp2_with fail
    go_ret
    exact ⟨rfl, Below.refl _ _⟩
  · go_enter Tryd.func6, Tryd.ntmps6
    go_wp2_with fail
    refine (a2Long2_any A A' n c n' c' _ hn hn').mono ?_
    rintro e w1 ⟨rfl, rfl⟩
    rw [decide_eq_false hbig]
    go_wp2_with fail
    refine (a2Triple_any A n c xs _ h hn hx).mono ?_
    rintro e w1 ⟨X, Y, Z, rfl, hv, b1⟩
    obtain ⟨hmv, r1, r2, r3, r4⟩ := vt_mv hv
    have hT := Blk.new w1 27 #[.int .i64 X, .int .i64 Y, .int .i64 Z]
    have B1 : Below w.heap.size w (w1.alloc (.cells #[.int .i64 X, .int .i64 Y, .int .i64 Z] 27)) := b1.alloc b1.size _
    have hmore := (h'.below B1).more B1.size
    have hbt : w.heap.size ≤ w1.heap.size := b1.size
    have hA := a2At_any A' n' c' _ xs' 0 2 _ hmore (by omega) (by omega) hx' (by omega)
    have hText : Hid (∃ S : ByteArray, S.toList.isEmpty = false ∧ ∀ w, Tab w → Calls Tryd.prog 11 #[.agg #[.int .i64 X, .int .i64 Y, .int .i64 Z]] w fun e w' => e = .returned (.string S) ∧ Below w.heap.size w w') := by
      refine ⟨⟨(tlx X Y Z).toArray⟩, ?_, fun w ht => implTripleText_any X Y Z w ht⟩
      rw [Lib.toList_data]
      unfold tlx
      rw [if_pos hv]
      rfl
    have HV := hide hv
    have HM := hide hmv
    clear hmore h h' hx hx' b1 hv hmv
    go_wp2_with fail
    refine hA.mono ?_
    rintro e w2 ⟨v, rfl, v0, v1, rfl⟩
    obtain ⟨r, hr⟩ : ∃ r, (v == 1) = r := ⟨_, rfl⟩
    obtain ⟨a1, a2, a3, HT⟩ := hT.after (Below.refl _ _) hT.lt
    have x0 := a1 0
    have x1 := a1 1
    have x2 := a1 2
    clear a1 hT hA
    obtain ⟨W1, hW1⟩ : ∃ W1, w1.alloc (.cells #[.int .i64 X, .int .i64 Y, .int .i64 Z] 27) = W1 := ⟨_, rfl⟩
    rw [hW1] at x0 x1 x2 a2 a3 HT B1 ⊢
    generalize w1.heap.size = bt at *
    clear hW1
    by_cases hz : 3 * fst r X Y * Z - snd r X Y ≤ 1000000000
    case' pos =>
      have hok := kid_ok r HV.out hz
      have hkm := kid_mv HM.out r
      have hku := kid_up HM.out.1 r
      have hlt : Z < 3 * fst r X Y * Z - snd r X Y := hkm.2
      have hC := fun w => implTripleChild_ok r X Y Z w HV.out hz
      have hVd := specValidTriple_any (fst r X Y) Z (3 * fst r X Y * Z - snd r X Y)
      have hP := implTripleParent_any (fst r X Y) Z (3 * fst r X Y * Z - snd r X Y)
      have e1 : tpc (fst r X Y) Z (3 * fst r X Y * Z - snd r X Y) = 0 := by unfold tpc; rw [if_pos hok, if_neg (by omega)]
      have e2 : tpr (fst r X Y) Z (3 * fst r X Y * Z - snd r X Y) = ⟨X, Y, Z⟩ := by unfold tpr; rw [if_pos e1]; exact hku
      rw [hok] at hVd
      rw [e1, e2] at hP
      generalize 3 * fst r X Y * Z - snd r X Y = N at *
      generalize fst r X Y = F at *
      have hd : decide (N ≤ Z) = false := decide_eq_false (by omega)
      clear hok hkm hku e1 e2 hz HM
      go_wp2_with fail
      refine (hC _).mono ?_
      rintro e w3 ⟨rfl, b3⟩
      have B3 := bch B1 b3
      obtain ⟨d1, d2, d3, HT3⟩ := HT.out.after b3 a3
      have y2 := d1 2
      have y0 := d1 0
      have y1 := d1 1
      clear d1 b3 x0 x1 x2 a2
      go_wp2_with fail
      refine (hVd _).mono ?_
      rintro e w4 ⟨rfl, b4⟩
      have B4 := bch (B3.alloc B3.size _) b4
      obtain ⟨f1, f2, f3, HC4⟩ := (Blk.new w3 27 #[.int .i64 F, .int .i64 Z, .int .i64 N]).after b4 (by simp)
      obtain ⟨d1, d2, d3, HT4⟩ := (HT3.out.alloc (.cells #[.int .i64 F, .int .i64 Z, .int .i64 N] 27)).after b4 (by simp; omega)
      have z0 := d1 0
      have z1 := d1 1
      have z2 := d1 2
      have k0 := f1 0
      have k1 := f1 1
      have k2 := f1 2
      clear d1 f1 b4 y0 y1 y2 B3
      go_wp2_with fail
      refine (hP _).mono ?_
      rintro e w5 ⟨rfl, b5⟩
      have B5 := bch B4 b5
      obtain ⟨d1, d2, d3, HT5⟩ := HT4.out.after b5 (by omega)
      have y0 := d1 0
      have y1 := d1 1
      have y2 := d1 2
      clear d1 b5 z0 z1 z2 k0 k1 k2 B4
      have BT := B5.alloc B5.size (.cells #[.int .i64 X, .int .i64 Y, .int .i64 Z] 27)
      have HTT := hide (HT5.out.alloc (.cells #[.int .i64 X, .int .i64 Y, .int .i64 Z] 27))
      go_wp2_with fail
      clear y0 y1 y2 B5 HT5 HC4 HT4 HT3 HT hC hP hVd
      generalize w5.alloc (.cells #[.int .i64 X, .int .i64 Y, .int .i64 Z] 27) = wT at *
    case' neg =>
      have hC := fun w => implTripleChild_full r X Y Z w HV.out (by omega)
      clear HM hz
      go_wp2_with fail
      refine (hC _).mono ?_
      rintro e w3 ⟨rfl, b3⟩
      have B3 := bch B1 b3
      obtain ⟨d1, d2, d3, HT3⟩ := HT.out.after b3 a3
      clear b3 x0 x1 x2 a2
      have BT := B3.alloc B3.size (.cells #[.int .i64 0, .int .i64 0, .int .i64 0] 27)
      have HTT := hide (HT3.out.alloc (.cells #[.int .i64 0, .int .i64 0, .int .i64 0] 27))
      have x0 := d1 0
      have x1 := d1 1
      have x2 := d1 2
      clear d1
      go_wp2_with fail
      clear B3 HT3 HT hC x0 x1 x2
      generalize w3.alloc (.cells #[.int .i64 0, .int .i64 0, .int .i64 0] 27) = wT at *
    all_goals
      obtain ⟨S, hS0, hS⟩ := hText.out
      have hPth := implTriplePath_any X Y Z
      obtain ⟨k0, k1, k2, HT6⟩ := HTT.out.after (Below.refl _ _) HTT.out.lt
      refine (hS _ (ht.below BT)).mono ?_
      rintro e w6 ⟨rfl, b6⟩
      have B6 := bch BT b6
      obtain ⟨d1, d2, d3, HT7⟩ := HTT.out.after b6 k2
      have y0 := d1 0
      have y1 := d1 1
      have y2 := d1 2
      clear d1 b6 k0 k1 k2 BT HTT HT6 hS hText ht
      go_wp2_with fail
      by_cases hz2 : Z ≤ 2
      · have ec : tphc X Y Z = 3 := by unfold tphc; rw [if_pos HV.out, if_pos hz2]
        rw [ec] at hPth
        clear ec
        refine (hPth _).mono ?_
        rintro e w7 ⟨v7, rfl, hl7, b7⟩
        have B7 := bch B6 b7
        obtain ⟨d1, d2, d3, HT8⟩ := HT7.out.after b7 d3
        have z2 := d1 2
        clear d1 b7 hl7 y0 y1 y2
        go_wp2_with fail
        go_ret
        exact ⟨rfl, B7⟩
      · have ec : tphc X Y Z = 0 := by unfold tphc; rw [if_pos HV.out, if_neg hz2]
        have ex : tphx X Y Z = way ⟨X, Y, Z⟩ := by unfold tphx; rw [if_pos ec]
        obtain ⟨hmv, _⟩ := vt_mv HV.out
        have h5 : 5 ≤ Z := by
          apply Int.not_lt.1
          intro h
          exact mv_small hmv (by simp only; omega)
        have hback := way_back Z.toNat ⟨X, Y, Z⟩ hmv (by simp only; omega) (by simp only; omega) h5
        have hlen := way_len 30 ⟨X, Y, Z⟩ hmv (by simp only; omega)
        have hres : tRes (way ⟨X, Y, Z⟩) = .tuple #[.agg #[.int .i64 X, .int .i64 Y, .int .i64 Z], .int .i64 0] := by unfold tRes; rw [hback]
        rw [ec, ex] at hPth
        generalize way ⟨X, Y, Z⟩ = L at *
        have HRES := hide hres
        clear ec ex hback hmv hres
        refine (hPth _).mono ?_
        rintro e w7 ⟨v7, rfl, hl7, b7⟩
        have B7 := bch B6 b7
        obtain ⟨d1, d2, d3, HT8⟩ := HT7.out.after b7 d3
        have z0 := d1 0
        have z1 := d1 1
        have z2 := d1 2
        obtain ⟨A7, n7, c7, rfl, hn7, _, hr7⟩ := hl7
        have hrd := LstB.rd hn7 hr7
        have hAt := implTripleAt_any A7 n7 c7 L w7 hrd (by omega)
        rw [HRES.out] at hAt
        clear d1 b7 hn7 hr7 hrd y0 y1 y2
        go_wp2_with fail
        refine hAt.mono ?_
        rintro e w8 ⟨rfl, b8⟩
        have B8 := bch B7 b8
        obtain ⟨d1, d2, d3, HT9⟩ := HT8.out.after b8 d3
        have y0 := d1 0
        have y1 := d1 1
        have y2 := d1 2
        clear d1 b8 z0 z1 z2 hAt
        go_wp2_with fail
        go_ret
        exact ⟨rfl, B8.alloc B8.size _⟩

theorem u8_rng {xs : List Int} (hw : ∀ z ∈ xs, (Lit.int .u8 z).wf = true) : ∀ x ∈ xs, 0 ≤ x ∧ x ≤ 255 := fun x hx => by
  have := hw x hx
  simp only [Lit.wf, Bool.and_eq_true, decide_eq_true_eq] at this
  exact this
theorem walk_Markov (A : Option Addr) (n c : Nat) (xs : List Int) (A' : Option Addr) (n' c' : Nat) (xs' : List Int) (hw : ∀ z ∈ xs, (Lit.int .u8 z).wf = true) (hw' : ∀ z ∈ xs', (Lit.int .u8 z).wf = true) (w : World) (h : Rd w w.heap.size 1 A n (xs.map (Value.int .u8))) (hn : n ≤ 9223372036854775807) (h' : Rd w w.heap.size 1 A' n' (xs'.map (Value.int .u8))) (hn' : n' ≤ 9223372036854775807) (ht : Tab w) :
    Calls Tryd.prog 6 #[.slice A n c, .slice A' n' c'] w fun e w' => e = .returned (.bool true) ∧ Below w.heap.size w w' :=
  law_Markov A A' n c n' c' xs xs' w h h' hn hn' (u8_rng hw) (u8_rng hw') ht

end Go.Proofs.YtikpiigamnpafaaDoor
