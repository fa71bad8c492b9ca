/- StepsBetween: the reference's, and the law. -/
import Derived.Test.YtnjilpldfidbjaaStpD
import Derived.Test.YtnjilpldfidbjaaNext
import Derived.Test.YtnjilpldfidbjaaFracL
import Derived.StillTailTactics
namespace Go.Proofs.Ytnjilpldfidbjaa
open Go.RowKit

theorem next_bd {p : Int} {q k : Nat} (ho : okF p q = true) (hk : k < (terms p q).length) :
    (-9223372036854775808 ≤ (terms p q)[k] * (cv p q k).p ∧ (terms p q)[k] * (cv p q k).p ≤ 9223372036854775807) ∧ (-9223372036854775808 ≤ (terms p q)[k] * (cv p q k).p + (cv p q k).pp ∧ (terms p q)[k] * (cv p q k).p + (cv p q k).pp ≤ 9223372036854775807) ∧
    (-9223372036854775808 ≤ (terms p q)[k] * (cv p q k).q ∧ (terms p q)[k] * (cv p q k).q ≤ 9223372036854775807) ∧ (-9223372036854775808 ≤ (terms p q)[k] * (cv p q k).q + (cv p q k).qq ∧ (terms p q)[k] * (cv p q k).q + (cv p q k).qq ≤ 9223372036854775807) := by
  have h1 := cv_bd2 ho (k := k) (by omega)
  have h2 := cv_bd ho (k + 1)
  have e1 : (cv p q (k + 1)).p = (terms p q)[k] * (cv p q k).p + (cv p q k).pp := by rw [cv_succ hk]; rfl
  have e2 : (cv p q (k + 1)).q = (terms p q)[k] * (cv p q k).q + (cv p q k).qq := by rw [cv_succ hk]; rfl
  rw [e1, e2] at h2
  omega

def cs4 (C : C4) : Array Value := #[.int .i64 C.p, .int .i64 C.q, .int .i64 C.pp, .int .i64 C.qq]

set_option maxRecDepth 100000 in
set_option maxHeartbeats 2000000 in
theorem specSteps_any (p q k : Int) (w : World) :
    Calls Try.prog 28 #[.agg #[.int .i64 p, .int .i64 q], .int .i64 k] w fun e w' => ∃ v, e = .returned (.tuple #[v, .int .i64 (sbc p q k)]) ∧ LstF w' w.heap.size v (sbx p q k) ∧ Below w.heap.size w w' := by
  have hC := l19Code_any p q
  by_cases hi0 : itc p q = 0
  · have ho : okF p q = true := by
      unfold itc at hi0; by_cases h : okF p q = true
      · exact h
      · rw [if_neg h] at hi0; omega
    obtain ⟨o1, o2, _⟩ := okF_iff.1 ho
    obtain ⟨b, rfl⟩ : ∃ b : Nat, q = b := ⟨q.toNat, by omega⟩
    have ht : tl (terms p b) = false := by
      unfold itc at hi0; rw [if_pos ho] at hi0
      cases h : tl (terms p b) with
      | false => rfl
      | true => rw [Int.toNat_natCast, h] at hi0; simp at hi0
    have htk : tk p b = terms p b := rfl
    have hT := fun w => l03Terms_any p b w (by omega) (by omega)
    have hl60 := len_half 30 p b (by omega)
    have h00 := (term0_bd ho).1
    rw [hi0] at hC
    by_cases hk : 0 ≤ k ∧ k ≤ ((terms p b).length : Int) - 3
    · have hs : sbc p b k = 0 := by unfold sbc; rw [hi0, htk, if_pos hk]; rfl
      obtain ⟨i, rfl⟩ : ∃ i : Nat, k = i := ⟨k.toNat, by omega⟩
      have hi2 : i + 1 + 1 < (terms p b).length := by omega
      have hx : sbx p b i = ((cv p b (i + 1)).p, (cv p b (i + 1)).q) :: stl (cv p b (i + 1 + 1)) ((terms p b)[i + 1 + 1]).toNat := by
        unfold sbx; rw [hs, htk]; simp [List.getD, hi2]
      have htb := tl_bd ht hi2
      obtain ⟨m, hm⟩ : ∃ m : Nat, (terms p b)[i + 1 + 1] = m := ⟨((terms p b)[i + 1 + 1]).toNat, by omega⟩
      rw [hm] at hx htb
      rw [Int.toNat_natCast] at hx
      have HT := hide (il_at (zs := terms p b) (i := i + 1 + 1) hi2)
      rw [hm] at HT
      obtain ⟨i0, hinf, hz0, hz1, hz2⟩ := info_parts infoF
      have e1 := inB_of hk
      obtain ⟨n0, hn0⟩ : ∃ n0, (terms p b).length = n0 := ⟨_, rfl⟩
      rw [hn0] at e1 hk hl60 h00 hi2
      have HN0 := hide hn0
      have hcv1 := cv_bd ho (i + 1 + 1)
      have hcv2 := cv_bd2 ho (k := i + 1 + 1) (by rw [hn0]; omega)
      have hCa := cv_succ (p := p) (q := b) (k := i + 1) (by rw [hn0]; omega)
      have n3 : (cv p b (i + 1 + 1)).pp = (cv p b (i + 1)).p := by rw [hCa]; rfl
      have n4 : (cv p b (i + 1 + 1)).qq = (cv p b (i + 1)).q := by rw [hCa]; rfl
      rw [← n3, ← n4] at hx
      obtain ⟨C0, hC0⟩ : ∃ C0, cv p b (i + 1 + 1) = C0 := ⟨_, rfl⟩
      rw [hC0] at hx hcv1 hcv2
      have HC0 := hide hC0
      obtain ⟨P0, Q0, PP0, QQ0⟩ := C0
      simp only at hcv1 hcv2 hx
      rw [hs, hx]
      clear hs hx hm hn0 htk hi0 ht hCa n3 n4 hC0
      go_enter Try.func28, Try.ntmps28
      go_wp2_with fail
      refine (hC _).mono ?_
      rintro e w1 ⟨rfl, hb1⟩
      obtain ⟨a1, _, k3, _⟩ := (Blk.new w 25 #[.int .i64 p, .int .i64 b]).after hb1 (by simp)
      have x0 := a1 0
      have x1 := a1 1
      have hB := bstep (show Below w.heap.size w _ by go_grown) hb1 (by simp)
      clear a1 hb1
      go_wp2_with fail
      refine (hT _).mono ?_
      rintro e w2 ⟨g, c, n, rfl, hn, hg, hrow, hb2⟩
      obtain rfl : n = n0 := hn.trans HN0.out
      have hB2 := bstep hB hb2 hB.size
      have HR := hide hrow
      clear hn x0 x1 hrow hb2 hT hC
      go_wp2_with fail
      refine (l00In_any _ _ _ _).mono ?_
      rintro e w3 ⟨rfl, rfl⟩
      rw [e1]
      go_wp2_with fail
      refine (l03New_any _).mono ?_
      rintro e w3 ⟨rfl, hb3⟩
      have hB3 := bstep hB2 hb3 hB2.size
      have hrt := HR.out.below hb3 HR.out.lt
      have hglt := hrt.lt
      have sz3 := hB3.size
      have HR := hide (hrt.alloc (.cells #[.int .i64 1, .int .i64 0, .int .i64 0, .int .i64 1] 72))
      clear hb3 hrt
      go_wp2_with fail
      go_loopw [9] (fun j wr => ∃ a : Nat, a ≤ i + 1 + 1 ∧ j = .int .i64 a ∧ Blk wr w3.heap.size 72 (cs4 (cv p b a)) ∧ Row wr g 2 1 n c (il (terms p b)) ∧ Below w.heap.size w wr) (fun j _ => n - (intOf j).toNat)
      case atStart => exact ⟨0, by omega, rfl, Blk.new _ _ _, HR.out, hB3.alloc sz3 _⟩
      case round =>
        obtain ⟨a, ha, rfl, hblk, hrow, hbel⟩ := hrel
        have sz4 := hbel.size
        have hNl := hblk.lt
        obtain ⟨kc, kf, kz, _⟩ := hblk.after (Below.refl _ _) hNl
        have HR4 := hide hrow
        have HB4 := hide hblk
        clear hblk hrow
        by_cases hlt : a < i + 1 + 1
        · have hal : a < (terms p b).length := by rw [HN0.out]; omega
          have hcell := HR4.out.cell (il_at hal)
          have HM := hide (next_bd ho hal)
          have HS := hide (show cs4 (cv p b (a + 1)) = cs4 ((cv p b a).next (terms p b)[a]) by rw [cv_succ hal])
          generalize (terms p b)[a] = t at *
          generalize cv p b a = C at *
          obtain ⟨P, Q, PP, QQ⟩ := C
          simp only at HM kc
          have z0 := kc 0
          have z1 := kc 1
          have z2 := kc 2
          have z3 := kc 3
          have f0 := kf 0
          have f1 := kf 1
          have f2 := kf 2
          have f3 := kf 3
          simp only [cs4] at z0 z1 z2 z3
          clear kc kf
          have i1 : (a : Int) < (n : Int) := by omega
          have i2 : (a : Int) ≤ (i : Int) + 1 := by omega
          go_wp2_with fail
          go_still_tail 5, (by kernel_rfl)
          change wpList _ _ _ _ _ wr.drew
          go_wp2_with fail
          refine (next_any _ _ _ _ _ _ HM.out.1 HM.out.2.1 HM.out.2.2.1 HM.out.2.2.2).mono ?_
          rintro e w' ⟨rfl, hb⟩
          have hb' : Below wr.heap.size wr w' := ((Below.refl _ _).drew).trans hb
          clear z0 z1 z2 z3 f0 f1 f2 f3
          obtain ⟨kc, kf, kz', kb'⟩ := HB4.out.after hb' kz
          have z0 := kc 0
          have z1 := kc 1
          have z2 := kc 2
          have z3 := kc 3
          have f0 := kf 0
          have f1 := kf 1
          have f2 := kf 2
          have f3 := kf 3
          simp only [cs4] at z0 z1 z2 z3
          clear kc kf
          have sz5 := hb'.size
          have hrl := HR4.out.lt
          go_wp2
          go_roundw
          case rel =>
            refine ⟨a + 1, by omega, by first | rfl | simp, ?_, ?_, ?_⟩
            · rw [HS.out]
              exact (((kb'.out.set_ 0 _).set_ 1 _).set_ 2 _).set_ 3 _
            · exact (((((HR4.out.below hb' HR4.out.lt).far (by simp; omega) _).far (by simp; omega) _).far (by simp; omega) _).far (by simp; omega) _)
            · exact ((((hbel.trans (hb'.mono hbel.size)).setCell (by simp; omega) _).setCell (by simp; omega) _).setCell (by simp; omega) _).setCell (by simp; omega) _
          case measure => simp [intOf]; omega
        · obtain rfl : a = i + 1 + 1 := by omega
          rw [HC0.out] at kc HB4
          have z0 := kc 0
          have z1 := kc 1
          have z2 := kc 2
          have z3 := kc 3
          simp only [cs4] at z0 z1 z2 z3
          have hrl := HR4.out.lt
          have HBE := hide hbel
          clear kc kf hbel
          have i2 : ¬ ((i + 1 + 1 : Nat) : Int) ≤ (i : Int) + 1 := by omega
          have i3 : ¬ (i : Int) + 1 + 1 ≤ (i : Int) + 1 := by omega
          generalize wr = W0 at *
          go_wp2_with fail
          have hr1 := row1 W0 PP0 QQ0
          have HB5 := hide (HB4.out.alloc (.cells #[.int .i64 PP0, .int .i64 QQ0] 25))
          have HR5 := hide (HR4.out.alloc (.cells #[.int .i64 PP0, .int .i64 QQ0] 25))
          have HBE5 := hide (HBE.out.alloc sz4 (.cells #[.int .i64 PP0, .int .i64 QQ0] 25))
          go_loopw [10, 11] (fun v t wr => ∃ j g' c' : Nat, t = .int .i64 ((j : Int) + 1) ∧ j ≤ m ∧ v = .slice (some ⟨g', 0, none⟩) (j + 1) c' ∧ w3.heap.size < g' ∧ Row wr g' 25 2 (j + 1) c' (cs2 ((PP0, QQ0) :: stl ⟨P0, Q0, PP0, QQ0⟩ j)) ∧ Blk wr w3.heap.size 72 (cs4 ⟨P0, Q0, PP0, QQ0⟩) ∧ Row wr g 2 1 n c (il (terms p b)) ∧ Below w.heap.size w wr) (fun _ t _ => m + 1 - (intOf t).toNat)
          case atStart => exact ⟨0, W0.heap.size, 1, rfl, by omega, rfl, hNl, hr1, HB5.out, HR5.out, HBE5.out⟩
          case round =>
            obtain ⟨j, g', c', rfl, hj, rfl, hg', hrow', hblk', hrowt, hbel'⟩ := hrel
            have sz6 := hbel'.size
            have hNl' := hblk'.lt
            obtain ⟨kc, kf, kz', _⟩ := hblk'.after (Below.refl _ _) hNl'
            have z0 := kc 0
            have z1 := kc 1
            have z2 := kc 2
            have z3 := kc 3
            simp only [cs4] at z0 z1 z2 z3
            clear kc kf
            have hcell := hrowt.cell HT.out
            have hcap' := hrow'.cap_
            have hgl' := hrow'.lt
            have hgtl := hrowt.lt
            have HB6 := hide hblk'
            have HR6 := hide hrowt
            have HW := hide hrow'
            clear hblk' hrowt hrow' hr1
            have b4 : (i : Int) + 2 < (n : Int) := by omega
            have b6 : (0 : Int) ≤ (i : Int) + 2 := by omega
            by_cases hlt : j < m
            · have HS := hide (stl_succ ⟨P0, Q0, PP0, QQ0⟩ j)
              have m1 := prod_bd (t := (j : Int) + 1) (c := P0) (by omega) hcv1.1
              have m2 := prod_bd (t := (j : Int) + 1) (c := Q0) (by omega) (by omega)
              have HM := hide (show (-9223372036854775808 ≤ ((j : Int) + 1) * P0 ∧ ((j : Int) + 1) * P0 ≤ 9223372036854775807) ∧ (-9223372036854775808 ≤ ((j : Int) + 1) * P0 + PP0 ∧ ((j : Int) + 1) * P0 + PP0 ≤ 9223372036854775807) ∧ (-9223372036854775808 ≤ ((j : Int) + 1) * Q0 ∧ ((j : Int) + 1) * Q0 ≤ 9223372036854775807) ∧ (-9223372036854775808 ≤ ((j : Int) + 1) * Q0 + QQ0 ∧ ((j : Int) + 1) * Q0 + QQ0 ≤ 9223372036854775807) from by omega)
              clear m1 m2
              go_wp2_with fail
              refine (next_any _ _ _ _ _ _ HM.out.1 HM.out.2.1 HM.out.2.2.1 HM.out.2.2.2).mono ?_
              rintro e w5 ⟨rfl, hb5⟩
              have hsz5 := hb5.size
              generalize ((j : Int) + 1) * P0 + PP0 = X at *
              generalize ((j : Int) + 1) * Q0 + QQ0 = Y at *
              go_wp2_with (at_builtin; refine wpList_append_lies _ rfl (.tmp 57) (.tmp 63) _ rfl 0 25 i0 _ 2 16 Try.underlying28 hinf hz0 hz1 hz2 rfl (by omega) (.slice (some ⟨g', 0, none⟩) (j + 1) c') (j + 1) (cs2 ((PP0, QQ0) :: stl ⟨P0, Q0, PP0, QQ0⟩ j)) (by rfl) ((((HW.out.below hb5 hgl').alloc _).alloc _).own (Nat.zero_le g')) ⟨w5.heap.size + 1, 0, none⟩ 1 1 (cs2 [(X, Y)]) (by rfl) (by rfl) (news_new (by simp)) (one2 _) (by omega) (by simp only [maxLen]; omega) (by omega) (Nat.zero_le _) (w5.heap.size + 1 + 1) (by simp) ?_; intro g1 cc w6 hown1 hgrow1 hat1 hlt1)
              go_roundw
              case rel =>
                have hg1 : w3.heap.size < g1 := by
                  rcases at_old hat1 with h | h <;> omega
                refine ⟨j + 1, g1, cc, by simp, by omega, rfl, hg1, ?_, ?_, ?_, ?_⟩
                · have := (Row.of_own hown1).1
                  rw [← cs2_append, List.cons_append, ← HS.out] at this
                  exact this
                · exact (((HB6.out.after hb5 hNl').2.2.2.out.alloc _).alloc _).grown hgrow1 (fun h => by simp [Value.ownBlock] at h; omega)
                · exact (((HR6.out.below hb5 hgtl).alloc _).alloc _).grown hgrow1 (fun h => by simp [Value.ownBlock] at h; omega)
                · exact (((bstep hbel' hb5 sz6).alloc (by omega) _).alloc (by simp; omega) _).grown hgrow1 (by simp; omega) (fun k h => by simp [Value.ownBlock] at h; omega)
              case measure => simp [intOf]; omega
            · obtain rfl : j = m := by omega
              have HF := hide (LstF.of_row (B := w.heap.size) HW.out (by omega) (by omega))
              go_wp2
              go_returns
              exact ⟨_, rfl, HF.out, hbel'⟩
    · have hs : sbc p b k = 2 := by unfold sbc; rw [hi0, htk, if_neg hk]; rfl
      have hx : sbx p b k = [] := by unfold sbx; rw [hs]; rfl
      rw [hs, hx]
      clear hs hx htk
      have e1 := inB_no hk
      go_enter Try.func28, Try.ntmps28
      go_wp2_with fail
      refine (hC _).mono ?_
      rintro e w1 ⟨rfl, hb1⟩
      obtain ⟨a1, _, k3, _⟩ := (Blk.new w 25 #[.int .i64 p, .int .i64 b]).after hb1 (by simp)
      have x0 := a1 0
      have x1 := a1 1
      have hB := bstep (show Below w.heap.size w _ by go_grown) hb1 (by simp)
      clear a1 hb1
      go_wp2_with fail
      refine (hT _).mono ?_
      rintro e w2 ⟨g, c, n, rfl, hn, hg, hrow, hb2⟩
      have hB2 := bstep hB hb2 hB.size
      rw [← hn] at e1 hl60
      have HN := hide hn
      clear hn x0 x1 hrow hb2 hT hC h00
      go_wp2_with fail
      refine (l00In_any _ _ _ _).mono ?_
      rintro e w3 ⟨rfl, rfl⟩
      rw [e1]
      go_wp2_with fail
      go_returns
      exact ⟨_, rfl, LstF.nil_ _ _, hB2⟩
  · have hs : sbc p q k = itc p q := by unfold sbc; rw [if_neg hi0]
    have hx : sbx p q k = [] := by unfold sbx; rw [hs, if_neg hi0]
    rw [hs, hx]
    generalize itc p q = c at *
    have hb : (c != 0) = true := by simp [hi0]
    clear hs hx
    go_enter Try.func28, Try.ntmps28
    go_wp2_with fail
    refine (hC _).mono ?_
    rintro e w1 ⟨rfl, hb1⟩
    have hB := bstep (show Below w.heap.size w _ by go_grown) hb1 (by simp)
    go_wp2_with fail
    go_returns
    exact ⟨_, rfl, LstF.nil_ _ _, hB⟩

end Go.Proofs.Ytnjilpldfidbjaa
