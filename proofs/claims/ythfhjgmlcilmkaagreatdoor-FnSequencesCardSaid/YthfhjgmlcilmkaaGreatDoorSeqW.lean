/- The law FnSequences: its walk. -/
import Derived.Test.YthfhjgmlcilmkaaGreatDoorSeqM
import Derived.Test.YthfhjgmlcilmkaaGreatDoorConA
import Derived.Test.YthfhjgmlcilmkaaGreatDoorConB
import Derived.Test.YthfhjgmlcilmkaaGreatDoorStdA
import Derived.Test.YthfhjgmlcilmkaaGreatDoorStdB
import Derived.Test.YthfhjgmlcilmkaaGreatDoorWordE
import Derived.Test.YthfhjgmlcilmkaaGreatDoorWordB
import Derived.Test.YthfhjgmlcilmkaaGreatDoorWordIsChristoffel
import Derived.Lib.QuietBelow
import Derived.Deep.DeepCutAuto
namespace Go.Proofs.YthfhjgmlcilmkaaGreatDoor
open Go.RowKit Go.Sort

theorem cuv_form (p q n : Int) : ∃ (s : ByteArray) (c : Int), cuv p q n = .tuple #[.string s, .int .i64 c] ∧ (c = 0 → s.size ≤ 400 ∧ (n ≠ 0 → bal s.data.toList = true)) := by
  unfold cuv
  split
  · rename_i ho
    split
    · rename_i h
      refine ⟨_, _, rfl, fun _ => ?_⟩
      obtain ⟨o1, o2, o3⟩ := okF_iff.1 ho
      have hl : (cut p.toNat q.toNat n.toNat).length = n.toNat := cut_len _ _ _
      refine ⟨?_, fun hn => ?_⟩
      · show (cut p.toNat q.toNat n.toNat).length ≤ 400
        rw [hl]; omega
      · show bal (cut p.toNat q.toNat n.toNat) = true
        exact bal_cut (by omega) (by omega) (by omega)
    · exact ⟨_, _, rfl, fun h => by cases h⟩
  · exact ⟨_, _, rfl, fun h => by cases h⟩
theorem conj_facts {s : ByteArray} {out : List (List UInt8)} (h : ConR s.data.toList 0 out) (hc : isC s.data.toList = true) : (bas out).length = s.size ∧ (bas out)[0]? = some s := by
  have hlen : s.data.toList.length = s.size := by simp
  have hs : s = ⟨s.data.toList.toArray⟩ := by rcases s with ⟨⟨l⟩⟩; rfl
  generalize s.data.toList = l at *
  unfold isC at hc
  simp only [Bool.and_eq_true, decide_eq_true_eq] at hc
  obtain ⟨_, h1, h2, h3, h4⟩ := hc
  have h6 := ones_le l
  have h7 : zeros l = l.length - ones l := rfl
  have hg : Nat.gcd (ones l) (ones l + zeros l) = 1 := by rw [Nat.gcd_self_add_right]; exact h3
  rcases h with ⟨_, h, _⟩ | ⟨_, _, h, _⟩ | ⟨_, _, _, h⟩
  · omega
  · omega
  · have e : l.length = ones l + zeros l := by omega
    rw [e] at h
    have h' : CR (chr (ones l) (zeros l)) (ones l + zeros l) out := by rw [h4]; exact h
    obtain ⟨a1, a2⟩ := conj_chr h1 hg h'
    refine ⟨by rw [bas_len, a1, ← e]; exact hlen, ?_⟩
    unfold bas
    rw [List.getElem?_map, a2, h4, hs]
    rfl
theorem LstS.cellAt {w : World} {B : Nat} {A : Option Addr} {n cap : Nat} {xs : List ByteArray} (h : LstS w B (.slice A n cap) xs) {i : Nat} (hi : i < n) : ∃ g, A = some ⟨g, 0, none⟩ ∧ g < w.heap.size ∧ ∃ hl : i < xs.length, w.cell? ⟨g, i, none⟩ = some (.string xs[i]) := by
  obtain ⟨A', n', cap', e, hn, _, h | ⟨g, hA, hg, hr⟩⟩ := h
  · cases e; omega
  · cases e
    have hl : i < xs.length := by omega
    exact ⟨g, hA, hr.lt, hl, hr.cell (ssl_at hl)⟩

set_option maxRecDepth 100000 in
set_option maxHeartbeats 8000000 in
theorem law_Sequences (A : Option Addr) (n c : Nat) (xs : List Int) (w : World) (h : Rd w w.heap.size 1 A n (u8l xs)) (hn : n ≤ 9223372036854775807) (hx : ∀ x ∈ xs, 0 ≤ x ∧ x ≤ 255) :
    Calls Tryz.prog 3 #[.slice A n c] w fun e w' => e = .returned (.bool true) ∧ Below w.heap.size w w' := by
  by_cases hbig : 4096 < n
  · go_enter Tryz.func3, Tryz.ntmps3
    go_wp2_with fail
    refine (f6big_any A n c _ hn).mono ?_
    rintro e w1 ⟨rfl, rfl⟩
    go_wp2_with fail
    go_ret
    exact ⟨rfl, Below.refl _ _⟩
  · go_enter Tryz.func3, Tryz.ntmps3
    go_wp2_with fail
    refine (f6big_any A n c _ hn).mono ?_
    rintro e w1 ⟨rfl, rfl⟩
    go_wp2_with fail
    refine (drawCuttingSequence_any A n c xs _ h hn hx).mono ?_
    rintro e w1 ⟨p, q, kq, rfl, b1⟩
    obtain ⟨x, c1, ex, fx⟩ := cuv_form p q kq
    have hI1 := implCuttingSequence_any p q kq
    have hS1 := specCuttingSequence_any p q kq
    rw [ex] at hI1 hS1
    clear ex
    have FX := hide fx
    have B1 := b1.alloc b1.size (.cells #[.int .i64 p, .int .i64 q] 25)
    have HF := hide (Blk.new w1 25 #[.int .i64 p, .int .i64 q])
    clear b1 fx hbig
    obtain ⟨HFc, -, -, -⟩ := HF.out.after (Below.refl _ _) HF.out.lt
    have HFx0 := HFc 0
    have HFx1 := HFc 1
    clear HFc
    go_wp2_with fail
    refine (hI1 _).mono ?_
    rintro e w2 ⟨rfl, b2⟩
    have B2 := bch B1 b2
    clear HFx0 HFx1
    have HF := hide (HF.out.bel b2)
    clear b2 B1
    obtain ⟨HFc, -, -, -⟩ := HF.out.after (Below.refl _ _) HF.out.lt
    have HFx0 := HFc 0
    have HFx1 := HFc 1
    clear HFc
    go_wp2_with fail
    refine (hS1 _).mono ?_
    rintro e w3 ⟨rfl, b3⟩
    have B3 := bch B2 b3
    clear HFx0 HFx1
    have HF := hide (HF.out.bel b3)
    clear b3 B2
    obtain ⟨HFc, -, -, -⟩ := HF.out.after (Below.refl _ _) HF.out.lt
    have HFx0 := HFc 0
    have HFx1 := HFc 1
    clear HFc
    clear HFx0 HFx1 HF
    go_wp2_with fail
    refine (drawConjugatesOf_any A n c xs _ ((h.below B3).more B3.size) hn hx).mono ?_
    rintro e w4 ⟨s, rfl, hzs, b4⟩
    have B4 := bch B3 b4
    clear b4 B3
    have hI2 := implConjugatesOf_any s
    have hS2 := specConjugatesOf_any s
    have hI3 := implIsChristoffel_any s
    go_wp2_with fail
    refine (hI2 _ (by omega)).mono ?_
    rintro e w5 ⟨v1, c2, out, rfl, con1, L10, b5⟩
    have B5 := bch B4 b5
    clear b5 B4
    have L1 := hide L10
    clear L10
    go_wp2_with fail
    refine (hS2 _ (by omega)).mono ?_
    rintro e w6 ⟨v2, c2', out', rfl, con2, L20, b6⟩
    obtain ⟨rfl, rfl⟩ := con1.uniq con2
    have B6 := bch B5 b6
    have L1 := hide (L1.out.keep b6)
    clear b6 B5
    have L2 := hide L20
    clear L20
    have CON := hide con1
    clear con1 con2
    go_wp2_with fail
    refine (drawStandardWords_any A n c xs _ ((h.below B6).more B6.size) hn hx).mono ?_
    rintro e w7 ⟨gt, mt, ct, ts, rfl, hmt, rt, b7⟩
    have HT := hide rt
    clear rt
    have B7 := bch B6 b7
    have L1 := hide (L1.out.keep b7)
    have L2 := hide (L2.out.keep b7)
    clear b7 B6
    have hI4 := fun w' hr => implStandardWords_any gt mt ct ts w' (by omega) hr
    have hS4 := fun w' hr => specStandardWords_any gt mt ct ts w' (by omega) hr
    go_wp2_with fail
    refine (hI4 _ HT.out).mono ?_
    rintro e w8 ⟨v3, c3, lw, rfl, std1, L30, b8⟩
    have B8 := bch B7 b8
    have L1 := hide (L1.out.keep b8)
    have L2 := hide (L2.out.keep b8)
    have HT := hide (HT.out.below b8 HT.out.lt)
    clear b8 B7
    have L3 := hide L30
    clear L30
    go_wp2_with fail
    refine (hS4 _ HT.out).mono ?_
    rintro e w9 ⟨v4, c3', lw', rfl, std2, L40, b9⟩
    obtain ⟨rfl, rfl⟩ := std1.uniq std2
    have B9 := bch B8 b9
    have L1 := hide (L1.out.keep b9)
    have L2 := hide (L2.out.keep b9)
    have L3 := hide (L3.out.keep b9)
    have HT := hide (HT.out.below b9 HT.out.lt)
    clear b9 B8
    have L4 := hide L40
    clear L40
    have STD := hide std1
    clear std1 std2 hI1 hS1 hI2 hS2 hI4 hS4 h hx
    have qq0 : (c1 != c1) = false := by simp
    have qq1 : (c2 != c2) = false := by simp
    have qq2 : (c3 != c3) = false := by simp
    have m0 := bn_self x
    go_wp2_with fail
    refine (f6textsL_any _ _ _ _ (bas out) _ L1.out L2.out).mono ?_
    rintro e w10 ⟨rfl, b10⟩
    have B10 := bch B9 b10
    have L1 := hide (L1.out.keep b10)
    have L2 := hide (L2.out.keep b10)
    have L3 := hide (L3.out.keep b10)
    have L4 := hide (L4.out.keep b10)
    have HT := hide (HT.out.below b10 HT.out.lt)
    clear b10 B9
    go_wp2_with fail
    refine (f6textsL_any _ _ _ _ lw _ L3.out L4.out).mono ?_
    rintro e w11 ⟨rfl, b11⟩
    have B11 := bch B10 b11
    have L1 := hide (L1.out.keep b11)
    have L2 := hide (L2.out.keep b11)
    have L3 := hide (L3.out.keep b11)
    have L4 := hide (L4.out.keep b11)
    have HT := hide (HT.out.below b11 HT.out.lt)
    clear b11 B10
    go_upto_region 14 with fail
    obtain ⟨A1, z1, k1, rfl, hn1, hb1, -⟩ := L1.out
    obtain ⟨A2, z2, k2, rfl, hn2, hb2, -⟩ := L2.out
    go_cut [112] (fun v wc => v = .bool false ∧ Below w11.heap.size w11 wc)
    case first =>
      by_cases h2 : c2 = 0
      · have h2' : (c2 == 0) = true := by rw [h2]; rfl
        have hcon := CON.out
        rw [h2] at hcon
        clear h2
        rcases Bool.eq_false_or_eq_true (isC s.data.toList) with hc | hc
        · obtain ⟨f1, f2⟩ := conj_facts hcon hc
          have hs1 : 1 ≤ s.size := by
            rcases Nat.eq_zero_or_pos (bas out).length with h0 | h0
            · rw [List.getElem?_eq_none (by omega)] at f2; cases f2
            · omega
          have hz1 : z1 = s.size := by omega
          have hz2 : z2 = s.size := by omega
          obtain ⟨g2, rfl, hg2, hl2, e2⟩ := L2.out.cellAt (i := 0) (by omega)
          rw [List.getElem?_eq_getElem hl2] at f2
          injection f2 with f2
          rw [f2] at e2
          have e2' : ∀ W', Below w11.heap.size w11 W' → W'.cell? ⟨g2, 0, none⟩ = some (.string s) := fun W' hb => (hb.cell (p := ⟨g2, 0, none⟩) hg2).trans e2
          have E2 := hide e2'
          rw [hc] at hI3
          have hss := bn_self s
          have i0 : (0 : Int) < (z2 : Int) := by omega
          have i9 : ((z1 : Int) != (s.size : Int)) = false := by simp; omega
          clear hcon hz1 hz2 f1 f2 hl2 e2 e2' hn1 hn2 hb1 hb2 L1 L2 L3 L4 hc
          go_wp2_with fail
          refine (hI3 _ (by omega)).mono ?_
          rintro e w30 ⟨rfl, b30⟩
          have e3 := E2.out _ b30
          go_wp2_with fail
          go_meet
          case rel => exact ⟨rfl, b30⟩
        · rw [hc] at hI3
          clear hcon hn1 hn2
          go_wp2_with fail
          refine (hI3 _ (by omega)).mono ?_
          rintro e w30 ⟨rfl, b30⟩
          go_wp2_with fail
          go_meet
          case rel => exact ⟨rfl, b30⟩
      · have h2' : (c2 == 0) = false := by simpa using h2
        clear hn1 hn2
        go_wp2_with fail
        go_meet
        case rel => exact ⟨rfl, Below.refl _ _⟩
    case rest =>
      obtain ⟨rfl, hbw⟩ := hcut
      have BW := bch B11 hbw
      have L4 := hide (L4.out.keep hbw)
      have HT := hide (HT.out.below hbw HT.out.lt)
      clear hbw B11 L1 L2 L3 hn1 hn2 hb1 hb2 hI3 CON
      rename_i wc
      obtain ⟨A4, z4, k4, rfl, hn4, hb4, -⟩ := L4.out
      obtain ⟨sb, hsb⟩ : ∃ sb, (c3 == 0) = sb := ⟨_, rfl⟩
      go_upto_if 114 with fail
      go_cut [2] (fun x wd => x = .bool false ∧ Below wc.heap.size wc wd)
      case first =>
        cases sb
        · go_wp2_with fail
          go_meet
          case rel => exact ⟨rfl, Below.refl _ _⟩
        · have hc3 : c3 = 0 := by simpa using hsb
          have hstd := STD.out
          rw [hc3] at hstd
          obtain ⟨hch, hlw⟩ := std_chain hstd
          obtain ⟨hsm, htp⟩ := std_small hstd
          have hml : ts.length = mt := by have := HT.out.len; rw [il_len] at this; omega
          have HCH := hide hch
          have HSM := hide hsm
          have HTP := hide htp
          have HZ4 := hide hn4
          have hz4m : z4 = mt := by omega
          have HLW := hide hlw
          have HZM := hide hz4m
          clear hc3 hstd hz4m
          have HML := hide hml
          clear hch hsm htp hn4 hlw hml qq0 qq1 qq2
          go_wp2_with fail
          go_loopw [2, 19] (fun rv iv wr => ∃ i : Nat, rv = .bool false ∧ iv = .int .i64 i ∧ 2 ≤ i ∧ i ≤ z4 + 2 ∧ Below wc.heap.size wc wr) (fun _ iv _ => z4 + 2 - (intOf iv).toNat)
          case atStart => exact ⟨2, rfl, rfl, by omega, by omega, Below.refl _ _⟩
          case round =>
            obtain ⟨i, rfl, rfl, hi1, hi2, hbel⟩ := hrel
            by_cases hlt : i < z4
            · obtain ⟨m1, hm1⟩ : ∃ m1, i = m1 + 1 := ⟨i - 1, by omega⟩
              obtain ⟨m2, hm2⟩ : ∃ m2, i = m2 + 2 := ⟨i - 2, by omega⟩
              have hl := L4.out.keep hbel
              obtain ⟨g, rfl, hg, hx0, e0⟩ := hl.cellAt (i := i) hlt
              obtain ⟨g', hgg, _, hx1, e1⟩ := hl.cellAt (i := m1) (by omega)
              obtain rfl : g' = g := by injection hgg with h; injection h with h; exact h.symm
              obtain ⟨g'', hgg2, _, hx2, e2⟩ := hl.cellAt (i := m2) (by omega)
              obtain rfl : g'' = g' := by injection hgg2 with h; injection h with h; exact h.symm
              obtain ⟨t, ht, hsz⟩ := HCH.out i hx0 hi1
              have et := (HT.out.below hbel HT.out.lt).cell (show (il ts)[i]? = some (.int .i64 t) by unfold il; rw [List.getElem?_map, ht]; rfl)
              have htb := HTP.out t (List.mem_of_getElem? ht)
              have y0 := HSM.out _ (List.getElem_mem hx0)
              have y1 := HSM.out _ (List.getElem_mem hx1)
              have y2 := HSM.out _ (List.getElem_mem hx2)
              have q1 : lw[i - 1]'(by omega) = lw[m1] := by congr 1; omega
              have q2 : lw[i - 2]'(by omega) = lw[m2] := by congr 1; omega
              rw [q1, q2] at hsz
              generalize lw[i] = X0 at *
              generalize lw[m1] = X1 at *
              generalize lw[m2] = X2 at *
              obtain ⟨P, hP⟩ : ∃ P, t * X1.size = P := ⟨_, rfl⟩
              have hPz : (t : Int) * (X1.size : Int) = (P : Int) := by rw [← hP]; simp
              rw [hP] at hsz
              have hP4 : P ≤ 400 := by omega
              have hne : ((X0.size : Int) != (P : Int) + (X2.size : Int)) = false := by simp; omega
              have i1 : (i : Int) < (z4 : Int) := by omega
              have i2 : (m1 : Int) < (z4 : Int) := by omega
              have i3 : (m2 : Int) < (z4 : Int) := by omega
              have i4 : (i : Int) < (mt : Int) := by have := HZM.out; omega
              have w1 : IntKind.i64.wrap ((i : Int) - 1) = (m1 : Int) := by rw [IntWalk.i64_in _ (by omega)]; omega
              have w2 : IntKind.i64.wrap ((i : Int) - 2) = (m2 : Int) := by rw [IntWalk.i64_in _ (by omega)]; omega
              have w3 : IntKind.i64.wrap (P : Int) = (P : Int) := IntWalk.i64_in _ (by omega)
              have w4 : IntKind.i64.wrap ((P : Int) + (X2.size : Int)) = (P : Int) + (X2.size : Int) := IntWalk.i64_in _ (by omega)
              have HM1 := hide hm1
              have HM2 := hide hm2
              have HSZ := hide hsz
              clear hgg hgg2 hl hx0 hx1 hx2 ht hm1 hm2 hsz q1 q2 hP HT
              go_wp2_with fail
              go_quiet (fail)
              go_wp2_with fail
              go_roundw
              case rel => exact ⟨i + 1, rfl, by go_num, by omega, by omega, belowN hbel _⟩
              case measure => first | (simp [intOf]; done) | (simp [intOf]; omega)
            · have i1 : ¬ (i : Int) < (z4 : Int) := by omega
              go_wp2_with fail
              go_meet
              case rel => exact ⟨rfl, hbel⟩
      case rest =>
        obtain ⟨rfl, hbw⟩ := hcut
        have BX := bch BW hbw
        clear hbw BW L4 HT
        by_cases h1 : c1 = 0
        · obtain ⟨f1, f2⟩ := FX.out h1
          have d1 : (c1 != 0) = false := by rw [h1]; rfl
          by_cases hk0 : kq = 0
          · have d2 : (kq == 0) = true := by rw [hk0]; rfl
            clear f2 h1 FX hk0
            go_wp2_with fail
            go_ret
            exact ⟨rfl, BX⟩
          · have d2 : (kq == 0) = false := by simpa using hk0
            have hI9 := implIsBalanced_any x
            rw [f2 hk0] at hI9
            clear f2 h1 FX hk0
            go_wp2_with fail
            refine (hI9 _ (by omega)).mono ?_
            rintro e w40 ⟨rfl, b40⟩
            have BY := bch BX b40
            go_wp2_with fail
            go_ret
            exact ⟨rfl, BY⟩
        · have d1 : (c1 != 0) = true := by simpa using h1
          clear h1 FX
          go_wp2_with fail
          go_ret
          exact ⟨rfl, BX⟩

theorem walk_Sequences (A : Option Addr) (n c : Nat) (xs : List Int) (hw : ∀ z ∈ xs, (Lit.int .u8 z).wf = true) (w : World) (h : Rd w w.heap.size 1 A n (xs.map (Value.int .u8))) (hn : n ≤ 9223372036854775807) :
    Calls Tryz.prog 3 #[.slice A n c] w fun e w' => e = .returned (.bool true) ∧ Below w.heap.size w w' :=
  law_Sequences A n c xs w h hn (u8_rng hw)

end Go.Proofs.YthfhjgmlcilmkaaGreatDoor
