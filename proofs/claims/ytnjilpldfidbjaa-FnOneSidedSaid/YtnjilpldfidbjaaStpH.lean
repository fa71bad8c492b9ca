/- IntermediatesOf: the program's; l19All: the reference's. -/
import Derived.Test.YtnjilpldfidbjaaStpG
import Derived.Test.YtnjilpldfidbjaaStpE
namespace Go.Proofs.Ytnjilpldfidbjaa
open Go.RowKit

set_option maxRecDepth 100000 in
theorem implIntermediatesOf_any (p q : Int) (w : World) :
    Calls Try.prog 21 #[.agg #[.int .i64 p, .int .i64 q]] w fun e w' => ∃ v, e = .returned (.tuple #[v, .int .i64 (itc p q)]) ∧ LstF w' w.heap.size v (itx p q) ∧ Below w.heap.size w w' := by
  have hV := implValid_any p q
  by_cases ho : okF p q = true
  · obtain ⟨o1, o2, _⟩ := okF_iff.1 ho
    rw [ho] at hV
    obtain ⟨b, rfl⟩ : ∃ b : Nat, q = b := ⟨q.toNat, by omega⟩
    have hc : itc p b = if tl (terms p b) = true then 5 else 0 := by unfold itc; rw [if_pos ho]; rfl
    have hE := fun w => expand_any p b w (by omega) (by omega) (by omega)
    have hl60 := len_half 30 p b (by omega)
    have hL := fun g n c w => tooLong_any g n c (terms p b) w
    have h00 := (term0_bd ho).1
    rcases Bool.eq_false_or_eq_true (tl (terms p b)) with ht | ht
    · have hs : itc p b = 5 := by rw [hc, ht]; rfl
      have hx : itx p b = [] := by unfold itx; rw [hs]; rfl
      rw [ht] at hL
      rw [hs, hx]
      clear hs hx hc
      go_enter Try.func21, Try.ntmps21
      go_wp2_with fail
      refine (hV _).mono ?_
      rintro e w1 ⟨rfl, hb1⟩
      obtain ⟨a1, _, k3, _⟩ := (Blk.new w 25 #[.int .i64 p, .int .i64 b]).after hb1 (by simp)
      have x0 := a1 0
      have x1 := a1 1
      have hB := bstep (show Below w.heap.size w _ by go_grown) hb1 (by simp)
      clear a1 hb1
      go_wp2_with fail
      refine (hE _).mono ?_
      rintro e w2 ⟨g, c, n, rfl, hn, hg, hrow, hb2⟩
      have hB2 := bstep hB hb2 hB.size
      rw [← hn] at h00 hl60
      have HN := hide hn
      clear hn x0 x1
      go_wp2_with fail
      refine (hL _ _ _ _ (by omega) (by omega) hrow).mono ?_
      rintro e w3 ⟨rfl, rfl⟩
      go_wp2_with fail
      go_returns
      exact ⟨_, rfl, LstF.nil_ _ _, hB2⟩
    · have hs : itc p b = 0 := by rw [hc, ht]; rfl
      have hx : itx p b = inl p b (terms p b).length := by unfold itx; rw [hs]; rfl
      have hI := fun g n c w => intermediates_any p b g n c w ho ht
      rw [ht] at hL
      rw [hs, hx]
      clear hs hx hc
      go_enter Try.func21, Try.ntmps21
      go_wp2_with fail
      refine (hV _).mono ?_
      rintro e w1 ⟨rfl, hb1⟩
      obtain ⟨a1, _, k3, _⟩ := (Blk.new w 25 #[.int .i64 p, .int .i64 b]).after hb1 (by simp)
      have x0 := a1 0
      have x1 := a1 1
      have hB := bstep (show Below w.heap.size w _ by go_grown) hb1 (by simp)
      clear a1 hb1
      go_wp2_with fail
      refine (hE _).mono ?_
      rintro e w2 ⟨g, c, n, rfl, hn, hg, hrow, hb2⟩
      have hB2 := bstep hB hb2 hB.size
      have HN := hide hn
      rw [← hn] at h00 hl60
      clear hn x0 x1
      go_wp2_with fail
      refine (hL _ _ _ _ (by omega) (by omega) hrow).mono ?_
      rintro e w3 ⟨rfl, rfl⟩
      go_wp2_with fail
      refine (hI _ _ _ _ HN.out hrow).mono ?_
      rintro e w3 ⟨v, rfl, hl, hb3⟩
      have hl2 := hl.base hB2.size
      rw [HN.out] at hl2
      have HL := hide hl2
      clear hl hl2
      go_wp2_with fail
      go_returns
      exact ⟨_, rfl, HL.out, bstep hB2 hb3 hB2.size⟩
  · have hf : okF p q = false := by simpa using ho
    have hs : itc p q = 1 := by unfold itc; rw [if_neg ho]
    have hx : itx p q = [] := by unfold itx; rw [hs]; rfl
    rw [hf] at hV
    rw [hs, hx]
    clear ho hf hs hx
    go_enter Try.func21, Try.ntmps21
    go_wp2_with fail
    refine (hV _).mono ?_
    rintro e w1 ⟨rfl, hb1⟩
    have hB := bstep (show Below w.heap.size w _ by go_grown) hb1 (by simp)
    go_wp2_with fail
    go_returns
    exact ⟨_, rfl, LstF.nil_ _ _, hB⟩

theorem itc_ok {p q : Int} (h : itc p q = 0) : okF p q = true ∧ tl (terms p q.toNat) = false := by
  unfold itc at h
  by_cases ho : okF p q = true
  · rw [if_pos ho] at h
    refine ⟨ho, ?_⟩
    cases ht : tl (terms p q.toNat) with
    | false => rfl
    | true => rw [ht] at h; simp at h
  · rw [if_neg ho] at h; omega

theorem Row.far4 {w : World} {g k n cap N : Nat} {e : TypeId} {xs : List Value} (h : Row w g e k n cap xs) (hne : g ≠ N) (a b c d : Value) : Row ((((w.setCell ⟨N, 0, none⟩ a).setCell ⟨N, 1, none⟩ b).setCell ⟨N, 2, none⟩ c).setCell ⟨N, 3, none⟩ d) g e k n cap xs :=
  (((h.far (by simpa using hne) _).far (by simpa using hne) _).far (by simpa using hne) _).far (by simpa using hne) _
theorem bel4 {w0 w : World} {M N : Nat} (h : Below M w0 w) (hN : M ≤ N) (a b c d : Value) : Below M w0 ((((w.setCell ⟨N, 0, none⟩ a).setCell ⟨N, 1, none⟩ b).setCell ⟨N, 2, none⟩ c).setCell ⟨N, 3, none⟩ d) :=
  (((h.setCell (by simpa using hN) _).setCell (by simpa using hN) _).setCell (by simpa using hN) _).setCell (by simpa using hN) _
theorem Blk.set4 {w : World} {g : Nat} {t : TypeId} {C : C4} (h : Blk w g t (cs4 C)) (D : C4) : Blk ((((w.setCell ⟨g, 0, none⟩ (.int .i64 D.p)).setCell ⟨g, 1, none⟩ (.int .i64 D.q)).setCell ⟨g, 2, none⟩ (.int .i64 D.pp)).setCell ⟨g, 3, none⟩ (.int .i64 D.qq)) g t (cs4 D) :=
  (((h.set_ 0 _).set_ 1 _).set_ 2 _).set_ 3 _

set_option maxRecDepth 100000 in
set_option maxHeartbeats 4000000 in
theorem l19All_any (p : Int) (b : Nat) (w : World) (ho : okF p b = true) (ht : tl (terms p b) = false) :
    Calls Try.prog 52 #[.agg #[.int .i64 p, .int .i64 b]] w fun e w' => ∃ v, e = .returned v ∧ LstF w' w.heap.size v (inl p b (terms p b).length) ∧ Below w.heap.size w w' := by
  obtain ⟨o1, o2, _⟩ := okF_iff.1 ho
  have hT := fun w => l03Terms_any p b w (by omega) (by omega)
  have hl60 := len_half 30 p b (by omega)
  have h00 := (term0_bd ho).1
  have h0b := (term0_bd ho).2 h00
  obtain ⟨i0, hinf, hz0, hz1, hz2⟩ := info_parts infoF
  obtain ⟨n0, hn0⟩ : ∃ n0, (terms p b).length = n0 := ⟨_, rfl⟩
  have HN0 := hide hn0
  rw [hn0] at hl60 ⊢
  have h01 : 0 < n0 := by omega
  clear hn0
  go_enter Try.func52, Try.ntmps52
  go_wp2_with fail
  refine (hT _).mono ?_
  rintro e w2 ⟨g, c, n, rfl, hn, hg, hrow, hb2⟩
  obtain rfl : n = n0 := hn.trans HN0.out
  have hB2 := bstep (show Below w.heap.size w _ by go_grown) hb2 (by simp)
  have sz2 := hB2.size
  have HR := hide hrow
  have HLs := hide (Row.lit (w := w2) (cs := #[]) (e := 25) (k := 2) (n := 0) (g := w2.heap.size) rfl rfl (by decide))
  have hglt := hrow.lt
  clear hn hrow hb2 hT
  go_wp2_with fail
  refine (l03New_any _).mono ?_
  rintro e w3 ⟨rfl, hb3⟩
  have hb23 : Below w2.heap.size w2 w3 := bstep (by go_grown) hb3 (by simp)
  have hs23 : w2.heap.size < w3.heap.size := by have := hb3.size; simp at this; omega
  have HL3 := hide ((HLs.out.below hb3 (by simp)).alloc (.cells #[.int .i64 1, .int .i64 0, .int .i64 0, .int .i64 1] 72))
  have HB3 := hide (hb23.alloc (by omega) (.cells #[.int .i64 1, .int .i64 0, .int .i64 0, .int .i64 1] 72))
  clear hb3 hb23 HLs
  go_wp2_with fail
  go_loopw [4, 6] (fun v i wr => ∃ k gl cl ll : Nat, i = .int .i64 k ∧ k ≤ n ∧ ll = (inl p b k).length ∧ v = .slice (some ⟨gl, 0, none⟩) ll cl ∧ w2.heap.size ≤ gl ∧ gl ≠ w3.heap.size ∧ Row wr gl 25 2 ll cl (cs2 (inl p b k)) ∧ Blk wr w3.heap.size 72 (cs4 (cv p b k)) ∧ Below w2.heap.size w2 wr) (fun _ i _ => n - (intOf i).toNat)
  case atStart => exact ⟨0, w2.heap.size, 0, 0, rfl, by omega, rfl, rfl, Nat.le_refl _, by omega, HL3.out, Blk.new _ _ _, HB3.out⟩
  case round =>
    obtain ⟨k, gl, cl, ll, rfl, hk, hll, rfl, hgl, hgne, hrow, hblk, hbel⟩ := hrel
    have sz := hbel.size
    have hgll := hrow.lt
    have hcapl := hrow.cap_
    have HW := hide hrow
    have HBx := hide hblk
    have hBlt := hblk.lt
    have HLL := hide hll
    clear hrow hblk hll
    by_cases hlt : k < n
    · have hkl : k < (terms p b).length := by rw [HN0.out]; exact hlt
      have hct := (HR.out.below hbel hglt).cell (il_at hkl)
      have HM := hide (next_bd ho hkl)
      have HCS := hide (cv_succ hkl)
      have i1 : (k : Int) < (n : Int) := by omega
      by_cases hk0 : k = 0
      · subst hk0
        have hI := inl_one p b
        obtain ⟨t, hteq⟩ : ∃ t, (terms p b)[0] = t := ⟨_, rfl⟩
        rw [hteq] at hct HM HCS
        have hl0 : ll = 0 := HLL.out
        subst hl0
        have hC1 := HCS.out
        obtain ⟨C, hC⟩ : ∃ C, cv p b 0 = C := ⟨_, rfl⟩
        rw [hC] at hC1 HM HBx
        obtain ⟨P, Q, PP, QQ⟩ := C
        have HC1 := hide (show cv p b (0 + 1) = ⟨t * P + PP, t * Q + QQ, P, Q⟩ from hC1)
        have HS := hide (show inl p b (0 + 1) = inl p b 0 ++ [(t * P + PP, t * Q + QQ)] by rw [Nat.zero_add, hI, ← Nat.zero_add 1, hC1]; rfl)
        obtain ⟨kc, kf, _, _⟩ := HBx.out.after (Below.refl _ _) hBlt
        have z0 := kc 0
        have z1 := kc 1
        have z2 := kc 2
        have z3 := kc 3
        have f0 := kf 0
        have f1 := kf 1
        have f2 := kf 2
        have f3 := kf 3
        simp only [cs4] at z0 z1 z2 z3
        simp only at HM
        clear kc kf hC hteq h0b i1 hC1 hI
        have i1 : (0 : Int) < (n : Int) := by omega
        generalize wr = W0 at *
        go_wp2_with fail
        go_loopw [4, 8] (fun v x wr => v = .slice (some ⟨gl, 0, none⟩) 0 cl ∧ x = .int .i64 t ∧ wr = W0) (fun _ _ _ => 0)
        case atStart => exact ⟨rfl, rfl, rfl⟩
        case round =>
          obtain ⟨rfl, rfl, rfl⟩ := hrel
          go_wp2_with fail
          go_still_tail 5, (by kernel_rfl)
          change wpList _ _ _ _ _ wr.drew
          go_wp2_with fail
          refine (next_any _ _ _ _ _ _ HM.out.1 HM.out.2.1 HM.out.2.2.1 HM.out.2.2.2).mono ?_
          rintro e w' ⟨rfl, hb⟩
          have hb' : Below wr.heap.size wr w' := ((Below.refl _ _).drew).trans hb
          have szz := hb'.size
          have HB9 := hide (bstep hbel hb' sz)
          have hb9 := HB9.out.size
          have HW9 := hide (HW.out.below hb' hgll)
          obtain ⟨kc, kf, kz', HX9⟩ := HBx.out.after hb' hBlt
          have z0 := kc 0
          have z1 := kc 1
          have z2 := kc 2
          have z3 := kc 3
          have f0 := kf 0
          have f1 := kf 1
          have f2 := kf 2
          have f3 := kf 3
          simp only [cs4] at z0 z1 z2 z3
          clear kc kf hb hb'
          generalize hX : t * P + PP = X at *
          generalize hY : t * Q + QQ = Y at *
          clear hX hY
          have HW10 := hide ((HW9.out.far4 hgne (.int .i64 X) (.int .i64 Y) (.int .i64 P) (.int .i64 Q)).alloc (.cells #[.int .i64 X, .int .i64 Y] 25))
          go_wp2_with (at_builtin; refine wpList_append_lies _ rfl (.tmp 57) (.tmp 63) _ rfl 0 25 i0 _ 2 16 Try.underlying28 hinf hz0 hz1 hz2 rfl (by omega) (.slice (some ⟨gl, 0, none⟩) (0) cl) (0) (cs2 (inl p b 0)) (by rfl) (HW10.out.own (Nat.zero_le gl)) ⟨w'.heap.size, 0, none⟩ 1 1 (cs2 [(X, Y)]) (by rfl) (by rfl) (news_new (by simp)) (one2 _) (by omega) (by simp only [maxLen]; omega) (by omega) (Nat.zero_le _) (w'.heap.size + 1) (by simp) ?_; intro g1 cc w6 hown1 hgrow1 hat1 hlt1)
          go_roundw
          case rel =>
            have hg1 : w2.heap.size ≤ g1 ∧ g1 ≠ w3.heap.size := by
              rcases at_old hat1 with h | h <;> omega
            refine ⟨0 + 1, g1, cc, 0 + 1, by first | rfl | simp, by omega, by rw [HS.out, List.length_append]; rfl, rfl, hg1.1, hg1.2, ?_, ?_, ?_⟩
            · have := (Row.of_own hown1).1
              rw [HS.out, cs2_append]; exact this
            · rw [HC1.out]
              exact ((HX9.out.set4 ⟨X, Y, P, Q⟩).alloc _).grown hgrow1 (fun h => by simp [Value.ownBlock] at h; omega)
            · exact ((bel4 HB9.out (by omega) _ _ _ _).alloc (by simp; omega) _).grown hgrow1 (by simp; omega) (fun k h => by simp [Value.ownBlock] at h; omega)
          case measure => simp [intOf]; omega
      · obtain ⟨k', hk'⟩ : ∃ k', k = k' + 1 := ⟨k - 1, by omega⟩
        have htb : 1 ≤ (terms p b)[k] ∧ (terms p b)[k] ≤ 1000 := by subst hk'; exact tl_bd ht hkl
        have hI : inl p b (k + 1) = inl p b k ++ stl (cv p b k) ((terms p b)[k]).toNat := by subst hk'; exact inl_step p b k' hkl
        have hcv1 := cv_bd ho k
        have hcv2 := cv_bd2 ho (k := k) (by omega)
        have hlen : 1 ≤ ll ∧ ll ≤ 61000 := by
          have h := inl_len ht k' (by omega)
          rw [← hk', ← HLL.out] at h
          omega
        have hkz : ((k : Int) == 0) = false := beq_eq_false_iff_ne.2 (by omega)
        have hkz2 : ¬ (k : Int) = 0 := by omega
        clear hk'
        obtain ⟨m, hteq⟩ : ∃ m : Nat, (terms p b)[k] = m := ⟨((terms p b)[k]).toNat, by omega⟩
        rw [hteq] at hct HM HCS htb hI
        rw [Int.toNat_natCast] at hI
        have hC1 := HCS.out
        generalize cv p b k = C at *
        obtain ⟨P, Q, PP, QQ⟩ := C
        have HC1 := hide (show cv p b (k + 1) = ⟨(m : Int) * P + PP, (m : Int) * Q + QQ, P, Q⟩ from hC1)
        have HS0 := hide hI
        have HT := hide (il_at hkl)
        rw [hteq] at HT
        simp only at HM hcv1 hcv2
        clear hC1 hI hteq h0b
        generalize wr = W0 at *
        obtain ⟨kc, kf, _, _⟩ := HBx.out.after (Below.refl _ _) hBlt
        have z0 := kc 0
        have z1 := kc 1
        have z2 := kc 2
        have z3 := kc 3
        simp only [cs4] at z0 z1 z2 z3
        clear kc kf
        go_wp2_with fail
        clear z0 z1 z2 z3 hct
        go_loopw [4, 8] (fun v x wr => ∃ j gl' cl' : Nat, x = .int .i64 ((j : Int) + 1) ∧ j + 1 ≤ m ∧ v = .slice (some ⟨gl', 0, none⟩) (ll + j) cl' ∧ w2.heap.size ≤ gl' ∧ gl' ≠ w3.heap.size ∧ Row wr gl' 25 2 (ll + j) cl' (cs2 (inl p b k ++ stl ⟨P, Q, PP, QQ⟩ j)) ∧ Blk wr w3.heap.size 72 (cs4 ⟨P, Q, PP, QQ⟩) ∧ Below w2.heap.size w2 wr) (fun _ x _ => m - (intOf x).toNat)
        case atStart => exact ⟨0, gl, cl, rfl, by omega, rfl, hgl, hgne, by rw [show stl ⟨P, Q, PP, QQ⟩ 0 = [] from rfl, List.append_nil]; exact HW.out, HBx.out, hbel⟩
        case round =>
          obtain ⟨j, gl', cl', rfl, hj, rfl, hgl', hgne', hrow', hblk', hbel'⟩ := hrel
          have sz' := hbel'.size
          have hgll' := hrow'.lt
          have hcapl' := hrow'.cap_
          have HW' := hide hrow'
          have HBx' := hide hblk'
          have hBlt' := hblk'.lt
          have hct := (HR.out.below hbel' hglt).cell HT.out
          obtain ⟨kc, kf, _, _⟩ := HBx'.out.after (Below.refl _ _) hBlt'
          have z0 := kc 0
          have z1 := kc 1
          have z2 := kc 2
          have z3 := kc 3
          simp only [cs4] at z0 z1 z2 z3
          have i2 : (j : Int) + 1 < 1001 := by omega
          clear hrow' hblk' kc kf
          by_cases hjm : j + 1 < m
          · have HS := hide (stl_succ ⟨P, Q, PP, QQ⟩ j)
            have m1 := prod_bd (t := (j : Int) + 1) (c := P) (by omega) hcv1.1
            have m2 := prod_bd (t := (j : Int) + 1) (c := Q) (by omega) (by omega)
            have HM2 := hide (show (-9223372036854775808 ≤ ((j : Int) + 1) * P ∧ ((j : Int) + 1) * P ≤ 9223372036854775807) ∧ (-9223372036854775808 ≤ ((j : Int) + 1) * P + PP ∧ ((j : Int) + 1) * P + PP ≤ 9223372036854775807) ∧ (-9223372036854775808 ≤ ((j : Int) + 1) * Q ∧ ((j : Int) + 1) * Q ≤ 9223372036854775807) ∧ (-9223372036854775808 ≤ ((j : Int) + 1) * Q + QQ ∧ ((j : Int) + 1) * Q + QQ ≤ 9223372036854775807) from by omega)
            have i3 : (j : Int) + 1 < (m : Int) := by omega
            clear m1 m2
            go_wp2_with fail
            refine (next_any _ _ _ _ _ _ HM2.out.1 HM2.out.2.1 HM2.out.2.2.1 HM2.out.2.2.2).mono ?_
            rintro e w5 ⟨rfl, hb5⟩
            have hsz5 := hb5.size
            generalize ((j : Int) + 1) * P + PP = X at *
            generalize ((j : Int) + 1) * Q + QQ = Y at *
            go_wp2_with (at_builtin; refine wpList_append_lies _ rfl (.tmp 43) (.tmp 49) _ rfl 0 25 i0 _ 2 16 Try.underlying28 hinf hz0 hz1 hz2 rfl (by omega) (.slice (some ⟨gl', 0, none⟩) (ll + j) cl') (ll + j) (cs2 (inl p b k ++ stl ⟨P, Q, PP, QQ⟩ j)) (by rfl) ((((HW'.out.below hb5 hgll').alloc _).alloc _).own (Nat.zero_le gl')) ⟨w5.heap.size + 1, 0, none⟩ 1 1 (cs2 [(X, Y)]) (by rfl) (by rfl) (news_new (by simp)) (one2 _) (by omega) (by simp only [maxLen]; omega) (by omega) (Nat.zero_le _) (w5.heap.size + 1 + 1) (by simp) ?_; intro g1 cc w6 hown1 hgrow1 hat1 hlt1)
            go_roundw
            case rel =>
              have hg1 : w2.heap.size ≤ g1 ∧ g1 ≠ w3.heap.size := by
                rcases at_old hat1 with h | h <;> omega
              refine ⟨j + 1, g1, cc, by simp, by omega, rfl, hg1.1, hg1.2, ?_, ?_, ?_⟩
              · have := (Row.of_own hown1).1
                rw [← cs2_append, List.append_assoc, ← HS.out] at this
                exact this
              · exact (((HBx'.out.after hb5 hBlt').2.2.2.out.alloc _).alloc _).grown hgrow1 (fun h => by simp [Value.ownBlock] at h; omega)
              · exact (((bstep hbel' hb5 sz').alloc (by omega) _).alloc (by simp; omega) _).grown hgrow1 (by simp; omega) (fun k h => by simp [Value.ownBlock] at h; omega)
            case measure => simp [intOf]; omega
          · obtain rfl : m = j + 1 := by omega
            have HS := hide (show inl p b (k + 1) = (inl p b k ++ stl ⟨P, Q, PP, QQ⟩ j) ++ [(((j + 1 : Nat) : Int) * P + PP, ((j + 1 : Nat) : Int) * Q + QQ)] by rw [HS0.out, stl_succ, List.append_assoc]; simp)
            obtain ⟨m, hm⟩ : ∃ m : Nat, j + 1 = m := ⟨_, rfl⟩
            have hmi : (j : Int) + 1 = (m : Int) := by omega
            rw [hm] at HM HC1 HS htb hj hct
            clear hjm HS0 HT
            have i3 : ¬ (m : Int) < (m : Int) := by omega
            rw [hmi] at i2 ⊢
            clear hmi
            go_wp2_with fail
            go_still_tail 5, (by kernel_rfl)
            change wpList _ _ _ _ _ wr.drew
            go_wp2_with fail
            refine (next_any _ _ _ _ _ _ HM.out.1 HM.out.2.1 HM.out.2.2.1 HM.out.2.2.2).mono ?_
            rintro e w' ⟨rfl, hb⟩
            have hb' : Below wr.heap.size wr w' := ((Below.refl _ _).drew).trans hb
            have szz := hb'.size
            have HB9 := hide (bstep hbel' hb' sz')
            have hb9 := HB9.out.size
            have HW9 := hide (HW'.out.below hb' hgll')
            obtain ⟨kc, kf, kz', HX9⟩ := HBx'.out.after hb' hBlt'
            have z0 := kc 0
            have z1 := kc 1
            have z2 := kc 2
            have z3 := kc 3
            have f0 := kf 0
            have f1 := kf 1
            have f2 := kf 2
            have f3 := kf 3
            simp only [cs4] at z0 z1 z2 z3
            clear kc kf hb hb'
            generalize hX : (m : Int) * P + PP = X at *
            generalize hY : (m : Int) * Q + QQ = Y at *
            clear hX hY
            have HW10 := hide ((HW9.out.far4 hgne' (.int .i64 X) (.int .i64 Y) (.int .i64 P) (.int .i64 Q)).alloc (.cells #[.int .i64 X, .int .i64 Y] 25))
            go_wp2_with (at_builtin; refine wpList_append_lies _ rfl (.tmp 57) (.tmp 63) _ rfl 0 25 i0 _ 2 16 Try.underlying28 hinf hz0 hz1 hz2 rfl (by omega) (.slice (some ⟨gl', 0, none⟩) (ll + j) cl') (ll + j) (cs2 (inl p b k ++ stl ⟨P, Q, PP, QQ⟩ j)) (by rfl) (HW10.out.own (Nat.zero_le gl')) ⟨w'.heap.size, 0, none⟩ 1 1 (cs2 [(X, Y)]) (by rfl) (by rfl) (news_new (by simp)) (one2 _) (by omega) (by simp only [maxLen]; omega) (by omega) (Nat.zero_le _) (w'.heap.size + 1) (by simp) ?_; intro g1 cc w6 hown1 hgrow1 hat1 hlt1)
            go_roundw
            case rel =>
              have hg1 : w2.heap.size ≤ g1 ∧ g1 ≠ w3.heap.size := by
                rcases at_old hat1 with h | h <;> omega
              refine ⟨k + 1, g1, cc, ll + j + 1, by first | rfl | simp, by omega, by rw [HS.out, List.length_append]; rw [List.length_append, stl_len, HLL.out]; rfl, rfl, hg1.1, hg1.2, ?_, ?_, ?_⟩
              · have := (Row.of_own hown1).1
                rw [HS.out, cs2_append]; exact this
              · rw [HC1.out]
                exact ((HX9.out.set4 ⟨X, Y, P, Q⟩).alloc _).grown hgrow1 (fun h => by simp [Value.ownBlock] at h; omega)
              · exact ((bel4 HB9.out (by omega) _ _ _ _).alloc (by simp; omega) _).grown hgrow1 (by simp; omega) (fun k h => by simp [Value.ownBlock] at h; omega)
            case measure => simp [intOf]; omega
    · obtain rfl : k = n := by omega
      have hlen := inl_len ht (k - 1) (by rw [HN0.out]; omega)
      obtain ⟨k', rfl⟩ : ∃ k', k = k' + 1 := ⟨k - 1, by omega⟩
      rw [Nat.add_sub_cancel] at hlen
      rw [← HLL.out] at hlen
      have HF := hide (LstF.of_row (B := w.heap.size) HW.out (by omega) (by omega))
      have HB7 := hide (hB2.trans (hbel.mono sz2))
      clear hlen
      go_wp2
      go_ret
      exact ⟨_, rfl, HF.out, HB7.out⟩

end Go.Proofs.Ytnjilpldfidbjaa
