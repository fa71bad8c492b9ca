/- Bezout's numbers in the reference. -/
import Derived.Test.YtikpiigamnpafaaDoorNext
import Derived.Test.YtikpiigamnpafaaDoorBez
import Derived.Test.YtikpiigamnpafaaDoorMake
import Derived.StillTailTactics
namespace Go.Proofs.YtikpiigamnpafaaDoor
open Go.RowKit

theorem gcd_sz (a b : Int) : Int.gcd (sz a) (sz b) = Int.gcd a b := by rw [sz_nat, sz_nat]; simp [Int.gcd]

theorem bzT_red {a b : Int} (hb : b ≠ 0) : ∃ B : Nat, sz b / (Int.gcd a b : Nat) = B ∧ B ≤ sz b ∧ 0 ≤ sz a / (Int.gcd a b : Nat) ∧ sz a / (Int.gcd a b : Nat) ≤ sz a ∧ terms (sz a / (Int.gcd a b : Nat)) B = bzT a b := by
  have hg0 := Int.gcd_pos_of_ne_zero_right a hb
  obtain ⟨A', hA⟩ : (Int.gcd a b) ∣ a.natAbs := Int.gcd_dvd_natAbs_left ..
  obtain ⟨B', hB⟩ : (Int.gcd a b) ∣ b.natAbs := Int.gcd_dvd_natAbs_right ..
  have sa := sz_nat a
  have sb := sz_nat b
  have eA : sz a / (Int.gcd a b : Nat) = A' := by rw [sa, hA, Int.natCast_mul]; exact Int.mul_ediv_cancel_left _ (by omega)
  have eB : sz b / (Int.gcd a b : Nat) = B' := by rw [sb, hB, Int.natCast_mul]; exact Int.mul_ediv_cancel_left _ (by omega)
  have lA : A' ≤ a.natAbs := by rw [hA]; exact Nat.le_mul_of_pos_left _ hg0
  have lB : B' ≤ b.natAbs := by rw [hB]; exact Nat.le_mul_of_pos_left _ hg0
  refine ⟨B', eB, by omega, by omega, by omega, ?_⟩
  rw [eA]
  unfold bzT
  rw [sa, hB, hA, Int.natCast_mul, terms_scale (by omega)]

set_option maxRecDepth 100000 in
set_option maxHeartbeats 2000000 in
theorem l21Bezout_any (a b : Int) (w : World) (ha : a ≠ 0) (hb : b ≠ 0) (ha1 : -1000000000 ≤ a ∧ a ≤ 1000000000) (hb1 : -1000000000 ≤ b ∧ b ≤ 1000000000) :
    Calls Tryd.prog 48 #[.int .i64 a, .int .i64 b] w fun e w' => e = .returned (.tuple #[.int .i64 (bzX a b), .int .i64 (bzY a b), .int .i64 (Int.gcd a b : Nat)]) ∧ Below w.heap.size w w' := by
  have sb := sz_nat b
  have sa := sz_nat a
  have la : 1 ≤ sz a ∧ sz a ≤ 1000000000 := by omega
  have lb : 1 ≤ b.natAbs ∧ b.natAbs ≤ 1000000000 := by omega
  have lb' : 1 ≤ sz b ∧ sz b ≤ 1000000000 := by omega
  clear sa sb
  have hbd := fun k => conv_bd b.natAbs (sz a) c40 k la.1 (by decide) (by decide) (by decide) (by decide)
  have hne := bzT_ne (a := a) hb
  have hpos := terms_pos b.natAbs (sz a) (by omega)
  have hC : bzC a b = convFrom c40 ((bzT a b).take ((bzT a b).length - 1)) := by unfold bzC; rw [List.dropLast_eq_take]
  have hx : bzX a b = if (bzT a b).length % 2 = 1 then -(bzC a b).q * sg a else (bzC a b).q * sg a := rfl
  have hy : bzY a b = if (bzT a b).length % 2 = 1 then (bzC a b).p * sg b else -(bzC a b).p * sg b := rfl
  have hTT : bzT a b = terms (sz a) b.natAbs := rfl
  have hTl := terms_len b.natAbs (sz a)
  rw [← hTT] at hpos hbd hTl
  have hn : 1 ≤ (bzT a b).length := by
    rcases hT : bzT a b with _ | ⟨t, ts⟩
    · exact absurd hT hne
    · simp
  simp only [c40, Int.one_mul, Int.zero_mul, Int.add_zero, Int.zero_add] at hbd
  change ∀ k, 0 ≤ (convFrom c40 _).p ∧ 0 ≤ (convFrom c40 _).q ∧ 0 ≤ (convFrom c40 _).pp ∧ 0 ≤ (convFrom c40 _).qq ∧ (convFrom c40 _).p ≤ _ ∧ (convFrom c40 _).q ≤ _ at hbd
  obtain ⟨B, eB, lB, lA0, lA1, hE0⟩ := bzT_red (a := a) hb
  have hgs := gcd_sz a b
  generalize hT : bzT a b = T at *
  have HC := hide hC
  have HB := hide hbd
  have HP := hide hpos
  have HX := hide hx
  have HY := hide hy
  have HE0 := hide hE0
  have EB := hide eB
  have HG := hide hgs
  clear hx hy hC hbd hpos hne hTT hT hE0 eB hgs
  go_enter Tryd.func48, Tryd.ntmps48
  go_wp2_with (first
    | (go_at_call 44; refine (specSize_any _ _ (by omega) (by omega)).mono ?_; rintro e w1 ⟨rfl, rfl⟩)
    | (go_at_call 43; refine (specGcdI_any _ _ _ (by omega) (by omega) (by omega) (by omega)).mono ?_; rintro e w1 ⟨rfl, rfl⟩; rw [HG.out]))
  refine (l02Make_any _ _ _ (by omega) (by omega) (by omega)).mono ?_
  rintro e w1 ⟨rfl, hbel1⟩
  rw [HG.out, EB.out]
  go_wp2_with fail
  refine (l03Terms_any _ _ _ (by omega) (by omega)).mono ?_
  rw [HE0.out]
  rintro e w2 ⟨g, c, n, rfl, hnT, hg, hrow, hbel2⟩
  have hbel : Below w.heap.size w w2 := bstep hbel1 hbel2 (by have := hbel1.size; omega)
  have HR := hide hrow
  have hcap := hrow.cap_
  clear hrow
  have sz1 := hbel.size
  have sz2 := hbel1.size
  go_wp2_with fail
  refine (l03New_any _).mono ?_
  rintro e w3 ⟨rfl, hbel3⟩
  go_wp2
  subst hnT
  have sz3 := hbel3.size
  have HR3 := hide (HR.out.below hbel3 HR.out.lt)
  have hgl := HR.out.lt
  obtain ⟨N, hN⟩ : ∃ N, w3.heap.size = N := ⟨_, rfl⟩
  go_loopw [10] (fun i wr => ∃ k : Nat, k ≤ T.length - 1 ∧ i = .int .i64 k ∧ Blk wr w3.heap.size 89 #[.int .i64 (convFrom c40 (T.take k)).p, .int .i64 (convFrom c40 (T.take k)).q, .int .i64 (convFrom c40 (T.take k)).pp, .int .i64 (convFrom c40 (T.take k)).qq] ∧ Row wr g 2 1 T.length c (il T) ∧ Below w.heap.size w wr) (fun i _ => T.length - (intOf i).toNat)
  case atStart => exact ⟨0, by omega, rfl, Blk.new _ _ _, HR3.out.alloc _, (bstep hbel hbel3 (by omega)).alloc (by omega) _⟩
  case round =>
    obtain ⟨k, hk, rfl, hBlk, hRow, hbel4⟩ := hrel
    rw [hN] at hBlk ⊢
    have sz4 := hbel4.size
    have hNl := hBlk.lt
    have HBk := hide hBlk
    have HR4 := hide hRow
    clear hBlk hRow
    obtain ⟨kc, kf, kz, _⟩ := HBk.out.after (Below.refl (N + 1) wr) (by omega)
    by_cases hkn : k = T.length - 1
    · have hB := HB.out k
      subst hkn
      rw [← HC.out] at hB kc
      obtain ⟨P, hP⟩ : ∃ P, (bzC a b).p = P := ⟨_, rfl⟩
      obtain ⟨Q, hQ⟩ : ∃ Q, (bzC a b).q = Q := ⟨_, rfl⟩
      rw [hP, hQ] at hB kc
      have HX := hide (HX.out.trans (by rw [hQ]))
      have HY := hide (HY.out.trans (by rw [hP]))
      clear hP hQ
      have sa : (a < 0 ∧ sg a = -1) ∨ (0 < a ∧ sg a = 1) := by unfold sg; split <;> (try split) <;> omega
      have sb : (b < 0 ∧ sg b = -1) ∨ (0 < b ∧ sg b = 1) := by unfold sg; split <;> (try split) <;> omega
      have et : ((T.length : Nat) : Int).tmod 2 = ((T.length % 2 : Nat) : Int) := by rw [Int.tmod_eq_emod_of_nonneg (by omega)]; omega
      have hend : ¬ ((T.length - 1 : Nat) : Int) + 1 < (T.length : Int) := by omega
      clear hk
      rcases Nat.mod_two_eq_zero_or_one T.length with hpar | hpar <;> rw [hpar] at et <;> rcases sa with ⟨ha', hsa⟩ | ⟨ha', hsa⟩ <;> rcases sb with ⟨hb', hsb⟩ | ⟨hb', hsb⟩
      all_goals
        have e1 := HX.out
        have e2 := HY.out
        rw [hsa] at e1
        rw [hsb] at e2
        first | rw [if_pos (by omega)] at e1 e2 | rw [if_neg (by omega)] at e1 e2
        have E1 := hide e1
        have E2 := hide e2
        clear e1 e2
        go_wp2
        go_ret3
        refine ⟨?_, hbel4⟩
        first
          | (rw [show bzX a b = Q from by have := E1.out; omega, show bzY a b = P from by have := E2.out; omega]; rfl)
          | (rw [show bzX a b = -Q from by have := E1.out; omega, show bzY a b = P from by have := E2.out; omega]; rfl)
          | (rw [show bzX a b = Q from by have := E1.out; omega, show bzY a b = -P from by have := E2.out; omega]; rfl)
          | (rw [show bzX a b = -Q from by have := E1.out; omega, show bzY a b = -P from by have := E2.out; omega]; rfl)
    · have hlt : k < T.length := by omega
      have hB := HB.out k
      have hB1 := HB.out (k + 1)
      have hS := conv_step T hlt
      have hp := HP.out _ (List.getElem_mem hlt)
      have hcell := HR4.out.cell (il_at hlt)
      have HS := hide hS
      rw [hS] at hB1
      clear hS
      generalize T[k] = t at *
      generalize convFrom c40 (T.take k) = C at *
      obtain ⟨P, Q, PP, QQ⟩ := C
      simp only [C4.next] at hB1 hB kc ⊢
      have m1 := Int.mul_nonneg hp hB.1
      have m2 := Int.mul_nonneg hp hB.2.1
      have i1 : (k : Int) < (T.length : Int) := by omega
      have i2 : (k : Int) + 1 < (T.length : Int) := by omega
      have HM := hide (show (-9223372036854775808 ≤ t * P ∧ t * P ≤ 9223372036854775807) ∧ (-9223372036854775808 ≤ t * P + PP ∧ t * P + PP ≤ 9223372036854775807) ∧ (-9223372036854775808 ≤ t * Q ∧ t * Q ≤ 9223372036854775807) ∧ (-9223372036854775808 ≤ t * Q + QQ ∧ t * Q + QQ ≤ 9223372036854775807) from by omega)
      clear hp m1 m2 hB hB1
      go_wp2_with fail
      go_still_tail 5, (by kernel_rfl)
      change wpList _ _ _ _ _ wr.drew
      go_wp2_with fail
      refine (next_any _ _ _ _ _ _ HM.out.1 HM.out.2.1 HM.out.2.2.1 HM.out.2.2.2).mono ?_
      rintro e w' ⟨rfl, hb⟩
      have hb' : Below wr.heap.size wr w' := ((Below.refl _ _).drew).trans hb
      clear kc kf
      obtain ⟨kc, kf, kz', kb'⟩ := HBk.out.after hb' kz
      have sz5 := hb'.size
      go_wp2
      go_roundw
      case rel =>
        refine ⟨k + 1, by omega, by first | rfl | simp, ?_, ?_, ?_⟩
        · rw [HS.out]
          exact (((kb'.out.set_ 0 _).set_ 1 _).set_ 2 _).set_ 3 _
        · exact (((((HR4.out.below hb' HR4.out.lt).far (by simp; omega) _).far (by simp; omega) _).far (by simp; omega) _).far (by simp; omega) _)
        · exact ((((hbel4.trans (hb'.mono hbel4.size)).setCell (by simp; omega) _).setCell (by simp; omega) _).setCell (by simp; omega) _).setCell (by simp; omega) _
      case measure => simp [intOf]; omega
end Go.Proofs.YtikpiigamnpafaaDoor
