/- Bezout's numbers in the program. -/
import Derived.Test.YtikpiigamnpafaaDoorNum
import Derived.Test.YtikpiigamnpafaaDoorExp2
import Derived.Test.YtikpiigamnpafaaDoorLinP
namespace Go.Proofs.YtikpiigamnpafaaDoor
open Go.RowKit

theorem conv_step (ts : List Int) {i : Nat} (h : i < ts.length) : convFrom c40 (ts.take (i + 1)) = (convFrom c40 (ts.take i)).next ts[i] := by
  rw [List.take_succ_eq_append_getElem h, convFrom_snoc]

set_option maxRecDepth 100000 in
theorem bezout_any (a b : Int) (w : World) (ha : a ≠ 0) (hb : b ≠ 0) (ha1 : -1000000000 ≤ a ∧ a ≤ 1000000000) (hb1 : -1000000000 ≤ b ∧ b ≤ 1000000000) :
    Calls Tryd.prog 46 #[.int .i64 a, .int .i64 b] w fun e w' => e = .returned (.tuple #[.int .i64 (bzX a b), .int .i64 (bzY a b), .int .i64 (Int.gcd a b : Nat)]) ∧ Below w.heap.size w w' := by
  have sb := sz_nat b
  have sa := sz_nat a
  have la : 1 ≤ sz a ∧ sz a ≤ 1000000000 := by omega
  have lb : 1 ≤ b.natAbs ∧ b.natAbs ≤ 1000000000 := by omega
  clear sa sb
  have hbd := fun k => conv_bd b.natAbs (sz a) c40 k la.1 (by decide) (by decide) (by decide) (by decide)
  have hne := bzT_ne (a := a) hb
  have hpos := terms_pos b.natAbs (sz a) (by omega)
  have hC : bzC a b = convFrom c40 ((bzT a b).take ((bzT a b).length - 1)) := by unfold bzC; rw [List.dropLast_eq_take]
  have hx : bzX a b = if (bzT a b).length % 2 = 1 then -(bzC a b).q * sg a else (bzC a b).q * sg a := rfl
  have hy : bzY a b = if (bzT a b).length % 2 = 1 then (bzC a b).p * sg b else -(bzC a b).p * sg b := rfl
  have hTT : bzT a b = terms (sz a) b.natAbs := rfl
  have hTl := terms_len b.natAbs (sz a)
  rw [← hTT] at hpos hbd hTl
  have hn : 1 ≤ (bzT a b).length := by
    rcases hT : bzT a b with _ | ⟨t, ts⟩
    · exact absurd hT hne
    · simp
  simp only [c40, Int.one_mul, Int.zero_mul, Int.add_zero, Int.zero_add] at hbd
  change ∀ k, 0 ≤ (convFrom c40 _).p ∧ 0 ≤ (convFrom c40 _).q ∧ 0 ≤ (convFrom c40 _).pp ∧ 0 ≤ (convFrom c40 _).qq ∧ (convFrom c40 _).p ≤ _ ∧ (convFrom c40 _).q ≤ _ at hbd
  have hE := expand_any (sz a) b.natAbs
  rw [← hTT] at hE
  generalize hT : bzT a b = T at *
  have HX := hide hx
  have HY := hide hy
  have HC := hide hC
  have HB := hide hbd
  have HP := hide hpos
  clear hx hy hC hbd hpos hne hTT hT
  go_enter Tryd.func46, Tryd.ntmps46
  go_wp2_with (go_at_call 66; refine (implAbs_any _ _ (by omega) (by omega)).mono ?_; rintro e w1 ⟨rfl, rfl⟩)
  rw [sz_nat b]
  refine (hE _ (by omega) (by omega) (by omega)).mono ?_
  rintro e w1 ⟨g, c, n, rfl, hnT, hg, hrow, hbel⟩
  have HR := hide hrow
  have hcap := hrow.cap_
  clear hrow hE
  have sz1 := hbel.size
  go_wp2
  go_loopw [8, 9, 10, 11, 27] (fun p q pp qq i wr => ∃ k : Nat, k ≤ n - 1 ∧ i = .int .i64 k ∧ p = .int .i64 (convFrom c40 (T.take k)).p ∧ q = .int .i64 (convFrom c40 (T.take k)).q ∧ pp = .int .i64 (convFrom c40 (T.take k)).pp ∧ qq = .int .i64 (convFrom c40 (T.take k)).qq ∧ wr = w1) (fun _ _ _ _ i _ => n - (intOf i).toNat)
  case atStart => exact ⟨0, by omega, rfl, rfl, rfl, rfl, rfl, rfl⟩
  case round =>
    obtain ⟨k, hk, rfl, rfl, rfl, rfl, rfl, rfl⟩ := hrel
    by_cases hkn : k = n - 1
    · have hB := HB.out k
      rw [show k = T.length - 1 by omega, ← HC.out] at hB ⊢
      obtain ⟨P, hP⟩ : ∃ P, (bzC a b).p = P := ⟨_, rfl⟩
      obtain ⟨Q, hQ⟩ : ∃ Q, (bzC a b).q = Q := ⟨_, rfl⟩
      rw [hP, hQ] at hB ⊢
      have HX := hide (HX.out.trans (by rw [hQ]))
      have HY := hide (HY.out.trans (by rw [hP]))
      clear hP hQ
      have sa : sg a = -1 ∨ sg a = 0 ∨ sg a = 1 := by unfold sg; split <;> (try split) <;> omega
      have sb : sg b = -1 ∨ sg b = 0 ∨ sg b = 1 := by unfold sg; split <;> (try split) <;> omega
      have p1 : -1000000000 ≤ Q * sg a ∧ Q * sg a ≤ 1000000000 ∧ -1000000000 ≤ -Q * sg a ∧ -Q * sg a ≤ 1000000000 := by rcases sa with h | h | h <;> rw [h] <;> omega
      have p2 : -1000000000 ≤ P * sg b ∧ P * sg b ≤ 1000000000 ∧ -1000000000 ≤ -P * sg b ∧ -P * sg b ≤ 1000000000 := by rcases sb with h | h | h <;> rw [h] <;> omega
      have et : ((n : Nat) : Int).tmod 2 = ((n % 2 : Nat) : Int) := by rw [Int.tmod_eq_emod_of_nonneg (by omega)]; omega
      clear sa sb hk
      subst hkn
      subst hnT
      rcases Nat.mod_two_eq_zero_or_one T.length with hpar | hpar
      · rw [hpar] at et
        have e1 := HX.out
        have e2 := HY.out
        rw [if_neg (by omega)] at e1 e2
        have E1 := hide e1
        have E2 := hide e2
        clear e1 e2
        go_wp2_with fail
        refine (sign_any _ _).mono ?_
        rintro e w1 ⟨rfl, rfl⟩
        go_wp2_with fail
        refine (sign_any _ _).mono ?_
        rintro e w1 ⟨rfl, rfl⟩
        go_wp2_with fail
        refine (implGcd_any _ _ _ (by omega) (by omega) (by omega) (by omega)).mono ?_
        rintro e w1 ⟨rfl, m, rfl⟩
        go_wp2
        go_ret3
        exact ⟨by rw [E1.out, E2.out]; rfl, belowN hbel _⟩
      · rw [hpar] at et
        have e1 := HX.out
        have e2 := HY.out
        rw [if_pos (by omega)] at e1 e2
        have E1 := hide e1
        have E2 := hide e2
        clear e1 e2
        go_wp2_with fail
        refine (sign_any _ _).mono ?_
        rintro e w1 ⟨rfl, rfl⟩
        go_wp2_with fail
        refine (sign_any _ _).mono ?_
        rintro e w1 ⟨rfl, rfl⟩
        go_wp2_with fail
        refine (implGcd_any _ _ _ (by omega) (by omega) (by omega) (by omega)).mono ?_
        rintro e w1 ⟨rfl, m, rfl⟩
        go_wp2
        go_ret3
        exact ⟨by rw [E1.out, E2.out]; rfl, belowN hbel _⟩
    · have hlt : k < T.length := by omega
      have hB := HB.out k
      have hB1 := HB.out (k + 1)
      have hS := conv_step T hlt
      have hp := HP.out _ (List.getElem_mem hlt)
      have hcell := HR.out.cell (il_at hlt)
      have HS := hide hS
      rw [hS] at hB1
      clear hS
      generalize T[k] = t at *
      generalize convFrom c40 (T.take k) = C at *
      obtain ⟨P, Q, PP, QQ⟩ := C
      simp only [C4.next] at hB1 hB ⊢
      have m1 := Int.mul_nonneg hp hB.1
      have m2 := Int.mul_nonneg hp hB.2.1
      generalize hA1 : t * P = A1 at *
      generalize hA2 : t * Q = A2 at *
      go_wp2
      go_roundw
      case rel => exact ⟨k + 1, by omega, by first | rfl | simp, by rw [HS.out]; first | rfl | simp [C4.next, hA1], by rw [HS.out]; first | rfl | simp [C4.next, hA2], by rw [HS.out]; rfl, by rw [HS.out]; rfl, trivial⟩
      case measure => simp [intOf]; omega
end Go.Proofs.YtikpiigamnpafaaDoor
