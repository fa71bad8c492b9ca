/- SolveLinear and CountNatural: the program agrees with the reference. -/
import Derived.Test.YtikpiigamnpafaaDoorLin4
namespace Go.Proofs.YtikpiigamnpafaaDoor
open Go.RowKit

def lcode (nat : Bool) (a b c : Int) : Int := if (if nat then naB a b c else liB a b c) then 0 else 2

theorem liB_iff {a b c : Int} : liB a b c = true ↔ ((-1000000 ≤ a ∧ a ≤ 1000000) ∧ a ≠ 0) ∧ ((-1000000 ≤ b ∧ b ≤ 1000000) ∧ b ≠ 0) ∧ (-1000000000 ≤ c ∧ c ≤ 1000000000) := by
  simp only [liB, cfB, rtB, inB, Bool.and_eq_true, decide_eq_true_eq, bne_iff_ne]
  omega

set_option maxHeartbeats 1000000 in
theorem l21Code_any (nat : Bool) (a b c : Int) (w : World) :
    Calls Tryd.prog 32 #[.int .i64 a, .int .i64 b, .int .i64 c, .bool nat] w fun e w' => e = .returned (.int .i64 (lcode nat a b c)) ∧ ∃ m, w' = w.drewN m := by
  rcases Bool.eq_false_or_eq_true (cfB a) with h | h <;> rcases Bool.eq_false_or_eq_true (cfB b) with h2 | h2 <;> rcases Bool.eq_false_or_eq_true (rtB c) with h3 | h3
  · have hl : liB a b c = true := by simp [liB, h, h2, h3]
    have a1 := (cfB_iff.1 h).2
    have b1 := (cfB_iff.1 h2).2
    cases nat
    · have hr : lcode false a b c = 0 := by simp [lcode, hl]
      have HR := hide hr
      clear hr hl
      go_enter Tryd.func32, Tryd.ntmps32
      go_wp2_with (first
        | (go_at_call 47; refine (l21Coef_any _ _).mono ?_; rintro e w1 ⟨rfl, rfl⟩)
        | (go_at_call 58; refine (l00In_any _ _ _ _).mono ?_; rintro e w1 ⟨rfl, rfl⟩; rw [show inB c (-1000000000) 1000000000 = true from h3]))
      go_ret
      exact ⟨by rw [HR.out]; first | done | rfl, 0, rfl⟩
    · rcases (show (a < 0 ∧ lcode true a b c = 2) ∨ (0 < a ∧ b < 0 ∧ lcode true a b c = 2) ∨ (0 < a ∧ 0 < b ∧ c < 0 ∧ lcode true a b c = 2) ∨ (0 < a ∧ 0 < b ∧ 0 ≤ c ∧ lcode true a b c = 0) from by
        simp only [lcode, naB, hl, if_true, Bool.true_and]
        by_cases x1 : a < 0
        · exact .inl ⟨x1, if_neg (by simp; omega)⟩
        · by_cases x2 : b < 0
          · exact .inr (.inl ⟨by omega, x2, if_neg (by simp; omega)⟩)
          · by_cases x3 : c < 0
            · exact .inr (.inr (.inl ⟨by omega, by omega, x3, if_neg (by simp; omega)⟩))
            · exact .inr (.inr (.inr ⟨by omega, by omega, by omega, if_pos (by simp; omega)⟩))) with ⟨x1, hr⟩ | ⟨x1, x2, hr⟩ | ⟨x1, x2, x3, hr⟩ | ⟨x1, x2, x3, hr⟩
      all_goals
        have HR := hide hr
        clear hr hl
        go_enter Tryd.func32, Tryd.ntmps32
        go_wp2_with (first
          | (go_at_call 47; refine (l21Coef_any _ _).mono ?_; rintro e w1 ⟨rfl, rfl⟩)
          | (go_at_call 58; refine (l00In_any _ _ _ _).mono ?_; rintro e w1 ⟨rfl, rfl⟩; rw [show inB c (-1000000000) 1000000000 = true from h3]))
        go_ret
        exact ⟨by rw [HR.out]; first | done | rfl, 0, rfl⟩
  all_goals
    have hr : lcode nat a b c = 2 := by cases nat <;> simp [lcode, naB, liB, h, h2, h3]
    have HR := hide hr
    clear hr
    go_enter Tryd.func32, Tryd.ntmps32
    go_wp2_with (first
      | (go_at_call 47; refine (l21Coef_any _ _).mono ?_; rintro e w1 ⟨rfl, rfl⟩)
      | (go_at_call 58; refine (l00In_any _ _ _ _).mono ?_; rintro e w1 ⟨rfl, rfl⟩; rw [show inB c (-1000000000) 1000000000 = false from h3]))
    go_ret
    exact ⟨by rw [HR.out]; first | done | rfl, 0, rfl⟩

def slo (a b c : Int) : Value := if liB a b c then (if ((Int.gcd a b : Nat) : Int) ∣ c then .tuple #[.int .i64 (lx a b c), .int .i64 (ly a b c), .int .i64 (lu a b), .int .i64 (lv a b), .int .i64 0] else .tuple #[.int .i64 0, .int .i64 0, .int .i64 0, .int .i64 0, .int .i64 3]) else .tuple #[.int .i64 0, .int .i64 0, .int .i64 0, .int .i64 0, .int .i64 2]

theorem implSolveLinear_any (a b c : Int) (w : World) :
    Calls Tryd.prog 14 #[.int .i64 a, .int .i64 b, .int .i64 c] w fun e w' => e = .returned (slo a b c) ∧ Below w.heap.size w w' := by
  rcases Bool.eq_false_or_eq_true (liB a b c) with h | h
  · have hl := liB_iff.1 h
    have hS := solveLinear_any a b c
    unfold slv at hS
    by_cases hd : ((Int.gcd a b : Nat) : Int) ∣ c
    all_goals
      have HR := hide (show slo a b c = _ from if_pos h)
      first | rw [if_pos hd] at hS HR | rw [if_neg hd] at hS HR
      clear hd
      go_enter Tryd.func14, Tryd.ntmps14
      go_wp2_with fail
      refine (isLinear_any _ _ _ _).mono ?_
      rintro e w1 ⟨rfl, rfl⟩
      go_wp2_with fail
      refine (hS _ hl.1.2 hl.1.1 hl.2.1.2 hl.2.1.1 (by omega)).mono ?_
      rintro e w1 ⟨rfl, hb1⟩
      go_wp2
      go_returns
      exact ⟨by rw [HR.out]; first | done | rfl, hb1⟩
  · have HR := hide (show slo a b c = _ from if_neg (by simp [h]))
    go_enter Tryd.func14, Tryd.ntmps14
    go_wp2_with fail
    refine (isLinear_any _ _ _ _).mono ?_
    rintro e w1 ⟨rfl, rfl⟩
    go_wp2
    go_returns
    exact ⟨by rw [HR.out]; first | done | rfl, Below.refl _ _⟩

theorem specSolveLinear_any (a b c : Int) (w : World) :
    Calls Tryd.prog 15 #[.int .i64 a, .int .i64 b, .int .i64 c] w fun e w' => e = .returned (slo a b c) ∧ Below w.heap.size w w' := by
  have hC := l21Code_any false a b c
  rcases Bool.eq_false_or_eq_true (liB a b c) with h | h
  · have hl := liB_iff.1 h
    rw [show lcode false a b c = 0 by simp [lcode, h]] at hC
    have hS := l21Solve_any a b c
    unfold slvS at hS
    by_cases hd : ((Int.gcd a b : Nat) : Int) ∣ c
    · have HR := hide (show slo a b c = _ from if_pos h)
      obtain ⟨-, -, -, f4, f5, -, -, -, -, -, -, f12, f13, f14⟩ := sol_facts hl.1.2 hl.1.1 hl.2.1.2 hl.2.1.1 (by omega) hd
      have hsb := sz_nat b
      have hsl : 0 ≤ sz b ∧ sz b ≤ 1000000 := by omega
      have hsa := sz_nat a
      have hsla : 0 ≤ sz a ∧ sz a ≤ 1000000 := by omega
      have hg := gcd_pos (a := a) hl.2.1.2
      clear hsb hsa
      rw [if_pos hd] at hS HR
      have hG := specGcdI_any (sz a) (sz b)
      rw [gcd_sz] at hG
      generalize hgg : (Int.gcd a b : Nat) = g at *
      generalize hX : lx a b c = X at *
      generalize hY : ly a b c = Y at *
      generalize hU : lu a b = U at *
      generalize hV : lv a b = V at *
      obtain ⟨r, hr⟩ : ∃ r, -a * U = r := ⟨_, rfl⟩
      rw [hr] at f12 f13
      clear hd hgg hX hY hU hV
      have hgn : ¬ (g : Int) = 0 := by omega
      have s4 : IntKind.i64.wrap (-a) = -a := IntWalk.i64_in _ (by omega)
      have s5 : IntKind.i64.wrap r = r := IntWalk.i64_in _ (by omega)
      have s6 : IntKind.i64.wrap V = V := IntWalk.i64_in _ (by omega)
      go_enter Tryd.func15, Tryd.ntmps15
      go_wp2_with fail
      refine (hC _).mono ?_
      rintro e w1 ⟨rfl, m, rfl⟩
      go_wp2_with fail
      refine (hS _ hl.1.2 hl.1.1 hl.2.1.2 hl.2.1.1 (by omega)).mono ?_
      rintro e w1 ⟨rfl, hb1⟩
      go_wp2_with fail
      refine (specSize_any _ _ (by omega) (by omega)).mono ?_
      rintro e w2 ⟨rfl, rfl⟩
      go_wp2_with fail
      refine (specSize_any _ _ (by omega) (by omega)).mono ?_
      rintro e w2 ⟨rfl, rfl⟩
      go_wp2_with fail
      refine (hG _ (by omega) (by omega) (by omega) (by omega)).mono ?_
      rintro e w2 ⟨rfl, rfl⟩
      go_wp2_with fail
      refine (specSize_any _ _ (by omega) (by omega)).mono ?_
      rintro e w2 ⟨rfl, rfl⟩
      go_wp2
      go_quiet (fail)
      go_wp2
      go_returns
      exact ⟨by rw [HR.out]; first | done | rfl, belowN (offN hb1) _⟩
    · have HR := hide (show slo a b c = _ from if_pos h)
      rw [if_neg hd] at hS HR
      clear hd
      go_enter Tryd.func15, Tryd.ntmps15
      go_wp2_with fail
      refine (hC _).mono ?_
      rintro e w1 ⟨rfl, m, rfl⟩
      go_wp2_with fail
      refine (hS _ hl.1.2 hl.1.1 hl.2.1.2 hl.2.1.1 (by omega)).mono ?_
      rintro e w1 ⟨rfl, hb1⟩
      go_wp2
      go_returns
      exact ⟨by rw [HR.out]; first | done | rfl, offN hb1⟩
  · have HR := hide (show slo a b c = _ from if_neg (by simp [h]))
    rw [show lcode false a b c = 2 by simp [lcode, h]] at hC
    go_enter Tryd.func15, Tryd.ntmps15
    go_wp2_with fail
    refine (hC _).mono ?_
    rintro e w1 ⟨rfl, m, rfl⟩
    go_wp2
    go_returns
    exact ⟨by rw [HR.out]; first | done | rfl, belowN (Below.refl _ _) _⟩

def cno (a b c : Int) : Value := if naB a b c then .tuple #[.int .i64 (lcnt a b c), .int .i64 0] else .tuple #[.int .i64 0, .int .i64 2]

theorem countNatural_any (a b c : Int) (w : World) (h : naB a b c = true) :
    Calls Tryd.prog 51 #[.int .i64 a, .int .i64 b, .int .i64 c] w fun e w' => e = .returned (.int .i64 (lcnt a b c)) ∧ Below w.heap.size w w' := by
  have hl := naB_iff.1 h
  have hS := solveLinear_any a b c
  unfold slv at hS
  by_cases hd : ((Int.gcd a b : Nat) : Int) ∣ c
  · obtain ⟨-, -, -, -, -, -, -, -, -, -, f11, -, -, f14⟩ := sol_facts (by omega) (by omega) (by omega) (by omega) (by omega) hd
    obtain ⟨n1, n2, -, -, -, -, -, n8⟩ := nat_facts hl.1 hl.2.1 hd
    rw [if_pos hd] at hS
    by_cases h0 : ly a b c < 0
    · have HR := hide (show lcnt a b c = 0 from if_neg (by omega))
      clear n8 hd
      generalize hY : ly a b c = Y at *
      go_enter Tryd.func51, Tryd.ntmps51
      go_wp2_with fail
      refine (hS _ (by omega) (by omega) (by omega) (by omega) (by omega)).mono ?_
      rintro e w1 ⟨rfl, hb1⟩
      go_wp2
      go_ret
      exact ⟨by rw [HR.out]; first | done | rfl, hb1⟩
    · have HR := hide (show lcnt a b c = ly a b c / (a / (Int.gcd a b : Nat)) + 1 from if_pos ⟨hd, by omega⟩)
      have n9 := (n8 (by omega)).2
      have hq := cnt_bd (y := ly a b c) (k := a / (Int.gcd a b : Nat)) (by omega) (by omega)
      clear n8 hd
      rw [n1] at hS
      generalize hY : ly a b c = Y at *
      generalize hK : a / ((Int.gcd a b : Nat) : Int) = K at *
      generalize hQ : Y / K = Q at *
      clear hQ n1
      have hk0 : ¬ K = 0 := by omega
      have hnn : - -K = K := by omega
      go_enter Tryd.func51, Tryd.ntmps51
      go_wp2_with fail
      refine (hS _ (by omega) (by omega) (by omega) (by omega) (by omega)).mono ?_
      rintro e w1 ⟨rfl, hb1⟩
      go_wp2
      go_ret
      exact ⟨by rw [HR.out]; first | done | rfl, hb1⟩
  · rw [if_neg hd] at hS
    have HR := hide (show lcnt a b c = 0 from if_neg (fun x => hd x.1))
    clear hd
    go_enter Tryd.func51, Tryd.ntmps51
    go_wp2_with fail
    refine (hS _ (by omega) (by omega) (by omega) (by omega) (by omega)).mono ?_
    rintro e w1 ⟨rfl, hb1⟩
    go_wp2
    go_ret
    exact ⟨by rw [HR.out]; first | done | rfl, hb1⟩

theorem implCountNatural_any (a b c : Int) (w : World) :
    Calls Tryd.prog 21 #[.int .i64 a, .int .i64 b, .int .i64 c] w fun e w' => e = .returned (cno a b c) ∧ Below w.heap.size w w' := by
  rcases Bool.eq_false_or_eq_true (naB a b c) with h | h
  · have HR := hide (show cno a b c = _ from if_pos h)
    go_enter Tryd.func21, Tryd.ntmps21
    go_wp2_with fail
    refine (isNatural_any _ _ _ _).mono ?_
    rintro e w1 ⟨rfl, rfl⟩
    go_wp2_with fail
    refine (countNatural_any _ _ _ _ h).mono ?_
    rintro e w1 ⟨rfl, hb1⟩
    go_wp2
    go_returns
    exact ⟨by rw [HR.out]; first | done | rfl, hb1⟩
  · have HR := hide (show cno a b c = _ from if_neg (by simp [h]))
    go_enter Tryd.func21, Tryd.ntmps21
    go_wp2_with fail
    refine (isNatural_any _ _ _ _).mono ?_
    rintro e w1 ⟨rfl, rfl⟩
    go_wp2
    go_returns
    exact ⟨by rw [HR.out]; first | done | rfl, Below.refl _ _⟩

theorem specCountNatural_any (a b c : Int) (w : World) :
    Calls Tryd.prog 22 #[.int .i64 a, .int .i64 b, .int .i64 c] w fun e w' => e = .returned (cno a b c) ∧ Below w.heap.size w w' := by
  have hC := l21Code_any true a b c
  rcases Bool.eq_false_or_eq_true (naB a b c) with h | h
  · have hl := naB_iff.1 h
    rw [show lcode true a b c = 0 by simp [lcode, h]] at hC
    have hS := l21Solve_any a b c
    unfold slvS at hS
    by_cases hd : ((Int.gcd a b : Nat) : Int) ∣ c
    · have HR0 := hide (show cno a b c = _ from if_pos h)
      obtain ⟨-, -, -, -, f5, -, -, -, f9, -, f11, -, -, -⟩ := sol_facts (by omega) (by omega) (by omega) (by omega) (by omega) hd
      obtain ⟨-, n2, -, n4, -, n6, n7, n8⟩ := nat_facts hl.1 hl.2.1 hd
      rw [if_pos hd] at hS
      by_cases h0 : ly a b c < 0
      · have e1 : lcnt a b c = 0 := if_neg (by omega)
        rw [e1] at HR0
        have hlt := n7.2 h0
        clear n8 hd e1 n7
        generalize hX : lx a b c = X at *
        generalize hY : ly a b c = Y at *
        obtain ⟨q, hq⟩ : ∃ q, a * X = q := ⟨_, rfl⟩
        rw [hq] at f9 hlt
        go_enter Tryd.func22, Tryd.ntmps22
        go_wp2_with fail
        refine (hC _).mono ?_
        rintro e w1 ⟨rfl, m, rfl⟩
        go_wp2_with fail
        refine (hS _ (by omega) (by omega) (by omega) (by omega) (by omega)).mono ?_
        rintro e w1 ⟨rfl, hb1⟩
        go_wp2
        go_returns
        exact ⟨by rw [HR0.out]; first | done | rfl, offN hb1⟩
      · have e1 : lcnt a b c = ly a b c / (a / (Int.gcd a b : Nat)) + 1 := if_pos ⟨hd, by omega⟩
        rw [e1] at HR0
        have hlt : a * lx a b c ≤ c := by
          rcases Int.lt_or_le c (a * lx a b c) with h | h
          · exact absurd (n7.1 h) h0
          · exact h
        have n9 := (n8 (by omega)).1
        have hq := cnt_bd (y := ly a b c) (k := a / (Int.gcd a b : Nat)) (by omega) (by omega)
        have hg := gcd_pos (a := a) (show b ≠ 0 by omega)
        clear n8 hd e1 n7
        have hG := specGcdI_any a b
        generalize hgg : (Int.gcd a b : Nat) = g at *
        generalize hX : lx a b c = X at *
        generalize hY : ly a b c = Y at *
        generalize hU : lu a b = U at *
        generalize hQ : Y / (a / (g : Int)) = Q at *
        obtain ⟨q, hq'⟩ : ∃ q, a * X = q := ⟨_, rfl⟩
        obtain ⟨r, hr⟩ : ∃ r, a * U = r := ⟨_, rfl⟩
        rw [hq'] at f9 hlt n9
        rw [hr] at n9 n6
        clear hgg hX hY hU hQ
        have hgn : ¬ (g : Int) = 0 := by omega
        have hrn : ¬ r = 0 := by omega
        go_enter Tryd.func22, Tryd.ntmps22
        go_wp2_with fail
        refine (hC _).mono ?_
        rintro e w1 ⟨rfl, m, rfl⟩
        go_wp2_with fail
        refine (hS _ (by omega) (by omega) (by omega) (by omega) (by omega)).mono ?_
        rintro e w1 ⟨rfl, hb1⟩
        go_wp2_with fail
        refine (hG _ (by omega) (by omega) (by omega) (by omega)).mono ?_
        rintro e w2 ⟨rfl, rfl⟩
        have s1 : IntKind.i64.wrap q = q := IntWalk.i64_in _ (by omega)
        have s2 : IntKind.i64.wrap (c - q) = c - q := IntWalk.i64_in _ (by omega)
        have s3 : IntKind.i64.wrap U = U := IntWalk.i64_in _ (by omega)
        have s5 : IntKind.i64.wrap r = r := IntWalk.i64_in _ (by omega)
        have s6 : IntKind.i64.wrap Q = Q := IntWalk.i64_in _ (by omega)
        have s7 : IntKind.i64.wrap (Q + 1) = Q + 1 := IntWalk.i64_in _ (by omega)
        have n10 : (c - q) / r = Q := by rw [← n9, Int.tdiv_eq_ediv_of_nonneg (by omega)]
        go_wp2
        go_returns
        exact ⟨by rw [HR0.out]; first | done | rfl, offN hb1⟩
    · have HR0 := hide (show cno a b c = _ from if_pos h)
      rw [show lcnt a b c = 0 from if_neg (fun x => hd x.1)] at HR0
      rw [if_neg hd] at hS
      clear hd
      go_enter Tryd.func22, Tryd.ntmps22
      go_wp2_with fail
      refine (hC _).mono ?_
      rintro e w1 ⟨rfl, m, rfl⟩
      go_wp2_with fail
      refine (hS _ (by omega) (by omega) (by omega) (by omega) (by omega)).mono ?_
      rintro e w1 ⟨rfl, hb1⟩
      go_wp2
      go_returns
      exact ⟨by rw [HR0.out]; first | done | rfl, offN hb1⟩
  · have HR := hide (show cno a b c = _ from if_neg (by simp [h]))
    rw [show lcode true a b c = 2 by simp [lcode, h]] at hC
    go_enter Tryd.func22, Tryd.ntmps22
    go_wp2_with fail
    refine (hC _).mono ?_
    rintro e w1 ⟨rfl, m, rfl⟩
    go_wp2
    go_returns
    exact ⟨by rw [HR.out]; first | done | rfl, belowN (Below.refl _ _) _⟩

end Go.Proofs.YtikpiigamnpafaaDoor
