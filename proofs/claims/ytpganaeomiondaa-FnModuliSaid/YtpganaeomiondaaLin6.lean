/- SolveModulo, InverseModulo and JoinRests: the program agrees with the reference. -/
import Derived.Test.YtpganaeomiondaaLin5
import Derived.Test.YtpganaeomiondaaLinG
namespace Go.Proofs.Ytpganaeomiondaa
open Go.RowKit

def moB (m : Int) : Bool := inB m 1 1000000
theorem moB_iff {m : Int} : moB m = true ↔ 1 ≤ m ∧ m ≤ 1000000 := inB_iff

theorem isModulus_any (m : Int) (w : World) :
    Calls Try.prog 57 #[.int .i64 m] w fun e w' => e = .returned (.bool (moB m)) ∧ w = w' := by
  go_enter Try.func57, Try.ntmps57
  go_wp2_with (go_at_call 73; refine (within_any _ _ _ _).mono ?_; rintro e w1 ⟨rfl, rfl⟩)
  go_ret
  exact ⟨rfl, rfl⟩

theorem l21Modulus_any (m : Int) (w : World) :
    Calls Try.prog 55 #[.int .i64 m] w fun e w' => e = .returned (.bool (moB m)) ∧ w = w' := by
  go_enter Try.func55, Try.ntmps55
  go_wp2_with (go_at_call 54; refine (l00In_any _ _ _ _).mono ?_; rintro e w1 ⟨rfl, rfl⟩)
  go_ret
  exact ⟨rfl, rfl⟩

/-- What the program's inner function yields. -/
def smv (a c m : Int) : Value := if a % m = 0 then .tuple #[.int .i64 0, .int .i64 1, .bool (decide (m ∣ c))] else if ((Int.gcd (a % m) m : Nat) : Int) ∣ c then .tuple #[.int .i64 (lx (a % m) m c), .int .i64 (lu (a % m) m), .bool true] else .tuple #[.int .i64 0, .int .i64 0, .bool false]

theorem solveModulo_any (a c m : Int) (w : World) (ha : -1000000000 ≤ a ∧ a ≤ 1000000000) (hc : -4000000000 ≤ c ∧ c ≤ 4000000000) (hm : 1 ≤ m ∧ m ≤ 1000000) :
    Calls Try.prog 59 #[.int .i64 a, .int .i64 c, .int .i64 m] w fun e w' => e = .returned (smv a c m) ∧ Below w.heap.size w w' := by
  have e2 := Int.emod_nonneg a (show m ≠ 0 by omega)
  have e3 := Int.emod_lt_of_pos a (show 0 < m by omega)
  have hm0 : ¬ m = 0 := by omega
  have hF := floorMod_any a m
  have hS := solveLinear_any (a % m) m c
  unfold slv at hS
  by_cases h0 : a % m = 0
  · have HR := hide (show smv a c m = _ from if_pos h0)
    have hr1 := Int.lt_tmod_of_pos c (show 0 < m by omega)
    have hr2 := Int.tmod_lt_of_pos c (show 0 < m by omega)
    have hdd : decide (m ∣ c) = (c.tmod m == 0) := by
      by_cases hd : m ∣ c
      · rw [decide_eq_true hd]; simp [tmod_dvd.2 hd]
      · rw [decide_eq_false hd]; have : c.tmod m ≠ 0 := fun h => hd (tmod_dvd.1 h)
        simp [this]
    rw [hdd] at HR
    rw [h0] at hF
    clear hdd e2 e3 h0 hS
    generalize hR : c.tmod m = R at *
    go_enter Try.func59, Try.ntmps59
    go_wp2_with fail
    refine (hF _ (by omega) (by omega) (by omega) (by omega) (by omega)).mono ?_
    rintro e w1 ⟨rfl, rfl⟩
    go_wp2
    go_quiet (fail)
    go_wp2
    go_returns
    exact ⟨by rw [HR.out]; first | done | rfl, belowN (Below.refl _ _) _⟩
  · have HR := hide (show smv a c m = _ from if_neg h0)
    by_cases hd : ((Int.gcd (a % m) m : Nat) : Int) ∣ c
    all_goals
      first | rw [if_pos hd] at hS HR | rw [if_neg hd] at hS HR
      clear hd
      generalize hA : a % m = A at *
      go_enter Try.func59, Try.ntmps59
      go_wp2_with fail
      refine (hF _ (by omega) (by omega) (by omega) (by omega) (by omega)).mono ?_
      rintro e w1 ⟨rfl, rfl⟩
      go_wp2_with fail
      refine (hS _ (by omega) (by omega) (by omega) (by omega) (by omega)).mono ?_
      rintro e w1 ⟨rfl, hb1⟩
      go_wp2
      go_returns
      exact ⟨by rw [HR.out]; first | done | rfl, hb1⟩

/-- What SolveModulo yields: the number, the step, the code. -/
def smx (a c m : Int) : Int := if a % m = 0 then 0 else if ((Int.gcd (a % m) m : Nat) : Int) ∣ c then lx (a % m) m c else 0
def smu (a c m : Int) : Int := if a % m = 0 then (if m ∣ c then 1 else 0) else if ((Int.gcd (a % m) m : Nat) : Int) ∣ c then lu (a % m) m else 0
def smc (a c m : Int) : Int := if a % m = 0 then (if m ∣ c then 0 else 3) else if ((Int.gcd (a % m) m : Nat) : Int) ∣ c then 0 else 3
def smo (a c m : Int) : Value := if moB m && rtB a && rtB c then .tuple #[.int .i64 (smx a c m), .int .i64 (smu a c m), .int .i64 (smc a c m)] else .tuple #[.int .i64 0, .int .i64 0, .int .i64 2]

theorem sm_ways (a c m : Int) : (a % m = 0 ∧ m ∣ c ∧ smv a c m = .tuple #[.int .i64 0, .int .i64 1, .bool true] ∧ smx a c m = 0 ∧ smu a c m = 1 ∧ smc a c m = 0) ∨
    (a % m = 0 ∧ ¬ m ∣ c ∧ smv a c m = .tuple #[.int .i64 0, .int .i64 1, .bool false] ∧ smx a c m = 0 ∧ smu a c m = 0 ∧ smc a c m = 3) ∨
    (¬ a % m = 0 ∧ ((Int.gcd (a % m) m : Nat) : Int) ∣ c ∧ smv a c m = .tuple #[.int .i64 (lx (a % m) m c), .int .i64 (lu (a % m) m), .bool true] ∧ smx a c m = lx (a % m) m c ∧ smu a c m = lu (a % m) m ∧ smc a c m = 0) ∨
    (¬ a % m = 0 ∧ ¬ ((Int.gcd (a % m) m : Nat) : Int) ∣ c ∧ smv a c m = .tuple #[.int .i64 0, .int .i64 0, .bool false] ∧ smx a c m = 0 ∧ smu a c m = 0 ∧ smc a c m = 3) := by
  unfold smv smx smu smc
  by_cases h : a % m = 0
  · by_cases h2 : m ∣ c
    · exact .inl ⟨h, h2, by simp [h, h2], by simp [h], by simp [h, h2], by simp [h, h2]⟩
    · exact .inr (.inl ⟨h, h2, by simp [h, h2], by simp [h], by simp [h, h2], by simp [h, h2]⟩)
  · by_cases h2 : ((Int.gcd (a % m) m : Nat) : Int) ∣ c
    · exact .inr (.inr (.inl ⟨h, h2, by rw [if_neg h, if_pos h2], by rw [if_neg h, if_pos h2], by rw [if_neg h, if_pos h2], by rw [if_neg h, if_pos h2]⟩))
    · exact .inr (.inr (.inr ⟨h, h2, by rw [if_neg h, if_neg h2], by rw [if_neg h, if_neg h2], by rw [if_neg h, if_neg h2], by rw [if_neg h, if_neg h2]⟩))

theorem implSolveModulo_any (a c m : Int) (w : World) :
    Calls Try.prog 24 #[.int .i64 a, .int .i64 c, .int .i64 m] w fun e w' => e = .returned (smo a c m) ∧ Below w.heap.size w w' := by
  rcases Bool.eq_false_or_eq_true (moB m) with h1 | h1 <;> rcases Bool.eq_false_or_eq_true (rtB a) with h2 | h2 <;> rcases Bool.eq_false_or_eq_true (rtB c) with h3 | h3
  · have HR := hide (show smo a c m = _ from if_pos (by simp [h1, h2, h3]))
    have hm := moB_iff.1 h1
    have ha := rtB_iff.1 h2
    have hc := rtB_iff.1 h3
    have hS := solveModulo_any a c m
    rcases sm_ways a c m with ⟨-, -, e1, e2, e3, e4⟩ | ⟨-, -, e1, e2, e3, e4⟩ | ⟨-, -, e1, e2, e3, e4⟩ | ⟨-, -, e1, e2, e3, e4⟩
    all_goals
      rw [e1] at hS
      rw [e2, e3, e4] at HR
      clear e1 e2 e3 e4
      go_enter Try.func24, Try.ntmps24
      go_wp2_with (first
        | (go_at_call 57; refine (isModulus_any _ _).mono ?_; rintro e w1 ⟨rfl, rfl⟩)
        | (go_at_call 58; refine (isRight_any _ _).mono ?_; rintro e w1 ⟨rfl, rfl⟩))
      refine (hS _ (by omega) (by omega) (by omega)).mono ?_
      rintro e w1 ⟨rfl, hb1⟩
      go_wp2
      go_returns
      exact ⟨by rw [HR.out]; first | done | rfl, hb1⟩
  all_goals
    have HR := hide (show smo a c m = _ from if_neg (by simp [h1, h2, h3]))
    go_enter Try.func24, Try.ntmps24
    go_wp2_with (first
      | (go_at_call 57; refine (isModulus_any _ _).mono ?_; rintro e w1 ⟨rfl, rfl⟩)
      | (go_at_call 58; refine (isRight_any _ _).mono ?_; rintro e w1 ⟨rfl, rfl⟩))
    go_returns
    exact ⟨by rw [HR.out]; first | done | rfl, Below.refl _ _⟩

set_option maxHeartbeats 1000000 in
theorem specSolveModulo_any (a c m : Int) (w : World) :
    Calls Try.prog 23 #[.int .i64 a, .int .i64 c, .int .i64 m] w fun e w' => e = .returned (smo a c m) ∧ Below w.heap.size w w' := by
  rcases Bool.eq_false_or_eq_true (moB m) with h1 | h1 <;> rcases Bool.eq_false_or_eq_true (rtB a) with h2 | h2 <;> rcases Bool.eq_false_or_eq_true (rtB c) with h3 | h3
  · have HR := hide (show smo a c m = _ from if_pos (by simp [h1, h2, h3]))
    have hm := moB_iff.1 h1
    have ha := rtB_iff.1 h2
    have hc := rtB_iff.1 h3
    have h2' : inB a (-1000000000) 1000000000 = true := h2
    have h3' : inB c (-1000000000) 1000000000 = true := h3
    have e2 := Int.emod_nonneg a (show m ≠ 0 by omega)
    have e3 := Int.emod_lt_of_pos a (show 0 < m by omega)
    have c2 := Int.emod_nonneg c (show m ≠ 0 by omega)
    have c3 := Int.emod_lt_of_pos c (show 0 < m by omega)
    have hS := l21Solve_any (a % m) m (c % m)
    unfold slvS at hS
    have dd : ((Int.gcd (a % m) m : Nat) : Int) ∣ c % m ↔ ((Int.gcd (a % m) m : Nat) : Int) ∣ c := dvd_emod' (Int.gcd_dvd_right ..)
    rcases sm_ways a c m with ⟨w1, w2, -, e1', e2', e3'⟩ | ⟨w1, w2, -, e1', e2', e3'⟩ | ⟨w1, w2, -, e1', e2', e3'⟩ | ⟨w1, w2, -, e1', e2', e3'⟩
    · rw [e1', e2', e3'] at HR
      have w3 : c % m = 0 := Int.emod_eq_zero_of_dvd w2
      have W1 := hide w1
      have W3 := hide w3
      clear e1' e2' e3' w1 w2 w3 dd hS e2 e3 c2 c3
      go_enter Try.func23, Try.ntmps23
      go_wp2_with (first
        | (go_at_call 55; refine (l21Modulus_any _ _).mono ?_; rintro e w1 ⟨rfl, rfl⟩)
        | (go_at_call 54; refine (l00In_any _ _ _ _).mono ?_; rintro e w1 ⟨rfl, rfl⟩))
      refine (specMod_any _ _ _ (by omega) (by omega)).mono ?_
      rintro e w1 ⟨rfl, rfl⟩
      rw [W1.out]
      go_wp2_with fail
      refine (specMod_any _ _ _ (by omega) (by omega)).mono ?_
      rintro e w1 ⟨rfl, rfl⟩
      rw [W3.out]
      go_wp2
      go_returns
      exact ⟨by rw [HR.out]; first | done | rfl, Below.refl _ _⟩
    · rw [e1', e2', e3'] at HR
      have w3 : ¬ c % m = 0 := fun h => w2 (Int.dvd_of_emod_eq_zero h)
      have W1 := hide w1
      generalize hCC : c % m = C at *
      have W3 := hide hCC
      clear e1' e2' e3' w1 w2 dd hS e2 e3 c2 c3 hCC
      go_enter Try.func23, Try.ntmps23
      go_wp2_with (first
        | (go_at_call 55; refine (l21Modulus_any _ _).mono ?_; rintro e w1 ⟨rfl, rfl⟩)
        | (go_at_call 54; refine (l00In_any _ _ _ _).mono ?_; rintro e w1 ⟨rfl, rfl⟩))
      refine (specMod_any _ _ _ (by omega) (by omega)).mono ?_
      rintro e w1 ⟨rfl, rfl⟩
      rw [W1.out]
      go_wp2_with fail
      refine (specMod_any _ _ _ (by omega) (by omega)).mono ?_
      rintro e w1 ⟨rfl, rfl⟩
      rw [W3.out]
      go_wp2
      go_returns
      exact ⟨by rw [HR.out]; first | done | rfl, Below.refl _ _⟩
    · have hp := lx_per (a := a % m) (b := m) (c := c % m) (c / m) (by omega) (dd.2 w2)
      rw [show c % m + m * (c / m) = c by have := Int.mul_ediv_add_emod c m; omega] at hp
      rw [if_pos (dd.2 w2), ← hp] at hS
      rw [e1', e2', e3'] at HR
      have hu := lu_mul (a % m) m
      have hG := specGcdI_any (a % m) m
      have hgp := gcd_pos (a := a % m) (show m ≠ 0 by omega)
      have hq : m.tdiv (Int.gcd (a % m) m : Nat) = lu (a % m) m := by
        rw [Int.tdiv_eq_ediv_of_nonneg (by omega)]
        unfold lu sz; rw [if_neg (by omega)]
      have hub := lu_pos (a := a % m) (show m ≠ 0 by omega)
      have hsz : sz m = m := by unfold sz; rw [if_neg (by omega)]
      rw [hsz] at hub
      clear hsz hu hp e1' e2' e3' w2 dd
      generalize hgg : (Int.gcd (a % m) m : Nat) = g at *
      generalize hU : lu (a % m) m = U at *
      generalize hX : lx (a % m) m c = X at *
      generalize hY : ly (a % m) m (c % m) = Y at *
      generalize hA : a % m = A at *
      generalize hC : c % m = C at *
      have W1 := hide hA
      have W3 := hide hC
      clear hgg hU hX hA hC
      have hgn : ¬ (g : Int) = 0 := by omega
      go_enter Try.func23, Try.ntmps23
      go_wp2_with (first
        | (go_at_call 55; refine (l21Modulus_any _ _).mono ?_; rintro e w1 ⟨rfl, rfl⟩)
        | (go_at_call 54; refine (l00In_any _ _ _ _).mono ?_; rintro e w1 ⟨rfl, rfl⟩))
      refine (specMod_any _ _ _ (by omega) (by omega)).mono ?_
      rintro e w1 ⟨rfl, rfl⟩
      rw [W1.out]
      go_wp2_with fail
      refine (specMod_any _ _ _ (by omega) (by omega)).mono ?_
      rintro e w1 ⟨rfl, rfl⟩
      rw [W3.out]
      go_wp2_with fail
      refine (hS _ (by omega) (by omega) (by omega) (by omega) (by omega)).mono ?_
      rintro e w1 ⟨rfl, hb1⟩
      have s1 : IntKind.i64.wrap U = U := IntWalk.i64_in _ (by omega)
      have q1 := fun w' => hG w' (by omega) (by omega) (by omega) (by omega)
      go_wp2_with fail
      go_quiet (first | (with_reducible exact quietS (q1 _)))
      go_wp2
      go_returns
      exact ⟨by rw [HR.out]; first | done | rfl, belowN hb1 _⟩
    · rw [if_neg (fun h => w2 (dd.1 h))] at hS
      rw [e1', e2', e3'] at HR
      clear e1' e2' e3' w2 dd
      generalize hA : a % m = A at *
      generalize hC : c % m = C at *
      have W1 := hide hA
      have W3 := hide hC
      clear hA hC
      go_enter Try.func23, Try.ntmps23
      go_wp2_with (first
        | (go_at_call 55; refine (l21Modulus_any _ _).mono ?_; rintro e w1 ⟨rfl, rfl⟩)
        | (go_at_call 54; refine (l00In_any _ _ _ _).mono ?_; rintro e w1 ⟨rfl, rfl⟩))
      refine (specMod_any _ _ _ (by omega) (by omega)).mono ?_
      rintro e w1 ⟨rfl, rfl⟩
      rw [W1.out]
      go_wp2_with fail
      refine (specMod_any _ _ _ (by omega) (by omega)).mono ?_
      rintro e w1 ⟨rfl, rfl⟩
      rw [W3.out]
      go_wp2_with fail
      refine (hS _ (by omega) (by omega) (by omega) (by omega) (by omega)).mono ?_
      rintro e w1 ⟨rfl, hb1⟩
      go_wp2
      go_returns
      exact ⟨by rw [HR.out]; first | done | rfl, hb1⟩
  all_goals
    have HR := hide (show smo a c m = _ from if_neg (by simp [h1, h2, h3]))
    unfold rtB at h2 h3
    go_enter Try.func23, Try.ntmps23
    go_wp2_with (first
      | (go_at_call 55; refine (l21Modulus_any _ _).mono ?_; rintro e w1 ⟨rfl, rfl⟩)
      | (go_at_call 54; refine (l00In_any _ _ _ _).mono ?_; rintro e w1 ⟨rfl, rfl⟩))
    go_returns
    exact ⟨by rw [HR.out]; first | done | rfl, Below.refl _ _⟩

end Go.Proofs.Ytpganaeomiondaa
