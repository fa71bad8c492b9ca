/- InverseModulo and JoinRests: the program agrees with the reference. -/
import Derived.Test.YtpganaeomiondaaLin6
namespace Go.Proofs.Ytpganaeomiondaa
open Go.RowKit

theorem sm_step {a m : Int} (hm : 1 ≤ m) (h : smc a 1 m = 0) : smu a 1 m = m := by
  rcases sm_ways a 1 m with ⟨-, w2, -, -, e2, e3⟩ | ⟨-, -, -, -, e2, e3⟩ | ⟨-, w2, -, -, e2, e3⟩ | ⟨-, -, -, -, e2, e3⟩
  · have := Int.le_of_dvd (by omega) w2; omega
  · omega
  · rw [e2]; exact lu_one (by omega) w2
  · omega

def ivo (a m : Int) : Value := if moB m && rtB a then .tuple #[.int .i64 (smx a 1 m), .int .i64 (smc a 1 m)] else .tuple #[.int .i64 0, .int .i64 2]

theorem implInverseModulo_any (a m : Int) (w : World) :
    Calls Try.prog 26 #[.int .i64 a, .int .i64 m] w fun e w' => e = .returned (ivo a m) ∧ Below w.heap.size w w' := by
  rcases Bool.eq_false_or_eq_true (moB m) with h1 | h1 <;> rcases Bool.eq_false_or_eq_true (rtB a) with h2 | h2
  · have HR := hide (show ivo a m = _ from if_pos (by simp [h1, h2]))
    have hm := moB_iff.1 h1
    have ha := rtB_iff.1 h2
    have hS := solveModulo_any a 1 m
    rcases sm_ways a 1 m with ⟨-, -, e1, e2, e3, e4⟩ | ⟨-, -, e1, e2, e3, e4⟩ | ⟨-, -, e1, e2, e3, e4⟩ | ⟨-, -, e1, e2, e3, e4⟩
    all_goals
      rw [e1] at hS
      rw [e2, e4] at HR
      clear e1 e2 e3 e4
      go_enter Try.func26, Try.ntmps26
      go_wp2_with (first
        | (go_at_call 57; refine (isModulus_any _ _).mono ?_; rintro e w1 ⟨rfl, rfl⟩)
        | (go_at_call 58; refine (isRight_any _ _).mono ?_; rintro e w1 ⟨rfl, rfl⟩))
      refine (hS _ (by omega) (by omega) (by omega)).mono ?_
      rintro e w1 ⟨rfl, hb1⟩
      go_wp2
      go_returns
      exact ⟨by rw [HR.out]; first | done | rfl, hb1⟩
  all_goals
    have HR := hide (show ivo a m = _ from if_neg (by simp [h1, h2]))
    go_enter Try.func26, Try.ntmps26
    go_wp2_with (first
      | (go_at_call 57; refine (isModulus_any _ _).mono ?_; rintro e w1 ⟨rfl, rfl⟩)
      | (go_at_call 58; refine (isRight_any _ _).mono ?_; rintro e w1 ⟨rfl, rfl⟩))
    go_returns
    exact ⟨by rw [HR.out]; first | done | rfl, Below.refl _ _⟩

theorem specInverseModulo_any (a m : Int) (w : World) :
    Calls Try.prog 25 #[.int .i64 a, .int .i64 m] w fun e w' => e = .returned (ivo a m) ∧ Below w.heap.size w w' := by
  rcases Bool.eq_false_or_eq_true (moB m) with h1 | h1 <;> rcases Bool.eq_false_or_eq_true (rtB a) with h2 | h2
  · have HR := hide (show ivo a m = _ from if_pos (by simp [h1, h2]))
    have hm := moB_iff.1 h1
    have ha := rtB_iff.1 h2
    have h2' : inB a (-1000000000) 1000000000 = true := h2
    have hS := specSolveModulo_any a 1 m
    rw [show smo a 1 m = _ from if_pos (by simp [h1, h2]; rfl)] at hS
    by_cases hc : smc a 1 m = 0
    · rw [sm_step hm.1 hc, hc] at hS
      rw [hc] at HR
      clear hc
      go_enter Try.func25, Try.ntmps25
      go_wp2_with (first
        | (go_at_call 55; refine (l21Modulus_any _ _).mono ?_; rintro e w1 ⟨rfl, rfl⟩)
        | (go_at_call 54; refine (l00In_any _ _ _ _).mono ?_; rintro e w1 ⟨rfl, rfl⟩))
      refine (hS _).mono ?_
      rintro e w1 ⟨rfl, hb1⟩
      go_wp2
      go_returns
      exact ⟨by rw [HR.out]; first | done | rfl, hb1⟩
    · have hc3 : smc a 1 m = 3 := by
        rcases sm_ways a 1 m with ⟨-, -, -, -, -, e3⟩ | ⟨-, -, -, -, -, e3⟩ | ⟨-, -, -, -, -, e3⟩ | ⟨-, -, -, -, -, e3⟩ <;> omega
      have hx : smx a 1 m = 0 := by
        rcases sm_ways a 1 m with ⟨-, -, -, e1, -, e3⟩ | ⟨-, -, -, e1, -, e3⟩ | ⟨-, -, -, e1, -, e3⟩ | ⟨-, -, -, e1, -, e3⟩ <;> omega
      rw [hc3, hx] at hS HR
      clear hc hc3 hx
      go_enter Try.func25, Try.ntmps25
      go_wp2_with (first
        | (go_at_call 55; refine (l21Modulus_any _ _).mono ?_; rintro e w1 ⟨rfl, rfl⟩)
        | (go_at_call 54; refine (l00In_any _ _ _ _).mono ?_; rintro e w1 ⟨rfl, rfl⟩))
      refine (hS _).mono ?_
      rintro e w1 ⟨rfl, hb1⟩
      go_wp2
      go_returns
      exact ⟨by rw [HR.out]; first | done | rfl, hb1⟩
  all_goals
    have HR := hide (show ivo a m = _ from if_neg (by simp [h1, h2]))
    unfold rtB at h2
    go_enter Try.func25, Try.ntmps25
    go_wp2_with (first
      | (go_at_call 55; refine (l21Modulus_any _ _).mono ?_; rintro e w1 ⟨rfl, rfl⟩)
      | (go_at_call 54; refine (l00In_any _ _ _ _).mono ?_; rintro e w1 ⟨rfl, rfl⟩))
    go_returns
    exact ⟨by rw [HR.out]; first | done | rfl, Below.refl _ _⟩

/-- What JoinRests yields. -/
def jro (r m s n : Int) : Value := if moB m && moB n && rtB r && rtB s then (if smc m (s - r % m) n = 0 then .tuple #[.int .i64 ((r % m + m * smx m (s - r % m) n) % (m * smu m (s - r % m) n)), .int .i64 (m * smu m (s - r % m) n), .int .i64 0] else .tuple #[.int .i64 0, .int .i64 0, .int .i64 3]) else .tuple #[.int .i64 0, .int .i64 0, .int .i64 2]

/-- The same from the reference's side. -/
theorem join_spec {r m s n : Int} (hn : 1 ≤ n) : (smc m ((s - r) % n) n = smc m (s - r % m) n) ∧ (smu m ((s - r) % n) n = smu m (s - r % m) n) ∧
    (smc m (s - r % m) n = 0 → (r + m * smx m ((s - r) % n) n) % (m * smu m (s - r % m) n) = (r % m + m * smx m (s - r % m) n) % (m * smu m (s - r % m) n)) ∧
    (smc m (s - r % m) n = 0 → m / (Int.gcd m n : Nat) * n = m * smu m (s - r % m) n) := by
  by_cases h0 : m % n = 0
  · obtain ⟨j1, j2, j3⟩ := join_zero (r := r) (s := s) (show 0 < n by omega) h0
    unfold smc smu smx
    simp only [if_pos h0]
    refine ⟨by simp only [j1], by simp only [j1], fun h => ?_, fun h => ?_⟩
    · by_cases hd : n ∣ s - r % m
      · rw [if_pos hd, Int.mul_one, Int.mul_zero, Int.add_zero, Int.add_zero, j3]
      · rw [if_neg hd] at h; omega
    · by_cases hd : n ∣ s - r % m
      · rw [if_pos hd, j2, Int.mul_one]
      · rw [if_neg hd] at h; omega
  · obtain ⟨j1, j2, j3⟩ := join_eq (r := r) (m := m) (s := s) (n := n) (by omega)
    unfold smc smu smx
    simp only [if_neg h0]
    refine ⟨by simp only [j1], by simp only [j1], fun h => ?_, fun h => ?_⟩
    · by_cases hd : ((Int.gcd (m % n) n : Nat) : Int) ∣ s - r % m
      · rw [if_pos hd, if_pos (j1.1 hd), if_pos hd, j2 hd]
      · rw [if_neg hd] at h; omega
    · by_cases hd : ((Int.gcd (m % n) n : Nat) : Int) ∣ s - r % m
      · rw [if_pos hd, j3]
      · rw [if_neg hd] at h; omega

theorem sm_bd {a c m : Int} (hm : 1 ≤ m ∧ m ≤ 1000000) : (0 ≤ smx a c m ∧ smx a c m ≤ 1000000) ∧ (0 ≤ smu a c m ∧ smu a c m ≤ 1000000) ∧ (smc a c m = 0 → 1 ≤ smu a c m) := by
  have hX := lx_bd (a := a % m) (b := m) (by omega) c
  have hU := lu_pos (a := a % m) (b := m) (by omega)
  have hsz : sz m = m := by unfold sz; rw [if_neg (by omega)]
  rcases sm_ways a c m with ⟨-, -, -, e1, e2, e3⟩ | ⟨-, -, -, e1, e2, e3⟩ | ⟨-, -, -, e1, e2, e3⟩ | ⟨-, -, -, e1, e2, e3⟩ <;> omega

/-- What the program's inner function yields, in one form. -/
theorem smv_eq (a c m : Int) : (smc a c m = 0 ∧ smv a c m = .tuple #[.int .i64 (smx a c m), .int .i64 (smu a c m), .bool true]) ∨ (smc a c m = 3 ∧ ∃ x u, smv a c m = .tuple #[.int .i64 x, .int .i64 u, .bool false]) := by
  rcases sm_ways a c m with ⟨-, -, e0, e1, e2, e3⟩ | ⟨-, -, e0, e1, e2, e3⟩ | ⟨-, -, e0, e1, e2, e3⟩ | ⟨-, -, e0, e1, e2, e3⟩
  · exact .inl ⟨e3, by rw [e0, e1, e2]⟩
  · exact .inr ⟨e3, _, _, e0⟩
  · exact .inl ⟨e3, by rw [e0, e1, e2]⟩
  · exact .inr ⟨e3, _, _, e0⟩

set_option maxHeartbeats 1000000 in
theorem implJoinRests_any (r m s n : Int) (w : World) :
    Calls Try.prog 28 #[.int .i64 r, .int .i64 m, .int .i64 s, .int .i64 n] w fun e w' => e = .returned (jro r m s n) ∧ Below w.heap.size w w' := by
  rcases Bool.eq_false_or_eq_true (moB m) with h1 | h1 <;> rcases Bool.eq_false_or_eq_true (moB n) with h2 | h2 <;> rcases Bool.eq_false_or_eq_true (rtB r) with h3 | h3 <;> rcases Bool.eq_false_or_eq_true (rtB s) with h4 | h4
  · have HR := hide (show jro r m s n = _ from if_pos (by simp [h1, h2, h3, h4]))
    have hm := moB_iff.1 h1
    have hn := moB_iff.1 h2
    have hr := rtB_iff.1 h3
    have hs := rtB_iff.1 h4
    have e2 := Int.emod_nonneg r (show m ≠ 0 by omega)
    have e3 := Int.emod_lt_of_pos r (show 0 < m by omega)
    have hF := floorMod_any r m
    have hS := solveModulo_any m (s - r % m) n
    obtain ⟨-, -, -, j4⟩ := join_spec (r := r) (m := m) (s := s) hn.1
    obtain ⟨b1, b2, b3⟩ := sm_bd (a := m) (c := s - r % m) hn
    rcases smv_eq m (s - r % m) n with ⟨hc, hv⟩ | ⟨hc, x, u, hv⟩
    · rw [hv] at hS
      rw [if_pos hc] at HR
      have j5 := j4 hc
      have b4 := b3 hc
      have hG := implGcd_any m n
      have hgp := gcd_pos (a := m) (show n ≠ 0 by omega)
      have q1 : m.tdiv (Int.gcd m n : Nat) = m / (Int.gcd m n : Nat) := Int.tdiv_eq_ediv_of_nonneg (by omega)
      have q2 : 0 ≤ m / (Int.gcd m n : Nat) ∧ m / (Int.gcd m n : Nat) ≤ m := ⟨Int.ediv_nonneg (by omega) (by omega), Int.ediv_le_self _ (by omega)⟩
      have p1 := mulb (x := m) (y := smx m (s - r % m) n) (A := 1000000) (B := 1000000) (by omega) (by omega)
      have p2 := mulb (x := m) (y := smu m (s - r % m) n) (A := 1000000) (B := 1000000) (by omega) (by omega)
      have p3 : 0 < m * smu m (s - r % m) n := Int.mul_pos (by omega) (by omega)
      clear hv hc j4 b3
      generalize hX : smx m (s - r % m) n = X at *
      generalize hU : smu m (s - r % m) n = U at *
      generalize hA : r % m = A at *
      generalize hgg : (Int.gcd m n : Nat) = g at *
      generalize hK : m / (g : Int) = K at *
      clear hX hU hA hgg hK
      obtain ⟨q, hq⟩ : ∃ q, m * X = q := ⟨_, rfl⟩
      obtain ⟨t, ht⟩ : ∃ t, m * U = t := ⟨_, rfl⟩
      rw [ht] at p2 p3 j5 HR
      rw [hq] at p1 HR
      have hgn : ¬ (g : Int) = 0 := by omega
      go_enter Try.func28, Try.ntmps28
      go_wp2_with (first
        | (go_at_call 57; refine (isModulus_any _ _).mono ?_; rintro e w1 ⟨rfl, rfl⟩)
        | (go_at_call 58; refine (isRight_any _ _).mono ?_; rintro e w1 ⟨rfl, rfl⟩))
      refine (hF _ (by omega) (by omega) (by omega) (by omega) (by omega)).mono ?_
      rintro e w1 ⟨rfl, rfl⟩
      go_wp2_with fail
      refine (hS _ (by omega) (by omega) (by omega)).mono ?_
      rintro e w1 ⟨rfl, hb1⟩
      go_wp2_with fail
      refine (hG _ (by omega) (by omega) (by omega) (by omega)).mono ?_
      rintro e w2 ⟨rfl, k, rfl⟩
      go_wp2_with fail
      refine (floorMod_any (A + q) t _ (by omega) (by omega) (by omega) (by omega) (by omega)).mono ?_
      rintro e w2 ⟨rfl, rfl⟩
      go_wp2
      go_returns
      exact ⟨by rw [HR.out]; first | done | rfl, belowN hb1 _⟩
    · rw [hv] at hS
      rw [if_neg (by omega)] at HR
      clear hv hc j4 b3
      generalize hA : r % m = A at *
      clear hA
      go_enter Try.func28, Try.ntmps28
      go_wp2_with (first
        | (go_at_call 57; refine (isModulus_any _ _).mono ?_; rintro e w1 ⟨rfl, rfl⟩)
        | (go_at_call 58; refine (isRight_any _ _).mono ?_; rintro e w1 ⟨rfl, rfl⟩))
      refine (hF _ (by omega) (by omega) (by omega) (by omega) (by omega)).mono ?_
      rintro e w1 ⟨rfl, rfl⟩
      go_wp2_with fail
      refine (hS _ (by omega) (by omega) (by omega)).mono ?_
      rintro e w1 ⟨rfl, hb1⟩
      go_wp2
      go_returns
      exact ⟨by rw [HR.out]; first | done | rfl, hb1⟩
  all_goals
    have HR := hide (show jro r m s n = _ from if_neg (by simp [h1, h2, h3, h4]))
    go_enter Try.func28, Try.ntmps28
    go_wp2_with (first
      | (go_at_call 57; refine (isModulus_any _ _).mono ?_; rintro e w1 ⟨rfl, rfl⟩)
      | (go_at_call 58; refine (isRight_any _ _).mono ?_; rintro e w1 ⟨rfl, rfl⟩))
    go_returns
    exact ⟨by rw [HR.out]; first | done | rfl, Below.refl _ _⟩

set_option maxHeartbeats 1000000 in
theorem specJoinRests_any (r m s n : Int) (w : World) :
    Calls Try.prog 27 #[.int .i64 r, .int .i64 m, .int .i64 s, .int .i64 n] w fun e w' => e = .returned (jro r m s n) ∧ Below w.heap.size w w' := by
  rcases Bool.eq_false_or_eq_true (moB m) with h1 | h1 <;> rcases Bool.eq_false_or_eq_true (moB n) with h2 | h2 <;> rcases Bool.eq_false_or_eq_true (rtB r) with h3 | h3 <;> rcases Bool.eq_false_or_eq_true (rtB s) with h4 | h4
  · have HR := hide (show jro r m s n = _ from if_pos (by simp [h1, h2, h3, h4]))
    have hm := moB_iff.1 h1
    have hn := moB_iff.1 h2
    have hr := rtB_iff.1 h3
    have hs := rtB_iff.1 h4
    have h3' : inB r (-1000000000) 1000000000 = true := h3
    have h4' : inB s (-1000000000) 1000000000 = true := h4
    have c2 := Int.emod_nonneg (s - r) (show n ≠ 0 by omega)
    have c3 := Int.emod_lt_of_pos (s - r) (show 0 < n by omega)
    have hS := specSolveModulo_any m ((s - r) % n) n
    have hrt : rtB m = true := rtB_iff.2 (by omega)
    have hrc : rtB ((s - r) % n) = true := rtB_iff.2 (by omega)
    rw [show smo m ((s - r) % n) n = _ from if_pos (by simp [h2, hrt, hrc])] at hS
    obtain ⟨j1, j2, j3, -⟩ := join_spec (r := r) (m := m) (s := s) hn.1
    obtain ⟨b1, -, -⟩ := sm_bd (a := m) (c := (s - r) % n) hn
    obtain ⟨-, b2, b3⟩ := sm_bd (a := m) (c := s - r % m) hn
    rw [j1, j2] at hS
    clear hrt hrc j1 j2
    by_cases hc : smc m (s - r % m) n = 0
    · rw [hc] at hS
      rw [if_pos hc, ← j3 hc] at HR
      have b4 := b3 hc
      have p1 := mulb (x := m) (y := smx m ((s - r) % n) n) (A := 1000000) (B := 1000000) (by omega) (by omega)
      have p2 := mulb (x := m) (y := smu m (s - r % m) n) (A := 1000000) (B := 1000000) (by omega) (by omega)
      have p3 : 0 < m * smu m (s - r % m) n := Int.mul_pos (by omega) (by omega)
      clear hc j3 b3
      generalize hX : smx m ((s - r) % n) n = X at *
      generalize hU : smu m (s - r % m) n = U at *
      generalize hA : (s - r) % n = A at *
      have HA := hide hA
      clear hX hU hA
      obtain ⟨q, hq⟩ : ∃ q, m * X = q := ⟨_, rfl⟩
      obtain ⟨t, ht⟩ : ∃ t, m * U = t := ⟨_, rfl⟩
      rw [ht] at p2 p3 HR
      rw [hq] at p1 HR
      go_enter Try.func27, Try.ntmps27
      go_wp2_with (first
        | (go_at_call 55; refine (l21Modulus_any _ _).mono ?_; rintro e w1 ⟨rfl, rfl⟩)
        | (go_at_call 54; refine (l00In_any _ _ _ _).mono ?_; rintro e w1 ⟨rfl, rfl⟩))
      refine (specMod_any _ _ _ (by omega) (by omega)).mono ?_
      rintro e w1 ⟨rfl, rfl⟩
      rw [HA.out]
      go_wp2_with fail
      refine (hS _).mono ?_
      rintro e w1 ⟨rfl, hb1⟩
      go_wp2_with fail
      refine (specMod_any _ _ _ (by omega) (by omega)).mono ?_
      rintro e w2 ⟨rfl, rfl⟩
      go_wp2
      go_returns
      exact ⟨by rw [HR.out]; first | done | rfl, hb1⟩
    · have hc3 : smc m (s - r % m) n = 3 := by
        rcases smv_eq m (s - r % m) n with ⟨h, -⟩ | ⟨h, -⟩ <;> omega
      rw [hc3] at hS
      rw [if_neg hc] at HR
      clear hc hc3 j3 b3
      generalize hA : (s - r) % n = A at *
      have HA := hide hA
      clear hA
      go_enter Try.func27, Try.ntmps27
      go_wp2_with (first
        | (go_at_call 55; refine (l21Modulus_any _ _).mono ?_; rintro e w1 ⟨rfl, rfl⟩)
        | (go_at_call 54; refine (l00In_any _ _ _ _).mono ?_; rintro e w1 ⟨rfl, rfl⟩))
      refine (specMod_any _ _ _ (by omega) (by omega)).mono ?_
      rintro e w1 ⟨rfl, rfl⟩
      rw [HA.out]
      go_wp2_with fail
      refine (hS _).mono ?_
      rintro e w1 ⟨rfl, hb1⟩
      go_wp2
      go_returns
      exact ⟨by rw [HR.out]; first | done | rfl, hb1⟩
  all_goals
    have HR := hide (show jro r m s n = _ from if_neg (by simp [h1, h2, h3, h4]))
    unfold rtB at h3 h4
    go_enter Try.func27, Try.ntmps27
    go_wp2_with (first
      | (go_at_call 55; refine (l21Modulus_any _ _).mono ?_; rintro e w1 ⟨rfl, rfl⟩)
      | (go_at_call 54; refine (l00In_any _ _ _ _).mono ?_; rintro e w1 ⟨rfl, rfl⟩))
    go_returns
    exact ⟨by rw [HR.out]; first | done | rfl, Below.refl _ _⟩

theorem law_SolveModulo (a c m : Int) (w : World) :
    Calls Try.prog 8 #[.int .i64 a, .int .i64 c, .int .i64 m] w fun e w' => e = .returned (.bool true) ∧ Below w.heap.size w w' := by
  have hs := specSolveModulo_any a c m
  have hi := implSolveModulo_any a c m
  obtain ⟨v, hv⟩ : ∃ v, smo a c m = v := ⟨_, rfl⟩
  rw [hv] at hs hi
  have hv : (∃ x1 x2 x3, v = .tuple #[.int .i64 x1, .int .i64 x2, .int .i64 x3]) := by
    unfold smo at hv; split at hv <;> exact ⟨_, _, _, hv.symm⟩
  rcases hv with ⟨x1, x2, x3, rfl⟩
  all_goals
    go_enter Try.func8, Try.ntmps8
    go_wp2_with fail
    refine (hs _).mono ?_
    rintro e w1 ⟨rfl, hb1⟩
    go_wp2_with fail
    refine (hi _).mono ?_
    rintro e w2 ⟨rfl, hb2⟩
    go_wp2
    go_ret
    exact ⟨rfl, bstep hb1 hb2 hb1.size⟩

theorem law_InverseModulo (a m : Int) (w : World) :
    Calls Try.prog 9 #[.int .i64 a, .int .i64 m] w fun e w' => e = .returned (.bool true) ∧ Below w.heap.size w w' := by
  have hs := specInverseModulo_any a m
  have hi := implInverseModulo_any a m
  obtain ⟨v, hv⟩ : ∃ v, ivo a m = v := ⟨_, rfl⟩
  rw [hv] at hs hi
  have hv : (∃ x1 x2, v = .tuple #[.int .i64 x1, .int .i64 x2]) := by
    unfold ivo at hv; split at hv <;> exact ⟨_, _, hv.symm⟩
  rcases hv with ⟨x1, x2, rfl⟩
  all_goals
    go_enter Try.func9, Try.ntmps9
    go_wp2_with fail
    refine (hs _).mono ?_
    rintro e w1 ⟨rfl, hb1⟩
    go_wp2_with fail
    refine (hi _).mono ?_
    rintro e w2 ⟨rfl, hb2⟩
    go_wp2
    go_ret
    exact ⟨rfl, bstep hb1 hb2 hb1.size⟩

theorem law_JoinRests (r m s n : Int) (w : World) :
    Calls Try.prog 10 #[.int .i64 r, .int .i64 m, .int .i64 s, .int .i64 n] w fun e w' => e = .returned (.bool true) ∧ Below w.heap.size w w' := by
  have hs := specJoinRests_any r m s n
  have hi := implJoinRests_any r m s n
  obtain ⟨v, hv⟩ : ∃ v, jro r m s n = v := ⟨_, rfl⟩
  rw [hv] at hs hi
  have hv : (∃ x1 x2 x3, v = .tuple #[.int .i64 x1, .int .i64 x2, .int .i64 x3]) := by
    unfold jro at hv; split at hv <;> (try split at hv) <;> exact ⟨_, _, _, hv.symm⟩
  rcases hv with ⟨x1, x2, x3, rfl⟩
  all_goals
    go_enter Try.func10, Try.ntmps10
    go_wp2_with fail
    refine (hs _).mono ?_
    rintro e w1 ⟨rfl, hb1⟩
    go_wp2_with fail
    refine (hi _).mono ?_
    rintro e w2 ⟨rfl, hb2⟩
    go_wp2
    go_ret
    exact ⟨rfl, bstep hb1 hb2 hb1.size⟩

end Go.Proofs.Ytpganaeomiondaa
