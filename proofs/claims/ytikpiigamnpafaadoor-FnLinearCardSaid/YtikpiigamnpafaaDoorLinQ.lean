/- What the law on linear equations asks, case by case. -/
import Derived.Test.YtikpiigamnpafaaDoorNat
import Derived.Test.YtikpiigamnpafaaDoorLin3
namespace Go.Proofs.YtikpiigamnpafaaDoor
open Go.RowKit

theorem eq2 {a b c x y u v t : Int} (h1 : b * y = c - a * x) (h2 : -a * u = b * v) (ht : a * u = t) : a * x + b * y = c ∧ a * (x + u) = a * x + t ∧ b * (y + v) = b * y - t := by
  rw [Int.mul_add, Int.mul_add, ← h2, h1, ← ht, Int.neg_mul]
  refine ⟨by omega, rfl, by omega⟩

/-- The drawn equation: its solution and the divisor's combination. -/
theorem slo_facts (a b c : Int) : ∃ x y u v bad d e g one, slo a b c = .tuple #[.int .i64 x, .int .i64 y, .int .i64 u, .int .i64 v, .int .i64 bad] ∧ bzo a b = .tuple #[.int .i64 d, .int .i64 e, .int .i64 g, .int .i64 one] ∧
    ((¬ one = 0) ∨ (one = 0 ∧ ∃ p q, a * d = p ∧ b * e = q ∧ p + q = g ∧ (-2000000000000000 ≤ p ∧ p ≤ 2000000000000000) ∧ (-2000000000000000 ≤ q ∧ q ≤ 2000000000000000))) ∧
    (bad = 2 ∨ (bad = 3 ∧ ¬ g = 0 ∧ ∃ t, c.tmod g = t ∧ ¬ t = 0 ∧ (-1000000000 ≤ t ∧ t ≤ 1000000000)) ∨
      (bad = 0 ∧ ∃ p q r s, a * x = p ∧ b * y = q ∧ a * (x + u) = r ∧ b * (y + v) = s ∧ p + q = c ∧ r + s = c ∧ (0 ≤ x ∧ x < u ∧ u ≤ 1000000) ∧ (-2000000000000 ≤ y ∧ y ≤ 2000000000000) ∧ (-1000000 ≤ v ∧ v ≤ 1000000) ∧
        (-4000000000000 ≤ p ∧ p ≤ 4000000000000) ∧ (-4000000000000 ≤ q ∧ q ≤ 4000000000000) ∧ (-4000000000000 ≤ r ∧ r ≤ 4000000000000) ∧ (-4000000000000 ≤ s ∧ s ≤ 4000000000000))) := by
  have hB : ∀ hc : (cfB a && cfB b) = true, (∃ p q, a * bzX a b = p ∧ b * bzY a b = q ∧ p + q = ((Int.gcd a b : Nat) : Int) ∧ (-2000000000000000 ≤ p ∧ p ≤ 2000000000000000) ∧ (-2000000000000000 ≤ q ∧ q ≤ 2000000000000000)) := by
    intro hc
    obtain ⟨h1, h2⟩ := Bool.and_eq_true_iff.1 hc
    have k1 := cfB_iff.1 h1
    have k2 := cfB_iff.1 h2
    have e := bz_main (a := a) k2.2
    have hx := bzX_bd (b := b) k1.2 (by omega)
    have p1 := mulb (x := a) (y := bzX a b) (A := 1000000) (B := 1000000000) (by omega) (by omega)
    have hg := ediv_bd (n := b) (m := 1) (by omega) 1000000 k2.1
    have hgl : ((Int.gcd a b : Nat) : Int) ≤ 1000000 := by
      have := Int.gcd_le_natAbs_right a k2.2
      omega
    exact ⟨_, _, rfl, rfl, e, by omega, by omega⟩
  by_cases hl : liB a b c = true
  · obtain ⟨⟨ha, ha0⟩, ⟨hb, hb0⟩, hc⟩ := liB_iff.1 hl
    have hcf : (cfB a && cfB b) = true := by
      unfold liB at hl
      exact (Bool.and_eq_true_iff.1 hl).1
    have hg := gcd_pos (a := a) hb0
    by_cases hd : ((Int.gcd a b : Nat) : Int) ∣ c
    · obtain ⟨-, -, -, -, f5, -, -, f8, f9, -, f11, f12, f13, f14⟩ := sol_facts ha0 ha hb0 hb (by omega) hd
      have e1 := ly_main (a := a) hb0 hd
      have e2 := lv_main (a := a) (b := b) hb0
      obtain ⟨q1, q2, q3⟩ := eq2 (v := lv a b) e1 e2 rfl
      rw [Int.neg_mul] at f12
      refine ⟨_, _, _, _, _, _, _, _, _, by unfold slo; rw [if_pos hl, if_pos hd], by unfold bzo; rw [if_pos hcf], .inr ⟨rfl, hB hcf⟩, .inr (.inr ⟨rfl, _, _, _, _, rfl, rfl, rfl, rfl, q1, by omega, by omega, by omega, f14, by omega, by omega, by omega, by omega⟩)⟩
    · refine ⟨_, _, _, _, _, _, _, _, _, by unfold slo; rw [if_pos hl, if_neg hd], by unfold bzo; rw [if_pos hcf], .inr ⟨rfl, hB hcf⟩, .inr (.inl ⟨rfl, by omega, _, rfl, fun h => hd (tmod_dvd.1 h), ?_⟩)⟩
      have h1 := Int.natAbs_tmod c ((Int.gcd a b : Nat) : Int)
      have h2 := Nat.mod_le c.natAbs ((Int.gcd a b : Nat) : Int).natAbs
      omega
  · by_cases hcf : (cfB a && cfB b) = true
    · exact ⟨_, _, _, _, _, _, _, _, _, by unfold slo; rw [if_neg hl], by unfold bzo; rw [if_pos hcf], .inr ⟨rfl, hB hcf⟩, .inl rfl⟩
    · exact ⟨_, _, _, _, _, _, _, _, _, by unfold slo; rw [if_neg hl], by unfold bzo; rw [if_neg hcf], .inl (by omega), .inl rfl⟩

theorem sol_alg {a b c X U k Y V : Int} (h1 : b * Y = c - a * X) (h2 : -a * U = b * V) : a * (X + k * U) + b * (Y + k * V) = c := by grind
/-- The drawn solutions that are not negative. -/
theorem ns_facts (k l m : Int) : ∃ n s, cno k l m = .tuple #[.int .i64 n, .int .i64 s] ∧ ((¬ nsc k l m = 0) ∨ (nsc k l m = 0 ∧ n = (nsx k l m).length ∧ (nsx k l m).length ≤ 1000 ∧ ∀ i (h : i < (nsx k l m).length), ∃ p q, k * ((nsx k l m)[i]).1 = p ∧ l * ((nsx k l m)[i]).2 = q ∧ p + q = m ∧ 0 ≤ ((nsx k l m)[i]).1 ∧ 0 ≤ ((nsx k l m)[i]).2 ∧ (0 ≤ p ∧ p ≤ 1001000000000000) ∧ (-1002000000000000 ≤ q ∧ q ≤ 1002000000000000))) := by
  by_cases hna : naB k l m = true
  · refine ⟨_, _, by unfold cno; rw [if_pos hna], ?_⟩
    by_cases hf : 1000 < lcnt k l m
    · obtain ⟨e1, e2⟩ := nsx_full hna hf
      exact .inl (by omega)
    · obtain ⟨e1, e2⟩ := nsx_ok hna hf
      obtain ⟨ha, hb, hc⟩ := naB_iff.1 hna
      have hN0 : 0 ≤ lcnt k l m := by
        unfold lcnt
        split
        · rename_i h
          have := (nat_facts ha hb h.1).2.1
          have := Int.ediv_nonneg h.2 (show 0 ≤ k / ((Int.gcd k l : Nat) : Int) by omega)
          omega
        · omega
      refine .inr ⟨e1, by rw [e2, nsk_len]; omega, by rw [e2, nsk_len]; omega, ?_⟩
      rw [e2]
      intro i hi
      rw [nsk_len] at hi
      have hd : ((Int.gcd k l : Nat) : Int) ∣ m ∧ 0 ≤ ly k l m := by
        unfold lcnt at hi
        split at hi
        · assumption
        · simp at hi
      obtain ⟨g1, g2, g3, g4, g5, -⟩ := ns_step (k := i) ha hb hc hd.1 (by omega)
      have e3 := ly_main (a := k) (b := l) (c := m) (by omega) hd.1
      have e4 := lv_main (a := k) (b := l) (by omega)
      have e5 := sol_alg (k := (i : Int)) e3 (V := lv k l) e4
      obtain ⟨n1, n2, -⟩ := nat_facts ha hb hd.1
      have hq : 0 ≤ ly k l m + i * lv k l := by
        have h1 : (i : Int) ≤ ly k l m / (k / (Int.gcd k l : Nat)) := by
          unfold lcnt at hi
          rw [if_pos hd] at hi
          omega
        have h2 := (Int.le_ediv_iff_mul_le (by omega)).1 h1
        rw [n1, Int.mul_neg]
        omega
      have hget : (nsk k l m (lcnt k l m).toNat)[i]'(by rw [nsk_len]; exact hi) = nsf k l m i := by simp [nsk]
      rw [hget]
      exact ⟨_, _, rfl, rfl, e5, by simp only [nsf]; omega, hq, g5, by simp only [nsf] at e5 ⊢; omega⟩
  · have hna' : naB k l m = false := by simpa using hna
    obtain ⟨e1, e2⟩ := nsx_no hna'
    exact ⟨_, _, by unfold cno; rw [if_neg hna], .inl (by omega)⟩

end Go.Proofs.YtikpiigamnpafaaDoor
