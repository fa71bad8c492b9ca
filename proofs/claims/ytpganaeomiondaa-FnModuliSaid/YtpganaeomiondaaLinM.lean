/- What the law on moduli asks, case by case. -/
import Derived.Test.YtpganaeomiondaaLinH
import Derived.Test.YtpganaeomiondaaLinD2
namespace Go.Proofs.Ytpganaeomiondaa
open Go.RowKit

theorem smo_facts (a c m : Int) : ∃ x st cd, smo a c m = .tuple #[.int .i64 x, .int .i64 st, .int .i64 cd] ∧
    (cd = 0 → ∃ t p, a.tmod m = t ∧ t * x = p ∧ (p - c).tmod m = 0 ∧ 0 ≤ x ∧ x < st ∧ (1 ≤ m ∧ m ≤ 1000000) ∧ (-1000000 ≤ t ∧ t ≤ 1000000) ∧ (-1000000000000 ≤ p ∧ p ≤ 1000000000000) ∧ (-1000000000 ≤ c ∧ c ≤ 1000000000)) := by
  unfold smo
  by_cases h : (moB m && rtB a && rtB c) = true
  · rw [if_pos h]
    simp only [Bool.and_eq_true] at h
    have hm := moB_iff.1 h.1.1
    have hc := rtB_iff.1 h.2
    refine ⟨_, _, _, rfl, fun h0 => ⟨_, _, rfl, rfl, ?_⟩⟩
    obtain ⟨s1, s2, s3⟩ := sm_solves hm.1 h0
    have hb := sm_bd (a := a) (c := c) hm
    have t1 := Int.lt_tmod_of_pos a (show 0 < m by omega)
    have t2 := Int.tmod_lt_of_pos a (show 0 < m by omega)
    have hp := mulb (x := a.tmod m) (y := smx a c m) (A := 1000000) (B := 1000000) (by omega) (by omega)
    exact ⟨sm_tmod s1, s2, s3, hm, by omega, by omega, hc⟩
  · rw [if_neg h]
    exact ⟨_, _, _, rfl, fun h0 => by omega⟩

theorem ivo_facts (a m : Int) : ∃ x cd, ivo a m = .tuple #[.int .i64 x, .int .i64 cd] ∧
    (cd = 0 → ∃ t p, a.tmod m = t ∧ t * x = p ∧ (p - 1).tmod m = 0 ∧ (1 ≤ m ∧ m ≤ 1000000) ∧ (-1000000 ≤ t ∧ t ≤ 1000000) ∧ (-1000000000000 ≤ p ∧ p ≤ 1000000000000)) := by
  unfold ivo
  by_cases h : (moB m && rtB a) = true
  · rw [if_pos h]
    simp only [Bool.and_eq_true] at h
    have hm := moB_iff.1 h.1
    refine ⟨_, _, rfl, fun h0 => ⟨_, _, rfl, rfl, ?_⟩⟩
    obtain ⟨s1, s2, s3⟩ := sm_solves hm.1 h0
    have hb := sm_bd (a := a) (c := 1) hm
    have t1 := Int.lt_tmod_of_pos a (show 0 < m by omega)
    have t2 := Int.tmod_lt_of_pos a (show 0 < m by omega)
    have hp := mulb (x := a.tmod m) (y := smx a 1 m) (A := 1000000) (B := 1000000) (by omega) (by omega)
    exact ⟨sm_tmod s1, hm, by omega, by omega⟩
  · rw [if_neg h]
    exact ⟨_, _, rfl, fun h0 => by omega⟩

theorem jro_facts (r m s n : Int) : ∃ z al cd, jro r m s n = .tuple #[.int .i64 z, .int .i64 al, .int .i64 cd] ∧
    (cd = 0 → (z - r).tmod m = 0 ∧ (z - s).tmod n = 0 ∧ 0 ≤ z ∧ z < al ∧ (1 ≤ m ∧ m ≤ 1000000) ∧ (1 ≤ n ∧ n ≤ 1000000) ∧ z ≤ 1000000000000 ∧ (-1000000000 ≤ r ∧ r ≤ 1000000000) ∧ (-1000000000 ≤ s ∧ s ≤ 1000000000)) := by
  unfold jro
  by_cases h : (moB m && moB n && rtB r && rtB s) = true
  · rw [if_pos h]
    simp only [Bool.and_eq_true] at h
    have hm := moB_iff.1 h.1.1.1
    have hn := moB_iff.1 h.1.1.2
    have hr := rtB_iff.1 h.1.2
    have hs := rtB_iff.1 h.2
    by_cases h0 : smc m (s - r % m) n = 0
    · rw [if_pos h0]
      refine ⟨_, _, _, rfl, fun _ => ?_⟩
      obtain ⟨d1, d2, d3, d4⟩ := join_solves hm.1 hn.1 h0
      have hb := sm_bd (a := m) (c := s - r % m) hn
      have hp := mulb (x := m) (y := smu m (s - r % m) n) (A := 1000000) (B := 1000000) (by omega) (by omega)
      exact ⟨tmod_dvd.2 d1, tmod_dvd.2 d2, d3, d4, hm, hn, by omega, hr, hs⟩
    · rw [if_neg h0]
      exact ⟨_, _, _, rfl, fun h0 => by omega⟩
  · rw [if_neg h]
    exact ⟨_, _, _, rfl, fun h0 => by omega⟩

theorem grm_facts (d e : Int) (h : grmC d e = 0) (hm : grm d e ≤ 1000000) : cno d e (grm d e) = .tuple #[.int .i64 0, .int .i64 0] ∧ (∃ s, 0 < s ∧ cno d e (grm d e + 1) = .tuple #[.int .i64 s, .int .i64 0]) ∧ 0 ≤ grm d e := by
  by_cases hz : miss d e = 0
  · by_cases h1 : d = 1 ∨ e = 1
    · unfold grmC at h; rw [if_pos hz, if_pos h1] at h; omega
    · have hg : grm d e = d * e - d - e := by unfold grm; rw [if_pos hz, if_neg h1]
      obtain ⟨a1, a2, b1, b2⟩ := miss_ok hz
      have hgc : Int.gcd d e = 1 := by
        rcases miss_ways d e with ⟨_, e1⟩ | ⟨_, _, e1⟩ | ⟨_, _, _, e1⟩ | ⟨_, _, _, _, e1⟩ | ⟨_, _, _, _, _, _, _, e1⟩ | ⟨_, _, _, _, _, _, h7, e1⟩
        all_goals first | omega | exact h7
      have hf := frob (d := d) (e := e) (by omega) (by omega) hgc
      have hp : 0 ≤ (d - 1) * (e - 1) - 1 := by
        have : (1 : Int) * 1 ≤ (d - 1) * (e - 1) := Int.mul_le_mul (by omega) (by omega) (by omega) (by omega)
        omega
      have hq : (d - 1) * (e - 1) - 1 = d * e - d - e := by rw [Int.sub_mul, Int.mul_sub]; omega
      rw [hq] at hp
      rw [hg] at hm ⊢
      have hdv : ∀ c : Int, ((Int.gcd d e : Nat) : Int) ∣ c := fun c => by rw [hgc]; exact ⟨c, by simp⟩
      have n1 : naB d e (d * e - d - e) = true := naB_iff.2 (by omega)
      have n2 : naB d e (d * e - d - e + 1) = true := naB_iff.2 (by omega)
      refine ⟨?_, ⟨lcnt d e (d * e - d - e + 1), ?_, ?_⟩, hp⟩
      · unfold cno; rw [if_pos n1]
        rw [show lcnt d e (d * e - d - e) = 0 from if_neg (by omega)]
      · rw [show lcnt d e (d * e - d - e + 1) = _ from if_pos ⟨hdv _, hf.2⟩]
        have : 0 ≤ ly d e (d * e - d - e + 1) / (d / (Int.gcd d e : Nat)) := Int.ediv_nonneg hf.2 (Int.ediv_nonneg (by omega) (by omega))
        omega
      · unfold cno; rw [if_pos n2]
  · unfold grmC at h; rw [if_neg hz] at h; exact absurd h hz

theorem f6big_any (A : Option Addr) (n c : Nat) (w : World) (hn : n ≤ 9223372036854775807) :
    Calls Try.prog 34 #[.slice A n c] w fun e w' => e = .returned (.bool (decide (4096 < n))) ∧ w = w' := by
  go_enter Try.func34, Try.ntmps34
  go_wp2
  go_ret
  exact ⟨by simp; omega, rfl⟩

theorem bchain {w w1 w2 : World} (h : Below w.heap.size w w1) (h2 : Below w1.heap.size w1 w2) : Below w.heap.size w w2 := bstep h h2 h.size

end Go.Proofs.Ytpganaeomiondaa
