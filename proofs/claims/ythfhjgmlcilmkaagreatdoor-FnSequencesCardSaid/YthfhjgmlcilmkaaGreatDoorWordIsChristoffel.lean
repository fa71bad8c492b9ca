/- IsChristoffel: the program's and the reference's, and the law. -/
import Derived.Test.YthfhjgmlcilmkaaGreatDoorWordS
import Derived.Test.YthfhjgmlcilmkaaGreatDoorWordC
namespace Go.Proofs.YthfhjgmlcilmkaaGreatDoor
open Go.RowKit

def isC (l : List UInt8) : Bool := okW l && decide (0 < ones l ∧ 0 < zeros l ∧ Nat.gcd (ones l) (zeros l) = 1 ∧ chr (ones l) (zeros l) = l)
theorem isC_no {l : List UInt8} (h : ¬ (0 < ones l ∧ 0 < zeros l ∧ Nat.gcd (ones l) (zeros l) = 1 ∧ chr (ones l) (zeros l) = l)) : isC l = false := by
  unfold isC; rw [decide_eq_false h, Bool.and_false]
theorem isC_bad {l : List UInt8} (h : okW l = false) : isC l = false := by unfold isC; rw [h, Bool.false_and]
theorem sum_one {o z g a b : Nat} (ho : o = g * a) (hz : z = g * b) (hs : a + b = o + z) (h0 : 0 < o + z) : g = 1 := by
  have h1 : a + b = g * (a + b) := by rw [Nat.mul_add, ← ho, ← hz]; exact hs
  have h2 : 0 < a + b := by omega
  have h3 : 1 * (a + b) = g * (a + b) := by omega
  exact (Nat.eq_of_mul_eq_mul_right h2 h3).symm

theorem quots (o z : Nat) (hz : z ≠ 0) : ∃ a b : Nat, o = Nat.gcd o z * a ∧ z = Nat.gcd o z * b ∧ (o : Int) / (Int.gcd o z : Nat) = a ∧ (z : Int) / (Int.gcd o z : Nat) = b := by
  have hg0 : 0 < Nat.gcd o z := Nat.gcd_pos_of_pos_right _ (by omega)
  obtain ⟨a, ea⟩ := Nat.gcd_dvd_left o z
  obtain ⟨b, eb⟩ := Nat.gcd_dvd_right o z
  refine ⟨a, b, ea, eb, ?_, ?_⟩
  · show (o : Int) / ((Nat.gcd o z : Nat) : Int) = a
    have h : (o : Int) = (Nat.gcd o z : Int) * a := by exact_mod_cast ea
    rw [congrArg (· / ((Nat.gcd o z : Nat) : Int)) h]
    exact Int.mul_ediv_cancel_left _ (by omega)
  · show (z : Int) / ((Nat.gcd o z : Nat) : Int) = b
    have h : (z : Int) = (Nat.gcd o z : Int) * b := by exact_mod_cast eb
    rw [congrArg (· / ((Nat.gcd o z : Nat) : Int)) h]
    exact Int.mul_ediv_cancel_left _ (by omega)

set_option maxRecDepth 100000 in
set_option maxHeartbeats 1000000 in
theorem implIsChristoffel_any (s : ByteArray) (w : World) (hs : s.size ≤ 9223372036854775807) :
    Calls Tryz.prog 15 #[.string s] w fun e w' => e = .returned (.bool (isC s.data.toList)) ∧ Below w.heap.size w w' := by
  have hlen : s.data.toList.length = s.size := by simp
  have hS := slopeOf_any s
  by_cases ho : okW s.data.toList = true
  · obtain ⟨_, k1, k2⟩ := okW_all ho
    rw [hlen] at k1 k2
    have hle := ones_le s.data.toList
    have hz : zeros s.data.toList = s.data.toList.length - ones s.data.toList := rfl
    rw [hlen] at hle hz
    obtain ⟨o, hoo⟩ : ∃ o, ones s.data.toList = o := ⟨_, rfl⟩
    obtain ⟨z, hzz⟩ : ∃ z, zeros s.data.toList = z := ⟨_, rfl⟩
    have hyes : (0 < o ∧ 0 < z ∧ Nat.gcd o z = 1 ∧ chr o z = s.data.toList) → isC s.data.toList = true := fun h => by unfold isC; rw [ho, hoo, hzz, Bool.true_and]; exact decide_eq_true h
    have hno : ¬ (0 < o ∧ 0 < z ∧ Nat.gcd o z = 1 ∧ chr o z = s.data.toList) → isC s.data.toList = false := fun h => by unfold isC; rw [hoo, hzz, decide_eq_false h, Bool.and_false]
    rw [hoo] at hle hz
    rw [hzz] at hz
    by_cases h1 : z = 0
    · have HR := hide (hno (fun h => by omega))
      have e : slp s.data.toList = .tuple #[.agg #[.int .i64 0, .int .i64 0], .int .i64 6] := by unfold slp; rw [if_pos ho, hzz, if_pos h1]
      rw [e] at hS
      clear e hyes hno hoo hzz hz ho hlen hle
      go_enter Tryz.func15, Tryz.ntmps15
      go_wp2_with fail
      refine (hS _ hs).mono ?_
      rintro e w1 ⟨rfl, hb⟩
      go_wp2_with fail
      go_ret
      exact ⟨by rw [HR.out]; rfl, hb.alloc hb.size _⟩
    · have e : slp s.data.toList = .tuple #[.agg #[.int .i64 ((o : Int) / (Int.gcd o z : Nat)), .int .i64 ((z : Int) / (Int.gcd o z : Nat))], .int .i64 0] := by unfold slp; rw [if_pos ho, hzz, hoo, if_neg h1]
      rw [e] at hS
      obtain ⟨a, b, ea, eb, qa, qb⟩ := quots o z h1
      rw [qa, qb] at hS
      have hg0 : 0 < Nat.gcd o z := Nat.gcd_pos_of_pos_right _ (by omega)
      have ha2 : a ≤ o := by rw [ea]; exact Nat.le_mul_of_pos_left _ hg0
      have hb2 : b ≤ z := by rw [eb]; exact Nat.le_mul_of_pos_left _ hg0
      have hap : 0 < o → 0 < a := fun h => by
        rcases Nat.eq_zero_or_pos a with h3 | h3
        · rw [h3, Nat.mul_zero] at ea; omega
        · exact h3
      have hone : a + b = o + z → Nat.gcd o z = 1 := fun h => sum_one ea eb h (by omega)
      have hg1 : Nat.gcd o z = 1 → a = o ∧ b = z := fun h => by rw [h, Nat.one_mul] at ea eb; exact ⟨ea.symm, eb.symm⟩
      clear qa qb e
      by_cases h0 : 0 < o
      · have d1 : decide (0 < (a : Int)) = true := decide_eq_true (by have := hap h0; omega)
        by_cases hg : Nat.gcd o z = 1
        · obtain ⟨rfl, rfl⟩ := hg1 hg
          have d2 : (((a : Int) + b) == s.size) = true := beq_iff_eq.2 (by omega)
          have hW := wordOf_any a b
          have e3 : wrd a b = chr a b := by unfold wrd; rw [if_neg (by omega)]
          rw [e3] at hW
          by_cases hw : chr a b = s.data.toList
          · have HR := hide (hyes ⟨h0, by omega, hg, hw⟩)
            have e2 : str (chr a b) = .string s := by rw [hw]; rfl
            rw [e2] at hW
            have hp : 0 < a + b ∧ a + b ≤ 400 := by omega
            clear hyes hno hw e2 hoo hzz ho hlen ea eb hg0 hone hg1 hap e3 hg hz ha2 hb2 hle
            go_enter Tryz.func15, Tryz.ntmps15
            go_wp2_with fail
            refine (hS _ hs).mono ?_
            rintro e w1 ⟨rfl, hb⟩
            have hB := hb.alloc hb.size (.cells #[.int .i64 a, .int .i64 b] 25)
            go_wp2_with fail
            refine (hW _ (by omega) (by omega)).mono ?_
            rintro e w2 ⟨rfl, hb3⟩
            have hB3 := bstep hB hb3 hB.size
            go_wp2_with fail
            go_ret
            exact ⟨by rw [HR.out]; rfl, hB3⟩
          · have HR := hide (hno (fun h => hw h.2.2.2))
            have b1 : ((⟨(chr a b).toArray⟩ : ByteArray).toList == s.toList) = false := by rw [Lib.toList_data, Lib.toList_data]; simpa using hw
            have e2 : str (chr a b) = .string ⟨(chr a b).toArray⟩ := rfl
            rw [e2] at hW
            have hp : 0 < a + b ∧ a + b ≤ 400 := by omega
            clear hyes hno hw e2 hoo hzz ho hlen ea eb hg0 hone hg1 hap e3 hg hz ha2 hb2 hle
            generalize (⟨(chr a b).toArray⟩ : ByteArray) = t at *
            go_enter Tryz.func15, Tryz.ntmps15
            go_wp2_with fail
            refine (hS _ hs).mono ?_
            rintro e w1 ⟨rfl, hb⟩
            have hB := hb.alloc hb.size (.cells #[.int .i64 a, .int .i64 b] 25)
            go_wp2_with fail
            refine (hW _ (by omega) (by omega)).mono ?_
            rintro e w2 ⟨rfl, hb3⟩
            have hB3 := bstep hB hb3 hB.size
            go_wp2_with fail
            go_ret
            exact ⟨by rw [HR.out]; rfl, hB3⟩
        · have HR := hide (hno (fun h => hg h.2.2.1))
          have d2 : (((a : Int) + b) == s.size) = false := beq_eq_false_iff_ne.2 (fun h => hg (hone (by omega)))
          have hp : a ≤ 400 ∧ b ≤ 400 := by omega
          have hap2 := hap h0
          clear hyes hno hoo hzz ho hlen ea eb hg0 hone hg1 hap hg hz hle ha2 hb2
          go_enter Tryz.func15, Tryz.ntmps15
          go_wp2_with fail
          refine (hS _ hs).mono ?_
          rintro e w1 ⟨rfl, hb⟩
          have hB := hb.alloc hb.size (.cells #[.int .i64 a, .int .i64 b] 25)
          go_wp2_with fail
          go_ret
          exact ⟨by rw [HR.out]; rfl, hB⟩
      · have HR := hide (hno (fun h => h0 h.1))
        have d1 : a = 0 := by omega
        subst d1
        have hp : b ≤ 400 := by omega
        clear hyes hno hoo hzz ho hlen ea eb hg0 hone hg1 hap hz hle hb2 ha2
        go_enter Tryz.func15, Tryz.ntmps15
        go_wp2_with fail
        refine (hS _ hs).mono ?_
        rintro e w1 ⟨rfl, hb⟩
        have hB := hb.alloc hb.size (.cells #[.int .i64 0, .int .i64 b] 25)
        go_wp2_with fail
        go_ret
        exact ⟨by rw [HR.out]; rfl, hB⟩
  · have hf : okW s.data.toList = false := by simpa using ho
    have HR := hide (isC_bad hf)
    have e : slp s.data.toList = .tuple #[.agg #[.int .i64 0, .int .i64 0], .int .i64 1] := by unfold slp; rw [if_neg ho]
    rw [e] at hS
    clear e hlen
    go_enter Tryz.func15, Tryz.ntmps15
    go_wp2_with fail
    refine (hS _ hs).mono ?_
    rintro e w1 ⟨rfl, hb⟩
    go_wp2_with fail
    go_ret
    exact ⟨by rw [HR.out]; rfl, hb.alloc hb.size _⟩

end Go.Proofs.YthfhjgmlcilmkaaGreatDoor
