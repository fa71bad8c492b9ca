/- TermsOfWord: the program's and the reference's, and the law. -/
import Derived.Test.YtednobegombphaaDoorWordSlopeOfWord
import Derived.Test.YtednobegombphaaDoorExp2
import Derived.Test.YtednobegombphaaDoorHeld
namespace Go.Proofs.YtednobegombphaaDoor
open Go.RowKit

/-- The terms of the slope of a word, and the code. -/
def twx (l : List UInt8) : List Int := if okW l = true ∧ zeros l ≠ 0 then terms ((ones l : Int) / (Int.gcd (ones l) (zeros l) : Nat)) ((zeros l : Int) / (Int.gcd (ones l) (zeros l) : Nat)).toNat else []
def twc (l : List UInt8) : Int := if okW l = true then (if zeros l = 0 then 6 else 0) else 1
theorem tw_cases (l : List UInt8) : (∃ c : Int, slp l = .tuple #[.agg #[.int .i64 0, .int .i64 0], .int .i64 c] ∧ twx l = [] ∧ twc l = c ∧ c ≠ 0) ∨
    ∃ a : Int, ∃ b : Nat, slp l = .tuple #[.agg #[.int .i64 a, .int .i64 b], .int .i64 0] ∧ twx l = terms a b ∧ twc l = 0 ∧ b ≠ 0 ∧ b ≤ 400 ∧ 0 ≤ a ∧ a ≤ 400 := by
  by_cases ho : okW l = true
  · by_cases hz : zeros l = 0
    · exact .inl ⟨6, by unfold slp; rw [if_pos ho, if_pos hz], by unfold twx; rw [if_neg (fun h => h.2 hz)], by unfold twc; rw [if_pos ho, if_pos hz], by decide⟩
    · obtain ⟨_, _, h4⟩ := okW_all ho
      have hle := ones_le l
      have hzl : zeros l ≤ l.length := by unfold zeros; omega
      have e1 : slp l = .tuple #[.agg #[.int .i64 ((ones l : Int) / (Int.gcd (ones l) (zeros l) : Nat)), .int .i64 ((zeros l : Int) / (Int.gcd (ones l) (zeros l) : Nat))], .int .i64 0] := by unfold slp; rw [if_pos ho, if_neg hz]
      have e2 : twx l = terms ((ones l : Int) / (Int.gcd (ones l) (zeros l) : Nat)) ((zeros l : Int) / (Int.gcd (ones l) (zeros l) : Nat)).toNat := by unfold twx; rw [if_pos ⟨ho, hz⟩]
      have hg := Int.gcd_pos_of_ne_zero_right (ones l : Int) (show (zeros l : Int) ≠ 0 by omega)
      have p1 : 0 < (zeros l : Int) / (Int.gcd (ones l) (zeros l) : Nat) := Int.ediv_pos_of_pos_of_dvd (by omega) (by omega) (Int.gcd_dvd_right ..)
      have p2 := quot_bd (M := 400) (show (0 : Int) < (Int.gcd (ones l) (zeros l) : Nat) by omega) (x := (zeros l : Int)) (by omega) (Int.gcd_dvd_right ..)
      have p3 := quot_bd (M := 400) (show (0 : Int) < (Int.gcd (ones l) (zeros l) : Nat) by omega) (x := (ones l : Int)) (by omega) (Int.gcd_dvd_left ..)
      have p4 : 0 ≤ (ones l : Int) / (Int.gcd (ones l) (zeros l) : Nat) := Int.ediv_nonneg (by omega) (by omega)
      refine .inr ⟨(ones l : Int) / (Int.gcd (ones l) (zeros l) : Nat), ((zeros l : Int) / (Int.gcd (ones l) (zeros l) : Nat)).toNat, ?_, e2, by unfold twc; rw [if_pos ho, if_neg hz], by omega, by omega, p4, by omega⟩
      rw [e1, Int.toNat_of_nonneg (by omega)]
  · exact .inl ⟨1, by unfold slp; rw [if_neg ho], by unfold twx; rw [if_neg (fun h => ho h.1)], by unfold twc; rw [if_neg ho], by decide⟩

theorem implTermsOfWord_any (s : ByteArray) (w : World) (hs : s.size ≤ 9223372036854775807) :
    Calls Tryd.prog 18 #[.string s] w fun e w' => ∃ v, e = .returned (.tuple #[v, .int .i64 (twc s.data.toList)]) ∧ Lst w' w.heap.size v (twx s.data.toList) ∧ Below w.heap.size w w' := by
  have hS := slopeOf_any s
  rcases tw_cases s.data.toList with ⟨c, e1, e2, e3, hc⟩ | ⟨a, b, e1, e2, e3, b0, b1, a0, a1⟩
  · rw [e1] at hS
    rw [e2, e3]
    have hb : (c != 0) = true := by simp [hc]
    clear e1 e2 e3 hc
    go_enter Tryd.func18, Tryd.ntmps18
    go_wp2_with fail
    refine (hS _ hs).mono ?_
    rintro e w1 ⟨rfl, hb1⟩
    go_wp2_with fail
    go_returns
    exact ⟨_, rfl, Lst.nil_ _ _, hb1.alloc hb1.size _⟩
  · rw [e1] at hS
    rw [e2, e3]
    clear e1 e2 e3
    have hl := terms_len b a
    go_enter Tryd.func18, Tryd.ntmps18
    go_wp2_with fail
    refine (hS _ hs).mono ?_
    rintro e w1 ⟨rfl, hb1⟩
    have sz := hb1.size
    go_wp2_with fail
    refine (expand_any a b _ b0 (by omega) (by omega)).mono ?_
    rintro e w2 ⟨g, cap, n, rfl, hn, hg, hr, hb2⟩
    have hg2 : w.heap.size ≤ g := by simp at hg; omega
    have HR := hide hr
    have hn2 : n ≤ 1000000000 := by omega
    clear hr hn
    go_wp2_with fail
    go_returns
    exact ⟨_, rfl, Lst.of_row HR.out hg2 hn2, bstep (hb1.alloc hb1.size _) hb2 (by simp; omega)⟩

theorem specTermsOfWord_any (s : ByteArray) (w : World) (hs : s.size ≤ 9223372036854775807) :
    Calls Tryd.prog 19 #[.string s] w fun e w' => ∃ v, e = .returned (.tuple #[v, .int .i64 (twc s.data.toList)]) ∧ Lst w' w.heap.size v (twx s.data.toList) ∧ Below w.heap.size w w' := by
  have hS := specSlopeOfWord_any s
  rcases tw_cases s.data.toList with ⟨c, e1, e2, e3, hc⟩ | ⟨a, b, e1, e2, e3, b0, b1, a0, a1⟩
  · rw [e1] at hS
    rw [e2, e3]
    have hb : (c != 0) = true := by simp [hc]
    clear e1 e2 e3 hc
    go_enter Tryd.func19, Tryd.ntmps19
    go_wp2_with fail
    refine (hS _ hs).mono ?_
    rintro e w1 ⟨rfl, hb1⟩
    go_wp2_with fail
    go_returns
    exact ⟨_, rfl, Lst.nil_ _ _, hb1.alloc hb1.size _⟩
  · rw [e1] at hS
    rw [e2, e3]
    clear e1 e2 e3
    have hl := terms_len b a
    go_enter Tryd.func19, Tryd.ntmps19
    go_wp2_with fail
    refine (hS _ hs).mono ?_
    rintro e w1 ⟨rfl, hb1⟩
    have sz := hb1.size
    go_wp2_with fail
    refine (l03Terms_any a b _ (by omega) (by omega)).mono ?_
    rintro e w2 ⟨g, cap, n, rfl, hn, hg, hr, hb2⟩
    have hg2 : w.heap.size ≤ g := by simp at hg; omega
    have HR := hide hr
    have hn2 : n ≤ 1000000000 := by omega
    clear hr hn
    go_wp2_with fail
    go_returns
    exact ⟨_, rfl, Lst.of_row HR.out hg2 hn2, bstep (hb1.alloc hb1.size _) hb2 (by simp; omega)⟩

end Go.Proofs.YtednobegombphaaDoor
