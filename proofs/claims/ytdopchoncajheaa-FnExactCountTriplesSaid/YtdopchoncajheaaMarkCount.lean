/- CountTriples in the program and in the reference, and its law. -/
import Derived.Test.YtdopchoncajheaaMarkAll
namespace Go.Proofs.Ytdopchoncajheaa
open Go.RowKit

theorem l22Most_any (n : Int) (w : World) :
    Calls Try.prog 50 #[.int .i64 n] w fun e w' => e = .returned (.bool (inB n 1 1000000)) ∧ w = w' := by
  go_enter Try.func50, Try.ntmps50
  go_wp2_with (go_at_call 66; refine (l00In_any _ _ _ _).mono ?_; rintro e w' ⟨rfl, rfl⟩)
  go_ret
  exact ⟨rfl, rfl⟩
theorem isListed_any (n : Int) (w : World) :
    Calls Try.prog 52 #[.int .i64 n] w fun e w' => e = .returned (.bool (inB n 1 1000000)) ∧ w = w' := by
  go_enter Try.func52, Try.ntmps52
  go_wp2_with (go_at_call 73; refine (within_any _ _ _ _).mono ?_; rintro e w' ⟨rfl, rfl⟩)
  go_ret
  exact ⟨rfl, rfl⟩
theorem sizeT_any (A : Option Addr) (n c : Nat) (w : World) (_ : n ≤ 9223372036854775807) :
    Calls Try.prog 53 #[.slice A n c] w fun e w' => e = .returned (.int .i64 n) ∧ w = w' := by
  go_enter Try.func53, Try.ntmps53
  go_wp2
  go_ret
  exact ⟨rfl, rfl⟩

def countT (M : Int) : Int := if inB M 1 1000000 = true then (allT M).length else 0
def mcode (M : Int) : Int := if inB M 1 1000000 = true then 0 else 2

theorem implCountTriples_any (M : Int) (w : World) :
    Calls Try.prog 18 #[.int .i64 M] w fun e w' => e = .returned (.tuple #[.int .i64 (countT M), .int .i64 (mcode M)]) ∧ Below w.heap.size w w' := by
  by_cases hb : inB M 1 1000000 = true
  · obtain ⟨h1, h2⟩ := inB_iff.1 hb
    go_enter Try.func18, Try.ntmps18
    go_wp2_with (go_at_call 52; refine (isListed_any _ _).mono ?_; rintro e w' ⟨rfl, rfl⟩)
    refine (triplesUpTo_any M _ h1 h2).mono ?_
    rintro e w1 ⟨g, c, ts, rfl, hg, hr, hp, hb1⟩
    have hl := hp.length_eq
    have hA := allT_len M
    have HL := hide hl
    have hn : ts.length ≤ 9223372036854775807 := by omega
    clear hr hp hl
    go_wp2_with fail
    refine (sizeT_any _ _ _ _ hn).mono ?_
    rintro e w2 ⟨rfl, rfl⟩
    go_wp2
    go_ret2
    exact ⟨by simp only [countT, mcode, hb, if_true]; rw [HL.out]; rfl, hb1⟩
  · have hb' : inB M 1 1000000 = false := by simpa using hb
    clear hb
    go_enter Try.func18, Try.ntmps18
    go_wp2_with (go_at_call 52; refine (isListed_any _ _).mono ?_; rintro e w' ⟨rfl, rfl⟩)
    go_ret2
    exact ⟨by simp [countT, mcode, hb'], Below.refl _ _⟩

theorem specCountTriples_any (M : Int) (w : World) :
    Calls Try.prog 17 #[.int .i64 M] w fun e w' => e = .returned (.tuple #[.int .i64 (countT M), .int .i64 (mcode M)]) ∧ Below w.heap.size w w' := by
  by_cases hb : inB M 1 1000000 = true
  · obtain ⟨h1, h2⟩ := inB_iff.1 hb
    go_enter Try.func17, Try.ntmps17
    go_wp2_with (go_at_call 50; refine (l22Most_any _ _).mono ?_; rintro e w' ⟨rfl, rfl⟩)
    refine (l22All_any M _ h1 h2).mono ?_
    rintro e w1 ⟨g, c, ts, rfl, hg, hr, hp, hb1⟩
    have hl := hp.length_eq
    have hA := allT_len M
    have HL := hide hl
    have hn : ts.length ≤ 9223372036854775807 := by omega
    clear hr hp hl
    go_wp2
    go_ret2
    exact ⟨by simp only [countT, mcode, hb, if_true]; rw [HL.out]; rfl, hb1⟩
  · have hb' : inB M 1 1000000 = false := by simpa using hb
    clear hb
    go_enter Try.func17, Try.ntmps17
    go_wp2_with (go_at_call 50; refine (l22Most_any _ _).mono ?_; rintro e w' ⟨rfl, rfl⟩)
    go_ret2
    exact ⟨by simp [countT, mcode, hb'], Below.refl _ _⟩

theorem law_CountTriples (M : Int) (w : World) :
    Calls Try.prog 4 #[.int .i64 M] w fun e w' => e = .returned (.bool true) ∧ Below w.heap.size w w' := by
  go_enter Try.func4, Try.ntmps4
  go_wp2_with fail
  refine (specCountTriples_any _ _).mono ?_
  rintro e w1 ⟨rfl, hb1⟩
  go_wp2_with fail
  refine (implCountTriples_any _ _).mono ?_
  rintro e w2 ⟨rfl, hb2⟩
  go_wp2
  go_ret
  exact ⟨rfl, bstep hb1 hb2 hb1.size⟩

end Go.Proofs.Ytdopchoncajheaa
