/- Contracts of the small functions of calendars: whether a rule is valid, in the program and in the reference. -/
import Derived.Test.YtdmhboabjmepeaaBase
namespace Go.Proofs.Ytdmhboabjmepeaa
open Go.RowKit

def vrB (L C S : Int) : Bool := inB C 1 1000 && inB L 0 C && inB S 0 (C - 1)

theorem l24Ok_any (L C S : Int) (w : World) :
    Calls Try.prog 13 #[.agg #[.int .i64 L, .int .i64 C, .int .i64 S]] w fun e w' => e = .returned (.bool (vrB L C S)) ∧ Below w.heap.size w w' := by
  by_cases hC : 1 ≤ C ∧ C ≤ 1000
  · have hb := inB_of hC
    obtain ⟨h1, h2⟩ := hC
    go_enter Try.func13, Try.ntmps13
    go_wp2_with (go_at_call 19; refine (l00In_any _ _ _ _).mono ?_; rintro e w' ⟨rfl, rfl⟩)
    all_goals go_ret
    all_goals exact ⟨by simp [vrB, *], (Below.refl _ _).alloc (Nat.le_refl _) _⟩
  · have hb := inB_no hC
    clear hC
    go_enter Try.func13, Try.ntmps13
    go_wp2_with (go_at_call 19; refine (l00In_any _ _ _ _).mono ?_; rintro e w' ⟨rfl, rfl⟩)
    all_goals go_ret
    all_goals exact ⟨by simp [vrB, *], (Below.refl _ _).alloc (Nat.le_refl _) _⟩

theorem implValidRule_any (L C S : Int) (w : World) :
    Calls Try.prog 8 #[.agg #[.int .i64 L, .int .i64 C, .int .i64 S]] w fun e w' => e = .returned (.bool (vrB L C S)) ∧ Below w.heap.size w w' := by
  by_cases hC : 1 ≤ C ∧ C ≤ 1000
  · have hb := inB_of hC
    obtain ⟨h1, h2⟩ := hC
    go_enter Try.func8, Try.ntmps8
    go_wp2_with (go_at_call 14; refine (within_any _ _ _ _).mono ?_; rintro e w' ⟨rfl, rfl⟩)
    all_goals go_ret
    all_goals exact ⟨by simp [vrB, *], (Below.refl _ _).alloc (Nat.le_refl _) _⟩
  · have hb := inB_no hC
    clear hC
    go_enter Try.func8, Try.ntmps8
    go_wp2_with (go_at_call 14; refine (within_any _ _ _ _).mono ?_; rintro e w' ⟨rfl, rfl⟩)
    all_goals go_ret
    all_goals exact ⟨by simp [vrB, *], (Below.refl _ _).alloc (Nat.le_refl _) _⟩

theorem specValidRule_any (L C S : Int) (w : World) :
    Calls Try.prog 6 #[.agg #[.int .i64 L, .int .i64 C, .int .i64 S]] w fun e w' => e = .returned (.bool (vrB L C S)) ∧ Below w.heap.size w w' := by
  go_enter Try.func6, Try.ntmps6
  go_wp2_with (go_at_call 13; refine (l24Ok_any _ _ _ _).mono ?_; rintro e w' ⟨rfl, hb⟩)
  go_ret
  exact ⟨rfl, ((Below.refl _ _).alloc (Nat.le_refl _) _).trans (hb.mono (by simp))⟩

theorem toLeapRule_any (L C S : Int) (w : World) :
    Calls Try.prog 7 #[.agg #[.int .i64 L, .int .i64 C, .int .i64 S]] w fun e w' => e = .returned (.agg #[.int .i64 L, .int .i64 C, .int .i64 S]) ∧ Below w.heap.size w w' := by
  go_enter Try.func7, Try.ntmps7
  go_wp2
  refine bodyPost_ret (v := .agg #[.int .i64 L, .int .i64 C, .int .i64 S]) (by simp [results, Try.results7, go_sem]) rfl ⟨rfl, ?_⟩
  go_grown

theorem law_ValidRule (L C S : Int) (w : World) :
    Calls Try.prog 3 #[.agg #[.int .i64 L, .int .i64 C, .int .i64 S]] w fun e w' => e = .returned (.bool true) ∧ Below w.heap.size w w' := by
  go_enter Try.func3, Try.ntmps3
  go_wp2_with fail
  refine (toLeapRule_any _ _ _ _).mono ?_
  rintro e w1 ⟨rfl, hb1⟩
  obtain ⟨kc, kf, kz, kb⟩ := (Blk.new w 23 #[.int .i64 L, .int .i64 C, .int .i64 S]).after hb1 (by simp)
  go_wp2_with fail
  refine (specValidRule_any _ _ _ _).mono ?_
  rintro e w2 ⟨rfl, hb2⟩
  clear kc kf
  obtain ⟨kc, kf, kz2, kb2⟩ := kb.out.after hb2 kz
  go_wp2_with fail
  refine (toLeapRule_any _ _ _ _).mono ?_
  rintro e w3 ⟨rfl, hb3⟩
  go_wp2_with fail
  refine (implValidRule_any _ _ _ _).mono ?_
  rintro e w4 ⟨rfl, hb4⟩
  go_wp2
  go_ret
  refine ⟨rfl, ?_⟩
  exact bstep (bstep (bstep (bstep ((Below.refl _ _).alloc (Nat.le_refl _) _) hb1 (by simp)) hb2 (by omega)) hb3 (by omega)) hb4 (by have := hb3.size; omega)

end Go.Proofs.Ytdmhboabjmepeaa
