/- DateOf, where the rule is not valid or the day lies outside; then the law: both sides of DateOf agree. -/
import Derived.Test.YtdmhboabjmepeaaCal4
namespace Go.Proofs.Ytdmhboabjmepeaa
open Go.RowKit

theorem specDateOf_bad (L C S n : Int) (w : World) (hv : vrB L C S = false) :
    Calls Try.prog 11 #[.agg #[.int .i64 L, .int .i64 C, .int .i64 S], .int .i64 n] w fun e w' => e = .returned (.tuple #[.int .i64 0, .int .i64 0, .int .i64 1]) ∧ Below w.heap.size w w' := by
  go_enter Try.func11, Try.ntmps11
  go_wp2_with fail
  refine (l24Ok_any _ _ _ _).mono ?_
  rintro e w1 ⟨rfl, hb1⟩
  go_wp2
  go_ret3
  exact ⟨rfl, bstep ((Below.refl _ _).alloc (Nat.le_refl _) _) hb1 (by simp)⟩

theorem implDateOf_bad (L C S n : Int) (w : World) (hv : vrB L C S = false) :
    Calls Try.prog 12 #[.agg #[.int .i64 L, .int .i64 C, .int .i64 S], .int .i64 n] w fun e w' => e = .returned (.tuple #[.int .i64 0, .int .i64 0, .int .i64 1]) ∧ Below w.heap.size w w' := by
  go_enter Try.func12, Try.ntmps12
  go_wp2_with fail
  refine (implValidRule_any _ _ _ _).mono ?_
  rintro e w1 ⟨rfl, hb1⟩
  go_wp2
  go_ret3
  exact ⟨rfl, bstep ((Below.refl _ _).alloc (Nat.le_refl _) _) hb1 (by simp)⟩

theorem specDateOf_out (L C S n : Int) (w : World) (hv : vrB L C S = true) (h : ¬ (0 ≤ n ∧ n < start L C S 100001)) :
    Calls Try.prog 11 #[.agg #[.int .i64 L, .int .i64 C, .int .i64 S], .int .i64 n] w fun e w' => e = .returned (.tuple #[.int .i64 0, .int .i64 0, .int .i64 2]) ∧ Below w.heap.size w w' := by
  obtain ⟨e1, e2⟩ := leaps_bd (y := 100001) hv (by omega) (by omega)
  have e3 : start L C S 100001 = 36500365 + leaps L C S 100001 := by unfold start; omega
  have hin : inB n 0 (start L C S 100001 - 1) = false := inB_no (by omega)
  have ub : start L C S 100001 ≤ 200000000 := by omega
  have s0 : 0 ≤ start L C S 100001 := by omega
  clear e1 e2 e3 h
  go_enter Try.func11, Try.ntmps11
  go_wp2_with fail
  refine (l24Ok_any _ _ _ _).mono ?_
  rintro e w1 ⟨rfl, hb1⟩
  obtain ⟨kc, kf, kz, kb⟩ := (Blk.new w 25 #[.int .i64 L, .int .i64 C, .int .i64 S]).after hb1 (by simp)
  go_wp2_with fail
  refine (l24Start_any _ _ _ _ _ hv (by omega) (by omega)).mono ?_
  rintro e w2 ⟨rfl, hb2⟩
  go_wp2_with (go_at_call 19; refine (l00In_any _ _ _ _).mono ?_; rintro e w' ⟨rfl, rfl⟩)
  go_ret3
  exact ⟨rfl, bstep (bstep ((Below.refl _ _).alloc (Nat.le_refl _) _) hb1 (by simp)) hb2 (by omega)⟩

set_option maxHeartbeats 1000000 in
theorem implDateOf_out (L C S n : Int) (w : World) (hv : vrB L C S = true) (h : ¬ (0 ≤ n ∧ n < start L C S 100001)) :
    Calls Try.prog 12 #[.agg #[.int .i64 L, .int .i64 C, .int .i64 S], .int .i64 n] w fun e w' => e = .returned (.tuple #[.int .i64 0, .int .i64 0, .int .i64 2]) ∧ Below w.heap.size w w' := by
  obtain ⟨e1, e2⟩ := leaps_bd (y := 100001) hv (by omega) (by omega)
  have e3 : start L C S 100001 = 36500365 + leaps L C S 100001 := by unfold start; omega
  have ez := start_zero hv
  have hin : inB n (start L C S 0) (start L C S 100001 - 1) = false := inB_no (by omega)
  have ub : start L C S 100001 ≤ 200000000 := by omega
  have s0 : 0 ≤ start L C S 100001 := by omega
  have ew : IntKind.i64.wrap (start L C S 100001 - 1) = start L C S 100001 - 1 := IntWalk.i64_in _ (by omega)
  clear e1 e2 e3 ez h
  go_enter Try.func12, Try.ntmps12
  go_wp2_with fail
  refine (implValidRule_any _ _ _ _).mono ?_
  rintro e w1 ⟨rfl, hb1⟩
  have kp : Keeps w w.heap.size 25 #[.int .i64 L, .int .i64 C, .int .i64 S] (w.alloc (.cells #[.int .i64 L, .int .i64 C, .int .i64 S] 25)) :=
    ⟨rfl, by simp, Blk.new _ _ _, (Below.refl _ _).alloc (Nat.le_refl _) _⟩
  obtain ⟨k0, k1, k2, kp1⟩ := keep3 kp hb1
  clear kp
  go_wp2_with fail
  go_region_held3 (fun w' => w'.cell? ⟨w.heap.size, 0, none⟩ = some (.int .i64 L) ∧ w'.cell? ⟨w.heap.size, 1, none⟩ = some (.int .i64 C) ∧ w'.cell? ⟨w.heap.size, 2, none⟩ = some (.int .i64 S) ∧ Keeps w w.heap.size 25 #[.int .i64 L, .int .i64 C, .int .i64 S] w')
    (first | assumption | exact keep3d kp1 | exact keep3s (by assumption) hb)
    (first | (go_at_call_of 21 (Value.int IntKind.i64 0); refine (first_any _ _ _ _ _ hv (by omega) (by omega)).mono ?_; rintro e w' ⟨rfl, hb⟩)
           | (go_at_call_of 21 (Value.int IntKind.i64 100001); refine (first_any _ _ _ _ _ hv (by omega) (by omega)).mono ?_; rintro e w' ⟨rfl, hb⟩)
           | (go_at_call 14; refine (within_any _ _ _ _).mono ?_; rintro e w' ⟨rfl, rfl⟩))
  obtain ⟨k0, k1, k2, kp2⟩ := (by assumption : _ ∧ _ ∧ _ ∧ Keeps w w.heap.size 25 #[.int .i64 L, .int .i64 C, .int .i64 S] _)
  obtain ⟨_, kz2, kb2, kl2⟩ := kp2
  clear kb2
  go_wp2
  go_ret3
  exact ⟨rfl, kl2⟩

/-- What DateOf returns. -/
theorem dateOf_both (L C S n : Int) : ∃ a b c : Int, (∀ w : World, Calls Try.prog 11 #[.agg #[.int .i64 L, .int .i64 C, .int .i64 S], .int .i64 n] w fun e w' => e = .returned (.tuple #[.int .i64 a, .int .i64 b, .int .i64 c]) ∧ Below w.heap.size w w') ∧
    (∀ w : World, Calls Try.prog 12 #[.agg #[.int .i64 L, .int .i64 C, .int .i64 S], .int .i64 n] w fun e w' => e = .returned (.tuple #[.int .i64 a, .int .i64 b, .int .i64 c]) ∧ Below w.heap.size w w') := by
  by_cases hv : vrB L C S = true
  · by_cases h : 0 ≤ n ∧ n < start L C S 100001
    · obtain ⟨y, hy⟩ := year_of L C S n hv h.1 100001 (Nat.le_refl _) h.2
      exact ⟨_, _, _, fun w => specDateOf_yes L C S n y w hv hy h.1 h.2, fun w => implDateOf_yes L C S n y w hv hy h.1 h.2⟩
    · exact ⟨_, _, _, fun w => specDateOf_out L C S n w hv h, fun w => implDateOf_out L C S n w hv h⟩
  · have hv' : vrB L C S = false := by simpa using hv
    exact ⟨_, _, _, fun w => specDateOf_bad L C S n w hv', fun w => implDateOf_bad L C S n w hv'⟩

theorem law_DateOf (L C S n : Int) (w : World) :
    Calls Try.prog 5 #[.agg #[.int .i64 L, .int .i64 C, .int .i64 S], .int .i64 n] w fun e w' => e = .returned (.bool true) ∧ Below w.heap.size w w' := by
  obtain ⟨a, b, c, h1, h2⟩ := dateOf_both L C S n
  have H1 := hide h1
  have H2 := hide h2
  clear h1 h2
  go_enter Try.func5, Try.ntmps5
  go_wp2_with fail
  refine (toLeapRule_any _ _ _ _).mono ?_
  rintro e w1 ⟨rfl, hb1⟩
  obtain ⟨kc, kf, kz, kb⟩ := (Blk.new w 23 #[.int .i64 L, .int .i64 C, .int .i64 S]).after hb1 (by simp)
  go_wp2_with fail
  refine (H1.out _).mono ?_
  rintro e w2 ⟨rfl, hb2⟩
  clear kc kf
  obtain ⟨kc, kf, kz2, kb2⟩ := kb.out.after hb2 kz
  go_wp2_with fail
  refine (toLeapRule_any _ _ _ _).mono ?_
  rintro e w3 ⟨rfl, hb3⟩
  go_wp2_with fail
  refine (H2.out _).mono ?_
  rintro e w4 ⟨rfl, hb4⟩
  go_wp2
  go_ret
  refine ⟨rfl, ?_⟩
  exact bstep (bstep (bstep (bstep ((Below.refl _ _).alloc (Nat.le_refl _) _) hb1 (by simp)) hb2 (by omega)) hb3 (by omega)) hb4 (by have := hb3.size; omega)

end Go.Proofs.Ytdmhboabjmepeaa
