/- Contracts of the functions of calendars that reckon leap years and days, in the program and in the reference. -/
import Derived.Test.YtdmhboabjmepeaaCal1
namespace Go.Proofs.Ytdmhboabjmepeaa
open Go.RowKit

theorem mul_bd {a b A B : Int} (ha : 0 ≤ a) (hA : a ≤ A) (hb : 0 ≤ b) (hB : b ≤ B) : 0 ≤ a * b ∧ a * b ≤ A * B :=
  ⟨Int.mul_nonneg ha hb, Int.mul_le_mul hA hB hb (Int.le_trans ha hA)⟩

theorem vrB_iff {L C S : Int} : vrB L C S = true ↔ 1 ≤ C ∧ C ≤ 1000 ∧ 0 ≤ L ∧ L ≤ C ∧ 0 ≤ S ∧ S ≤ C - 1 := by
  simp only [vrB, Bool.and_eq_true, inB_iff]
  constructor <;> (intro h; omega)

def codeB (L C S y : Int) : Int := if vrB L C S = true then (if inB y 0 100000 = true then 0 else 2) else 1

theorem l24Code_any (L C S y : Int) (w : World) :
    Calls Try.prog 15 #[.agg #[.int .i64 L, .int .i64 C, .int .i64 S], .int .i64 y] w fun e w' => e = .returned (.int .i64 (codeB L C S y)) ∧ Below w.heap.size w w' := by
  by_cases h1 : vrB L C S = true <;> by_cases h2 : inB y 0 100000 = true
  all_goals
    go_enter Try.func15, Try.ntmps15
    go_wp2_with (first | (go_at_call 13; refine (l24Ok_any _ _ _ _).mono ?_; rintro e w' ⟨rfl, hb⟩) | (go_at_call 19; refine (l00In_any _ _ _ _).mono ?_; rintro e w' ⟨rfl, rfl⟩))
    go_ret
    exact ⟨by simp [codeB, *], ((Below.refl _ _).alloc (Nat.le_refl _) _).trans (hb.mono (by simp))⟩

theorem checkYear_any (L C S y : Int) (w : World) :
    Calls Try.prog 17 #[.agg #[.int .i64 L, .int .i64 C, .int .i64 S], .int .i64 y] w fun e w' => e = .returned (.int .i64 (codeB L C S y)) ∧ Below w.heap.size w w' := by
  by_cases h1 : vrB L C S = true <;> by_cases h2 : inB y 0 100000 = true
  all_goals
    go_enter Try.func17, Try.ntmps17
    go_wp2_with (first | (go_at_call 8; refine (implValidRule_any _ _ _ _).mono ?_; rintro e w' ⟨rfl, hb⟩) | (go_at_call 14; refine (within_any _ _ _ _).mono ?_; rintro e w' ⟨rfl, rfl⟩))
    go_ret
    exact ⟨by simp [codeB, *], ((Below.refl _ _).alloc (Nat.le_refl _) _).trans (hb.mono (by simp))⟩

def leaps (L C S y : Int) : Int := (y * L + S) / C
def start (L C S y : Int) : Int := 365 * y + leaps L C S y

theorem leaps_bd {L C S y : Int} (hv : vrB L C S = true) (h0 : 0 ≤ y) (h1 : y ≤ 100001) : 0 ≤ leaps L C S y ∧ leaps L C S y ≤ 100002000 := by
  obtain ⟨c1, c2, l1, l2, s1, s2⟩ := vrB_iff.1 hv
  obtain ⟨m1, m2⟩ := mul_bd h0 h1 l1 (Int.le_trans l2 c2)
  unfold leaps
  exact ⟨Int.ediv_nonneg (by omega) (by omega), Int.le_trans (Int.ediv_le_self _ (by omega)) (by omega)⟩

theorem l24Leaps_any (L C S y : Int) (w : World) (hv : vrB L C S = true) (h0 : 0 ≤ y) (h1 : y ≤ 100001) :
    Calls Try.prog 16 #[.agg #[.int .i64 L, .int .i64 C, .int .i64 S], .int .i64 y] w fun e w' => e = .returned (.int .i64 (leaps L C S y)) ∧ Below w.heap.size w w' := by
  have hbd := leaps_bd hv h0 h1
  obtain ⟨c1, c2, l1, l2, s1, s2⟩ := vrB_iff.1 hv
  obtain ⟨m1, m2⟩ := mul_bd h0 h1 l1 (Int.le_trans l2 c2)
  clear hv
  go_enter Try.func16, Try.ntmps16
  go_wp2
  go_ret
  exact ⟨by simp [leaps], (Below.refl _ _).alloc (Nat.le_refl _) _⟩

theorem before_any (L C S y : Int) (w : World) (hv : vrB L C S = true) (h0 : 0 ≤ y) (h1 : y ≤ 100001) :
    Calls Try.prog 18 #[.agg #[.int .i64 L, .int .i64 C, .int .i64 S], .int .i64 y] w fun e w' => e = .returned (.int .i64 (leaps L C S y)) ∧ Below w.heap.size w w' := by
  have hbd := leaps_bd hv h0 h1
  obtain ⟨c1, c2, l1, l2, s1, s2⟩ := vrB_iff.1 hv
  obtain ⟨m1, m2⟩ := mul_bd h0 h1 l1 (Int.le_trans l2 c2)
  clear hv
  go_enter Try.func18, Try.ntmps18
  go_wp2
  go_ret
  exact ⟨by simp [leaps], (Below.refl _ _).alloc (Nat.le_refl _) _⟩

theorem l24Start_any (L C S y : Int) (w : World) (hv : vrB L C S = true) (h0 : 0 ≤ y) (h1 : y ≤ 100001) :
    Calls Try.prog 20 #[.agg #[.int .i64 L, .int .i64 C, .int .i64 S], .int .i64 y] w fun e w' => e = .returned (.int .i64 (start L C S y)) ∧ Below w.heap.size w w' := by
  obtain ⟨b1, b2⟩ := leaps_bd hv h0 h1
  go_enter Try.func20, Try.ntmps20
  go_wp2_with fail
  refine (l24Leaps_any _ _ _ _ _ hv h0 h1).mono ?_
  rintro e w1 ⟨rfl, hb1⟩
  go_wp2
  go_ret
  exact ⟨by simp [start], bstep ((Below.refl _ _).alloc (Nat.le_refl _) _) hb1 (by simp)⟩

theorem first_any (L C S y : Int) (w : World) (hv : vrB L C S = true) (h0 : 0 ≤ y) (h1 : y ≤ 100001) :
    Calls Try.prog 21 #[.agg #[.int .i64 L, .int .i64 C, .int .i64 S], .int .i64 y] w fun e w' => e = .returned (.int .i64 (start L C S y)) ∧ Below w.heap.size w w' := by
  obtain ⟨b1, b2⟩ := leaps_bd hv h0 h1
  go_enter Try.func21, Try.ntmps21
  go_wp2_with fail
  refine (before_any _ _ _ _ _ hv h0 h1).mono ?_
  rintro e w1 ⟨rfl, hb1⟩
  go_wp2
  go_ret
  exact ⟨by simp [start], bstep ((Below.refl _ _).alloc (Nat.le_refl _) _) hb1 (by simp)⟩

def leapsOut (L C S y : Int) : Int := if codeB L C S y = 0 then leaps L C S y else 0

theorem codeB_zero {L C S y : Int} : codeB L C S y = 0 ↔ vrB L C S = true ∧ 0 ≤ y ∧ y ≤ 100000 := by
  unfold codeB
  by_cases h1 : vrB L C S = true <;> by_cases h2 : inB y 0 100000 = true <;> simp [h1, h2]
  · exact inB_iff.1 h2
  · intro h3; have := mt inB_of h2; omega

theorem specLeapsBefore_any (L C S y : Int) (w : World) :
    Calls Try.prog 9 #[.agg #[.int .i64 L, .int .i64 C, .int .i64 S], .int .i64 y] w fun e w' => e = .returned (.tuple #[.int .i64 (leapsOut L C S y), .int .i64 (codeB L C S y)]) ∧ Below w.heap.size w w' := by
  by_cases hc : codeB L C S y = 0
  · obtain ⟨hv, h0, h1⟩ := codeB_zero.1 hc
    have ht : (codeB L C S y != 0) = false := by simp [hc]
    have HC := hide hc
    clear hc
    go_enter Try.func9, Try.ntmps9
    go_wp2_with fail
    refine (l24Code_any _ _ _ _ _).mono ?_
    rintro e w1 ⟨rfl, hb1⟩
    obtain ⟨kc, kf, kz, kb⟩ := (Blk.new w 25 #[.int .i64 L, .int .i64 C, .int .i64 S]).after hb1 (by simp)
    go_wp2_with fail
    refine (l24Leaps_any _ _ _ _ _ hv h0 (by omega)).mono ?_
    rintro e w2 ⟨rfl, hb2⟩
    go_wp2
    go_ret2
    exact ⟨by simp [leapsOut, HC.out], bstep (bstep ((Below.refl _ _).alloc (Nat.le_refl _) _) hb1 (by simp)) hb2 (by omega)⟩
  · have ht : (codeB L C S y != 0) = true := by simp [hc]
    have HC := hide hc
    clear hc
    go_enter Try.func9, Try.ntmps9
    go_wp2_with fail
    refine (l24Code_any _ _ _ _ _).mono ?_
    rintro e w1 ⟨rfl, hb1⟩
    go_wp2
    go_ret2
    exact ⟨by simp [leapsOut, HC.out], bstep ((Below.refl _ _).alloc (Nat.le_refl _) _) hb1 (by simp)⟩

theorem implLeapsBefore_any (L C S y : Int) (w : World) :
    Calls Try.prog 10 #[.agg #[.int .i64 L, .int .i64 C, .int .i64 S], .int .i64 y] w fun e w' => e = .returned (.tuple #[.int .i64 (leapsOut L C S y), .int .i64 (codeB L C S y)]) ∧ Below w.heap.size w w' := by
  by_cases hc : codeB L C S y = 0
  · obtain ⟨hv, h0, h1⟩ := codeB_zero.1 hc
    have ht : (codeB L C S y != 0) = false := by simp [hc]
    have HC := hide hc
    clear hc
    go_enter Try.func10, Try.ntmps10
    go_wp2_with fail
    refine (checkYear_any _ _ _ _ _).mono ?_
    rintro e w1 ⟨rfl, hb1⟩
    obtain ⟨kc, kf, kz, kb⟩ := (Blk.new w 25 #[.int .i64 L, .int .i64 C, .int .i64 S]).after hb1 (by simp)
    go_wp2_with fail
    refine (before_any _ _ _ _ _ hv h0 (by omega)).mono ?_
    rintro e w2 ⟨rfl, hb2⟩
    go_wp2
    go_ret2
    exact ⟨by simp [leapsOut, HC.out], bstep (bstep ((Below.refl _ _).alloc (Nat.le_refl _) _) hb1 (by simp)) hb2 (by omega)⟩
  · have ht : (codeB L C S y != 0) = true := by simp [hc]
    have HC := hide hc
    clear hc
    go_enter Try.func10, Try.ntmps10
    go_wp2_with fail
    refine (checkYear_any _ _ _ _ _).mono ?_
    rintro e w1 ⟨rfl, hb1⟩
    go_wp2
    go_ret2
    exact ⟨by simp [leapsOut, HC.out], bstep ((Below.refl _ _).alloc (Nat.le_refl _) _) hb1 (by simp)⟩

theorem law_LeapsBefore (L C S y : Int) (w : World) :
    Calls Try.prog 4 #[.agg #[.int .i64 L, .int .i64 C, .int .i64 S], .int .i64 y] w fun e w' => e = .returned (.bool true) ∧ Below w.heap.size w w' := by
  go_enter Try.func4, Try.ntmps4
  go_wp2_with fail
  refine (toLeapRule_any _ _ _ _).mono ?_
  rintro e w1 ⟨rfl, hb1⟩
  obtain ⟨kc, kf, kz, kb⟩ := (Blk.new w 23 #[.int .i64 L, .int .i64 C, .int .i64 S]).after hb1 (by simp)
  go_wp2_with fail
  refine (specLeapsBefore_any _ _ _ _ _).mono ?_
  rintro e w2 ⟨rfl, hb2⟩
  clear kc kf
  obtain ⟨kc, kf, kz2, kb2⟩ := kb.out.after hb2 kz
  go_wp2_with fail
  refine (toLeapRule_any _ _ _ _).mono ?_
  rintro e w3 ⟨rfl, hb3⟩
  go_wp2_with fail
  refine (implLeapsBefore_any _ _ _ _ _).mono ?_
  rintro e w4 ⟨rfl, hb4⟩
  go_wp2
  go_ret
  refine ⟨rfl, ?_⟩
  exact bstep (bstep (bstep (bstep ((Below.refl _ _).alloc (Nat.le_refl _) _) hb1 (by simp)) hb2 (by omega)) hb3 (by omega)) hb4 (by have := hb3.size; omega)

end Go.Proofs.Ytdmhboabjmepeaa
