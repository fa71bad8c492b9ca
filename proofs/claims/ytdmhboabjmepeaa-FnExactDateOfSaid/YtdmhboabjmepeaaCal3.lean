/- The year of a day: plain facts on the numbers of first days, then the contracts of DateOf in the program and in the reference. -/
import Derived.Test.YtdmhboabjmepeaaCal2
namespace Go.Proofs.Ytdmhboabjmepeaa
open Go.RowKit

theorem leaps_mono {L C S a b : Int} (hv : vrB L C S = true) (h : a ≤ b) : leaps L C S a ≤ leaps L C S b := by
  obtain ⟨c1, c2, l1, l2, s1, s2⟩ := vrB_iff.1 hv
  unfold leaps
  exact Int.ediv_le_ediv (by omega) (by have := Int.mul_le_mul_of_nonneg_right h l1; omega)
theorem start_lt {L C S a b : Int} (hv : vrB L C S = true) (h : a < b) : start L C S a < start L C S b := by
  have := leaps_mono (a := a) (b := b) hv (by omega)
  unfold start; omega
theorem start_le {L C S a b : Int} (hv : vrB L C S = true) (h : a ≤ b) : start L C S a ≤ start L C S b := by
  have := leaps_mono (a := a) (b := b) hv h
  unfold start; omega
theorem leaps_le {L C S a : Int} (hv : vrB L C S = true) (h : 0 ≤ a) : leaps L C S a ≤ a := by
  obtain ⟨c1, c2, l1, l2, s1, s2⟩ := vrB_iff.1 hv
  unfold leaps
  have h1 : a * L ≤ a * C := Int.mul_le_mul_of_nonneg_left l2 h
  have h2 : (a * L + S) / C < a + 1 := Int.ediv_lt_of_lt_mul (by omega) (by rw [Int.add_mul]; omega)
  omega
theorem start_zero {L C S : Int} (hv : vrB L C S = true) : start L C S 0 = 0 := by
  obtain ⟨c1, c2, l1, l2, s1, s2⟩ := vrB_iff.1 hv
  unfold start leaps
  rw [Int.zero_mul, Int.zero_add, Int.ediv_eq_zero_of_lt s1 (by omega)]; rfl

/-- y is the year of day n. -/
def IsYear (L C S n y : Int) : Prop := 0 ≤ y ∧ y ≤ 100000 ∧ start L C S y ≤ n ∧ n < start L C S (y + 1)
theorem year_of (L C S n : Int) (hv : vrB L C S = true) (h0 : 0 ≤ n) : ∀ k : Nat, k ≤ 100001 → n < start L C S k → ∃ y, IsYear L C S n y
  | 0, _, h => by
    have hz := start_zero hv
    have h' : n < start L C S 0 := h
    omega
  | k + 1, hk, h => by
    by_cases h1 : n < start L C S k
    · exact year_of L C S n hv h0 k (by omega) h1
    · exact ⟨k, by omega, by omega, by omega, by simpa using h⟩
theorem year_le {L C S n y a : Int} (hv : vrB L C S = true) (hy : IsYear L C S n y) (h : start L C S a ≤ n) : a ≤ y := by
  rcases Int.lt_or_le y a with h1 | h1
  · have := start_le (a := y + 1) (b := a) hv (by omega)
    have := hy.2.2.2
    omega
  · exact h1
theorem year_lt {L C S n y a : Int} (hv : vrB L C S = true) (hy : IsYear L C S n y) (h : ¬ start L C S a ≤ n) : y < a := by
  rcases Int.lt_or_le y a with h1 | h1
  · exact h1
  · have := start_le (a := a) (b := y) hv (by omega)
    have := hy.2.2.1
    omega

set_option maxHeartbeats 400000 in
theorem specDateOf_yes (L C S n y : Int) (w : World) (hv : vrB L C S = true) (hy : IsYear L C S n y) (h0 : 0 ≤ n) (hn : n < start L C S 100001) :
    Calls Try.prog 11 #[.agg #[.int .i64 L, .int .i64 C, .int .i64 S], .int .i64 n] w fun e w' => e = .returned (.tuple #[.int .i64 y, .int .i64 (n - start L C S y), .int .i64 0]) ∧ Below w.heap.size w w' := by
  obtain ⟨e1, e2⟩ := leaps_bd (y := 100001) hv (by omega) (by omega)
  have e3 : start L C S 100001 = 36500365 + leaps L C S 100001 := by unfold start; omega
  have hin : inB n 0 (start L C S 100001 - 1) = true := inB_of ⟨h0, by omega⟩
  have ey := hy.1
  have ey1 := hy.2.1
  have ey2 := hy.2.2.1
  have hq : n / 366 ≤ y := year_le hv hy (by
    have h1 := leaps_le (a := n / 366) hv (by omega)
    unfold start; omega)
  have E3 := hide e3
  have ub : start L C S 100001 ≤ 200000000 := by omega
  have s0 : 0 ≤ start L C S 100001 := by omega
  clear e1 e2 e3
  go_enter Try.func11, Try.ntmps11
  go_wp2_with fail
  refine (l24Ok_any _ _ _ _).mono ?_
  rintro e w1 ⟨rfl, hb1⟩
  obtain ⟨kc, kf, kz, kb⟩ := (Blk.new w 25 #[.int .i64 L, .int .i64 C, .int .i64 S]).after hb1 (by simp)
  go_wp2_with fail
  refine (l24Start_any _ _ _ _ _ hv (by omega) (by omega)).mono ?_
  rintro e w2 ⟨rfl, hb2⟩
  clear kc kf
  obtain ⟨kc, kf, kz2, kb2⟩ := kb.out.after hb2 kz
  go_wp2_with (go_at_call 19; refine (l00In_any _ _ _ _).mono ?_; rintro e w' ⟨rfl, rfl⟩)
  go_loopw [7] (fun i wr => ∃ k : Int, 0 ≤ k ∧ k ≤ y ∧ i = .int .i64 k ∧ Blk wr w.heap.size 25 #[.int .i64 L, .int .i64 C, .int .i64 S] ∧ Below w.heap.size w wr) (fun i _ => (y - intOf i).toNat)
  case atStart => exact ⟨_, by omega, hq, rfl, kb2.out, bstep (bstep ((Below.refl _ _).alloc (Nat.le_refl _) _) hb1 (by simp)) hb2 (by omega)⟩
  case round =>
    obtain ⟨k, hk0, hk, rfl, hB, hbel⟩ := hrel
    clear kc kf
    obtain ⟨kc, kf, kz3, kb3⟩ := hB.after (Below.refl (w.heap.size + 1) wr) (by omega)
    by_cases ht : start L C S (k + 1) ≤ n
    · have hlt := year_le hv hy ht
      go_wp2_with fail
      refine (l24Start_any _ _ _ _ _ hv (by omega) (by omega)).mono ?_
      rintro e w4 ⟨rfl, hb4⟩
      go_wp2
      go_roundw
      case rel => exact ⟨k + 1, by omega, hlt, rfl, (hb4.block _ kz3).trans hB, bstep hbel hb4 (by omega)⟩
      case measure => simp [intOf]; omega
    · have hlt := year_lt hv hy ht
      obtain rfl : k = y := by omega
      go_wp2_with fail
      refine (l24Start_any _ _ _ _ _ hv (by omega) (by omega)).mono ?_
      rintro e w4 ⟨rfl, hb4⟩
      clear kc kf
      obtain ⟨kc, kf, kz4, kb4⟩ := kb3.out.after hb4 kz3
      go_wp2_with fail
      refine (l24Start_any _ _ _ _ _ hv (by omega) (by omega)).mono ?_
      rintro e w5 ⟨rfl, hb5⟩
      have sk := (leaps_bd (y := k) hv (by omega) (by omega)).1
      have sk2 : 0 ≤ start L C S k := by unfold start; omega
      go_wp2
      go_ret3
      exact ⟨rfl, bstep (bstep hbel hb4 (by omega)) hb5 (by omega)⟩

end Go.Proofs.Ytdmhboabjmepeaa
