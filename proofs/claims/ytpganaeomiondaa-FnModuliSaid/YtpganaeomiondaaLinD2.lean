/- The draws of the laws on linear equations. -/
import Derived.Test.YtpganaeomiondaaLinD
import Derived.Test.YtpganaeomiondaaLin5
namespace Go.Proofs.Ytpganaeomiondaa
open Go.RowKit

theorem Src.base {w : World} {g B k : Nat} (h : Src w g B k) : B ≤ g := by obtain ⟨_, _, _, _, _, _, _, _, _, h4, _⟩ := h; exact h4
theorem Src.drewN {w : World} {g B k : Nat} (h : Src w g B k) (m : Nat) : Src (w.drewN m) g B k := h
theorem belowSrc {w w1 w2 : World} {g k : Nat} (h : Below w.heap.size w w1) (hs : Src w1 g w.heap.size k) (hg : w1.grownBy w2 (some g)) : Below w.heap.size w w2 :=
  h.grown hg h.size (fun k hk => by injection hk; have := hs.base; omega)

theorem l21Plus_any (A : Option Addr) (n c : Nat) (xs : List Int) (w : World) (h : Rd w w.heap.size 1 A n (u8l xs)) (hn : n ≤ 9223372036854775807) (hx : ∀ x ∈ xs, 0 ≤ x ∧ x ≤ 255) :
    Calls Try.prog 68 #[.slice A n c] w fun e w' => ∃ a b c, e = .returned (.tuple #[.int .i64 a, .int .i64 b, .int .i64 c]) ∧ Below w.heap.size w w' := by
  go_enter Try.func68, Try.ntmps68
  go_wp2_with fail
  refine (l00From_any A n c xs _ h hn hx).mono ?_
  rintro e w1 ⟨g, rfl, hs1, hb1⟩
  go_wp2_with fail
  refine (l21Draw_any g _ 1000 _ (hs1.less (by omega))).mono ?_
  rintro e w2 ⟨a, b, c, rfl, hs2, hg2⟩
  have hb2 := belowSrc hb1 hs1 hg2
  have hC := l21Code_any false a b c
  go_wp2_with fail
  rcases Bool.eq_false_or_eq_true (liB a b c) with hl | hl
  · have hr := liB_iff.1 hl
    rw [show lcode false a b c = 0 by simp [lcode, hl]] at hC
    refine (hC _).mono ?_
    rintro e w3 ⟨rfl, m, rfl⟩
    go_wp2_with fail
    refine (one_any g _ 900 _ _ ((hs2.drewN m).less (by omega))).mono ?_
    rintro e w3 ⟨b4, rfl, hs3, hg3⟩
    have hb3 : Below w.heap.size w w3 := belowSrc (belowN hb2 m) (hs2.drewN m) hg3
    cases b4
    · go_wp2_with fail
      refine (specSize_any _ _ (by omega) (by omega)).mono ?_
      rintro e w4 ⟨rfl, rfl⟩
      go_wp2_with fail
      refine (specSize_any _ _ (by omega) (by omega)).mono ?_
      rintro e w4 ⟨rfl, rfl⟩
      go_wp2_with fail
      refine (specSize_any _ _ (by omega) (by omega)).mono ?_
      rintro e w4 ⟨rfl, rfl⟩
      go_wp2_with fail
      go_returns
      exact ⟨_, _, _, rfl, hb3⟩
    · go_wp2_with fail
      go_returns
      exact ⟨_, _, _, rfl, hb3⟩
  · rw [show lcode false a b c = 2 by simp [lcode, hl]] at hC
    refine (hC _).mono ?_
    rintro e w3 ⟨rfl, m, rfl⟩
    go_wp2_with fail
    go_returns
    exact ⟨_, _, _, rfl, belowN hb2 m⟩

theorem drawGreatestMissing_any (A : Option Addr) (n c : Nat) (xs : List Int) (w : World) (h : Rd w w.heap.size 1 A n (u8l xs)) (hn : n ≤ 9223372036854775807) (hx : ∀ x ∈ xs, 0 ≤ x ∧ x ≤ 255) :
    Calls Try.prog 38 #[.slice A n c] w fun e w' => ∃ a b, e = .returned (.tuple #[.int .i64 a, .int .i64 b]) ∧ Below w.heap.size w w' := by
  go_enter Try.func38, Try.ntmps38
  go_wp2_with fail
  refine (l21Plus_any A n c xs _ h hn hx).mono ?_
  rintro e w1 ⟨a, b, c, rfl, hb1⟩
  go_wp2_with fail
  go_returns
  exact ⟨_, _, rfl, hb1⟩

theorem drawCountMissing_any (A : Option Addr) (n c : Nat) (xs : List Int) (w : World) (h : Rd w w.heap.size 1 A n (u8l xs)) (hn : n ≤ 9223372036854775807) (hx : ∀ x ∈ xs, 0 ≤ x ∧ x ≤ 255) :
    Calls Try.prog 39 #[.slice A n c] w fun e w' => ∃ a b, e = .returned (.tuple #[.int .i64 a, .int .i64 b]) ∧ Below w.heap.size w w' := by
  go_enter Try.func39, Try.ntmps39
  go_wp2_with fail
  refine (l21Plus_any A n c xs _ h hn hx).mono ?_
  rintro e w1 ⟨a, b, c, rfl, hb1⟩
  go_wp2_with fail
  go_returns
  exact ⟨_, _, rfl, hb1⟩

set_option maxRecDepth 100000 in
set_option maxHeartbeats 2000000 in
theorem drawSolveModulo_any (A : Option Addr) (n c : Nat) (xs : List Int) (w : World) (h : Rd w w.heap.size 1 A n (u8l xs)) (hn : n ≤ 9223372036854775807) (hx : ∀ x ∈ xs, 0 ≤ x ∧ x ≤ 255) :
    Calls Try.prog 35 #[.slice A n c] w fun e w' => ∃ a b c, e = .returned (.tuple #[.int .i64 a, .int .i64 b, .int .i64 c]) ∧ Below w.heap.size w w' := by
  go_enter Try.func35, Try.ntmps35
  go_wp2_with fail
  refine (l00From_any A n c xs _ h hn hx).mono ?_
  rintro e w1 ⟨g, rfl, hs1, hb1⟩
  go_wp2_with fail
  refine (pick_any g _ 900 _ _ (hs1.less (by omega))).mono ?_
  rintro e w2 ⟨a, rfl, a0, a1, hs2, hg2⟩
  have a2 : a < 200 := by omega
  have hb2 := belowSrc hb1 hs1 hg2
  go_wp2_with fail
  refine (pick_any g _ 800 _ _ (hs2.less (by omega))).mono ?_
  rintro e w3 ⟨b, rfl, b0, b1, hs3, hg3⟩
  have b2 : b < 200 := by omega
  have hb3 := belowSrc hb2 hs2 hg3
  go_wp2_with fail
  refine (pick_any g _ 700 _ _ (hs3.less (by omega))).mono ?_
  rintro e w4 ⟨d, rfl, d0, d1, hs4, hg4⟩
  have d2 : d < 80 := by omega
  have hb4 := belowSrc hb3 hs3 hg4
  go_wp2_with fail
  refine (pick_any g _ 600 _ _ (hs4.less (by omega))).mono ?_
  rintro e w5 ⟨u, rfl, u0, u1, hs5, hg5⟩
  have hb5 := belowSrc hb4 hs4 hg5
  clear hs1 hs2 hs3 hs4 hg2 hg3 hg4 hg5 hb1 hb2 hb3 hb4
  go_wp2_with fail
  all_goals
    first
    | (refine (among_new g _ 100 _ _ _ (hs5.less (by omega)) (by rfl) (by rfl) (by omega) (by omega)).mono ?_
       rintro e w6 ⟨v, rfl, hs6, hg6⟩
       go_wp2
       go_returns
       exact ⟨_, _, _, rfl, belowSrc hb5 hs5 hg6⟩)
    | (go_returns
       exact ⟨_, _, _, rfl, hb5⟩)

theorem drawInverseModulo_any (A : Option Addr) (n c : Nat) (xs : List Int) (w : World) (h : Rd w w.heap.size 1 A n (u8l xs)) (hn : n ≤ 9223372036854775807) (hx : ∀ x ∈ xs, 0 ≤ x ∧ x ≤ 255) :
    Calls Try.prog 36 #[.slice A n c] w fun e w' => ∃ a b, e = .returned (.tuple #[.int .i64 a, .int .i64 b]) ∧ Below w.heap.size w w' := by
  go_enter Try.func36, Try.ntmps36
  go_wp2_with fail
  refine (drawSolveModulo_any A n c xs _ h hn hx).mono ?_
  rintro e w1 ⟨a, b, c, rfl, hb1⟩
  go_wp2_with fail
  go_returns
  exact ⟨_, _, rfl, hb1⟩

set_option maxRecDepth 100000 in
set_option maxHeartbeats 2000000 in
theorem drawJoinRests_any (A : Option Addr) (n c : Nat) (xs : List Int) (w : World) (h : Rd w w.heap.size 1 A n (u8l xs)) (hn : n ≤ 9223372036854775807) (hx : ∀ x ∈ xs, 0 ≤ x ∧ x ≤ 255) :
    Calls Try.prog 37 #[.slice A n c] w fun e w' => ∃ a b c d, e = .returned (.tuple #[.int .i64 a, .int .i64 b, .int .i64 c, .int .i64 d]) ∧ Below w.heap.size w w' := by
  go_enter Try.func37, Try.ntmps37
  go_wp2_with fail
  refine (l00From_any A n c xs _ h hn hx).mono ?_
  rintro e w1 ⟨g, rfl, hs1, hb1⟩
  go_wp2_with fail
  refine (pick_any g _ 900 _ _ (hs1.less (by omega))).mono ?_
  rintro e w2 ⟨a, rfl, a0, a1, hs2, hg2⟩
  have a2 : a < 100 := by omega
  have hb2 := belowSrc hb1 hs1 hg2
  go_wp2_with fail
  refine (pick_any g _ 800 _ _ (hs2.less (by omega))).mono ?_
  rintro e w3 ⟨b, rfl, b0, b1, hs3, hg3⟩
  have b2 : b < 60 := by omega
  have hb3 := belowSrc hb2 hs2 hg3
  go_wp2_with fail
  refine (pick_any g _ 700 _ _ (hs3.less (by omega))).mono ?_
  rintro e w4 ⟨d, rfl, d0, d1, hs4, hg4⟩
  have d2 : d < 100 := by omega
  have hb4 := belowSrc hb3 hs3 hg4
  go_wp2_with fail
  refine (pick_any g _ 600 _ _ (hs4.less (by omega))).mono ?_
  rintro e w5 ⟨f, rfl, f0, f1, hs5, hg5⟩
  have f2 : f < 60 := by omega
  have hb5 := belowSrc hb4 hs4 hg5
  go_wp2_with fail
  refine (pick_any g _ 500 _ _ (hs5.less (by omega))).mono ?_
  rintro e w6 ⟨u, rfl, u0, u1, hs6, hg6⟩
  have hb6 := belowSrc hb5 hs5 hg6
  clear hs1 hs2 hs3 hs4 hs5 hg2 hg3 hg4 hg5 hg6 hb1 hb2 hb3 hb4 hb5
  go_wp2_with fail
  all_goals
    first
    | (refine (among_new g _ 100 _ _ _ (hs6.less (by omega)) (by rfl) (by rfl) (by omega) (by omega)).mono ?_
       rintro e w7 ⟨v, rfl, hs7, hg7⟩
       go_wp2
       go_returns
       exact ⟨_, _, _, _, rfl, belowSrc hb6 hs6 hg7⟩)
    | (go_returns
       exact ⟨_, _, _, _, rfl, hb6⟩)

end Go.Proofs.Ytpganaeomiondaa
