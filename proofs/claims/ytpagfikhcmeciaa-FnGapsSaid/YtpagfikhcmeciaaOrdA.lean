/- What multiples leave, in the program and in the reference; how the program compares two of them. -/
import Derived.Test.YtpagfikhcmeciaaFracP
import Derived.Test.YtpagfikhcmeciaaNumM
import Derived.Test.YtpagfikhcmeciaaGapQ
import Derived.Test.YtpagfikhcmeciaaSrt
import Derived.Shelf.SlSortCmp.QuietGrown
namespace Go.Proofs.Ytpagfikhcmeciaa
open Go.RowKit Go.Sort

theorem mul_bd {k p : Int} (hk : 0 ≤ k ∧ k ≤ 1000000000) (hp : -1000000000 ≤ p ∧ p ≤ 1000000000) : -1000000000000000000 ≤ k * p ∧ k * p ≤ 1000000000000000000 := by
  have h1 : k * p ≤ k * 1000000000 := Int.mul_le_mul_of_nonneg_left hp.2 hk.1
  have h2 : k * (-1000000000) ≤ k * p := Int.mul_le_mul_of_nonneg_left hp.1 hk.1
  omega

theorem leaves_any (p q k : Int) (w : World) (hk : 0 ≤ k ∧ k ≤ 1000000000) (hp : -1000000000 ≤ p ∧ p ≤ 1000000000) (hq : 1 ≤ q ∧ q ≤ 1000000000) :
    Calls Try.prog 51 #[.agg #[.int .i64 p, .int .i64 q], .int .i64 k] w fun e w' => e = .returned (.int .i64 (rst p q k)) ∧ ∃ m os, w' = grow (w.drewN m) os := by
  have hb := mul_bd hk hp
  unfold rst
  obtain ⟨x, hx⟩ : ∃ x, k * p = x := ⟨_, rfl⟩
  rw [hx] at hb ⊢
  go_enter Try.func51, Try.ntmps51
  go_wp2_with fail
  refine (floorMod_any x q _ (by omega) (by omega) (by omega) (by omega) (by omega)).mono ?_
  rintro e w1 ⟨rfl, rfl⟩
  go_wp2_with fail
  go_ret
  exact ⟨rfl, 0, _, alloc_eq_grow _ _⟩

theorem l20Rest_any (p q k : Int) (w : World) (hk : 0 ≤ k ∧ k ≤ 1000000000) (hq : 1 ≤ q ∧ q ≤ 1000000000) :
    Calls Try.prog 55 #[.agg #[.int .i64 p, .int .i64 q], .int .i64 k] w fun e w' => e = .returned (.int .i64 (rst p q k)) ∧ ∃ m os, w' = grow (w.drewN m) os := by
  have m1 := Int.emod_nonneg p (show q ≠ 0 by omega)
  have m2 := Int.emod_lt_of_pos p (show 0 < q by omega)
  have hb := mul_bd hk (p := p % q) (by omega)
  have hb0 := Int.mul_nonneg m1 hk.1
  have he : p % q * k % q = rst p q k := by unfold rst; rw [Int.mul_emod (p % q) k q, Int.emod_emod_of_dvd p (Int.dvd_refl q), ← Int.mul_emod, Int.mul_comm]
  rw [← he]
  rw [Int.mul_comm] at hb
  have q1 : ∀ w', Calls Try.prog 70 #[.int .i64 p, .int .i64 q] w' fun e w'' => e = .returned (.int .i64 (p % q)) ∧ w' = w'' := fun w' => specMod_any p q w' (by omega) (by omega)
  have q2 : ∀ w', Calls Try.prog 70 #[.int .i64 (p % q * k), .int .i64 q] w' fun e w'' => e = .returned (.int .i64 (p % q * k % q)) ∧ w' = w'' := fun w' => specMod_any (p % q * k) q w' (by omega) (by omega)
  clear he
  generalize p % q = y at *
  generalize hx : y * k = x at *
  have s1 : IntKind.i64.wrap x = x := IntWalk.i64_in _ (by omega)
  go_enter Try.func55, Try.ntmps55
  go_wp2_with fail
  go_quiet (first | (with_reducible exact qS (q1 _)) | (with_reducible exact qS (q2 _)))
  go_wp2
  go_ret
  exact ⟨rfl, _, _, by rw [alloc_eq_grow]; rfl⟩

def cmp3 (x y : Int) : Int := if x < y then -1 else if y < x then 1 else 0

theorem isNaN_any (x : Int) (w : World) :
    Calls Try.prog 75 #[.int .i64 x] w fun e w' => e = .returned (.bool false) ∧ w = w' := by
  go_enter Try.func75, Try.ntmps75
  have : (x != x) = false := by simp
  go_wp2
  go_ret
  exact ⟨by first | rfl | simp, rfl⟩

theorem compare_any (x y : Int) (w : World) :
    Calls Try.prog 62 #[.int .i64 x, .int .i64 y] w fun e w' => e = .returned (.int .i64 (cmp3 x y)) ∧ ∃ m os, w' = grow (w.drewN m) os := by
  have hc : (x < y ∧ cmp3 x y = -1) ∨ ((¬ x < y ∧ y < x) ∧ cmp3 x y = 1) ∨ ((¬ x < y ∧ ¬ y < x) ∧ cmp3 x y = 0) := by
    unfold cmp3
    by_cases h : x < y
    · exact .inl ⟨h, if_pos h⟩
    · by_cases h' : y < x
      · exact .inr (.inl ⟨⟨h, h'⟩, by rw [if_neg h, if_pos h']⟩)
      · exact .inr (.inr ⟨⟨h, h'⟩, by rw [if_neg h, if_neg h']⟩)
  go_enter Try.func62, Try.ntmps62
  rcases hc with ⟨h, hr⟩ | ⟨⟨h, h'⟩, hr⟩ | ⟨⟨h, h'⟩, hr⟩
  all_goals
    have HR := hide hr
    clear hr
    go_wp2_with fail
    refine (isNaN_any _ _).mono ?_
    rintro e w1 ⟨rfl, rfl⟩
    go_wp2_with fail
    refine (isNaN_any _ _).mono ?_
    rintro e w1 ⟨rfl, rfl⟩
    go_wp2_with fail
    go_ret
    exact ⟨by rw [HR.out]; rfl, 0, #[], by rw [grow_empty]; rfl⟩

set_option maxHeartbeats 1000000 in
/-- The comparing closure, in whatever world holds the fraction in its block. -/
theorem ordered1_any (p q : Int) (fb : Nat) (x y : Int) (w : World) (hx : 0 ≤ x ∧ x ≤ 1000000000) (hy : 0 ≤ y ∧ y ≤ 1000000000) (hp : -1000000000 ≤ p ∧ p ≤ 1000000000) (hq : 1 ≤ q ∧ q ≤ 1000000000)
    (h0 : w.cell? ⟨fb, 0, none⟩ = some (.int .i64 p)) (h1 : w.cell? ⟨fb, 1, none⟩ = some (.int .i64 q)) (hb : fb < w.heap.size) :
    Calls Try.prog 61 #[.int .i64 x, .int .i64 y, .pointer (some ⟨fb, 0, none⟩)] w fun e w' => e = .returned (.int .i64 (cmp3 (rst p q x) (rst p q y))) ∧ ∃ m os, w' = grow (w.drewN m) os := by
  have l1 := cell_grown (a := ⟨fb, 0, none⟩) hb h0
  have l2 := cell_grown (a := ⟨fb, 1, none⟩) hb h1
  have c1 := fun w' => leaves_any p q x w' hx hp hq
  have c2 := fun w' => leaves_any p q y w' hy hp hq
  have c3 := fun w' => compare_any (rst p q x) (rst p q y) w'
  generalize rst p q x = u at *
  generalize rst p q y = v at *
  generalize cmp3 u v = r at *
  clear hx hy hp hq
  have mixed : Try.prog.follows .mixedOrders = true := by kernel_rfl
  go_enter Try.func61, Try.ntmps61
  go_wp2_with fail
  go_quiet_grown (first
    | (with_reducible exact Calls.grown_of (c1 _))
    | (with_reducible exact Calls.grown_of (c2 _))
    | (with_reducible exact Calls.grown_of (c3 _)))
  go_wp2
  go_ret
  exact ⟨rfl, _, _, rfl⟩

end Go.Proofs.Ytpagfikhcmeciaa
