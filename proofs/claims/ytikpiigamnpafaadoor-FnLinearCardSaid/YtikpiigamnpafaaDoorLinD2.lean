/- The draws of the laws on linear equations. -/
import Derived.Test.YtikpiigamnpafaaDoorLinD
import Derived.Test.YtikpiigamnpafaaDoorLin5
namespace Go.Proofs.YtikpiigamnpafaaDoor
open Go.RowKit

theorem Src.base {w : World} {g B k : Nat} (h : Src w g B k) : B ≤ g := by obtain ⟨_, _, _, _, _, _, _, _, _, h4, _⟩ := h; exact h4
theorem Src.drewN {w : World} {g B k : Nat} (h : Src w g B k) (m : Nat) : Src (w.drewN m) g B k := h
theorem belowSrc {w w1 w2 : World} {g k : Nat} (h : Below w.heap.size w w1) (hs : Src w1 g w.heap.size k) (hg : w1.grownBy w2 (some g)) : Below w.heap.size w w2 :=
  h.grown hg h.size (fun k hk => by injection hk; have := hs.base; omega)

theorem l21Plus_any (A : Option Addr) (n c : Nat) (xs : List Int) (w : World) (h : Rd w w.heap.size 1 A n (u8l xs)) (hn : n ≤ 9223372036854775807) (hx : ∀ x ∈ xs, 0 ≤ x ∧ x ≤ 255) :
    Calls Tryd.prog 49 #[.slice A n c] w fun e w' => ∃ a b c, e = .returned (.tuple #[.int .i64 a, .int .i64 b, .int .i64 c]) ∧ Below w.heap.size w w' := by
  go_enter Tryd.func49, Tryd.ntmps49
  go_wp2_with fail
  refine (l00From_any A n c xs _ h hn hx).mono ?_
  rintro e w1 ⟨g, rfl, hs1, hb1⟩
  go_wp2_with fail
  refine (l21Draw_any g _ 1000 _ (hs1.less (by omega))).mono ?_
  rintro e w2 ⟨a, b, c, rfl, hs2, hg2⟩
  have hb2 := belowSrc hb1 hs1 hg2
  have hC := l21Code_any false a b c
  go_wp2_with fail
  rcases Bool.eq_false_or_eq_true (liB a b c) with hl | hl
  · have hr := liB_iff.1 hl
    rw [show lcode false a b c = 0 by simp [lcode, hl]] at hC
    refine (hC _).mono ?_
    rintro e w3 ⟨rfl, m, rfl⟩
    go_wp2_with fail
    refine (one_any g _ 900 _ _ ((hs2.drewN m).less (by omega))).mono ?_
    rintro e w3 ⟨b4, rfl, hs3, hg3⟩
    have hb3 : Below w.heap.size w w3 := belowSrc (belowN hb2 m) (hs2.drewN m) hg3
    cases b4
    · go_wp2_with fail
      refine (specSize_any _ _ (by omega) (by omega)).mono ?_
      rintro e w4 ⟨rfl, rfl⟩
      go_wp2_with fail
      refine (specSize_any _ _ (by omega) (by omega)).mono ?_
      rintro e w4 ⟨rfl, rfl⟩
      go_wp2_with fail
      refine (specSize_any _ _ (by omega) (by omega)).mono ?_
      rintro e w4 ⟨rfl, rfl⟩
      go_wp2_with fail
      go_returns
      exact ⟨_, _, _, rfl, hb3⟩
    · go_wp2_with fail
      go_returns
      exact ⟨_, _, _, rfl, hb3⟩
  · rw [show lcode false a b c = 2 by simp [lcode, hl]] at hC
    refine (hC _).mono ?_
    rintro e w3 ⟨rfl, m, rfl⟩
    go_wp2_with fail
    go_returns
    exact ⟨_, _, _, rfl, belowN hb2 m⟩

end Go.Proofs.YtikpiigamnpafaaDoor
