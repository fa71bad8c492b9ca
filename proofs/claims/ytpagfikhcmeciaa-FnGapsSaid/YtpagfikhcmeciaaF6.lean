/- Contracts that the laws use: the length of the code, lists of numbers compared. -/
import Derived.Test.YtpagfikhcmeciaaHeld
namespace Go.Proofs.Ytpagfikhcmeciaa
open Go.RowKit

theorem bch {w w1 w2 : World} (h : Below w.heap.size w w1) (h2 : Below w1.heap.size w1 w2) : Below w.heap.size w w2 := bstep h h2 h.size
theorem Blk.bel {w w' : World} {g : Nat} {t : TypeId} {cs : Array Value} (h : Blk w g t cs) (hb : Below w.heap.size w w') : Blk w' g t cs := (hb.block g h.lt).trans h
theorem f6big_any (A : Option Addr) (n c : Nat) (w : World) (hn : n ≤ 9223372036854775807) :
    Calls Try.prog 5 #[.slice A n c] w fun e w' => e = .returned (.bool (decide (4096 < n))) ∧ w = w' := by
  have e : decide ((4096 : Int) < (n : Int)) = decide (4096 < n) := by
    by_cases h : 4096 < n
    · rw [decide_eq_true h, decide_eq_true (by omega)]
    · rw [decide_eq_false h, decide_eq_false (by omega)]
  go_enter Try.func5, Try.ntmps5
  go_wp2
  go_ret
  exact ⟨by rw [← e]; rfl, rfl⟩

theorem f6ints_any (A1 A2 : Option Addr) (n c1 c2 B : Nat) (xs : List Int) (w : World) (hn : n ≤ 9223372036854775807) (h1 : Rd w B 1 A1 n (il xs)) (h2 : Rd w B 1 A2 n (il xs)) :
    Calls Try.prog 19 #[.slice A1 n c1, .slice A2 n c2] w fun e w' => e = .returned (.bool true) ∧ ∃ m, w' = w.drewN m := by
  have hl : xs.length = n := by have := h1.1; rw [il_len] at this; omega
  go_enter Try.func19, Try.ntmps19
  go_wp2
  go_loopw [5] (fun i wr => ∃ k m : Nat, i = .int .i64 k ∧ k ≤ n ∧ wr = w.drewN m) (fun i _ => n - (intOf i).toNat)
  case atStart => exact ⟨0, 0, rfl, by omega, rfl⟩
  case round =>
    obtain ⟨k, m, rfl, hk, rfl⟩ := hrel
    by_cases hlt : k < n
    · obtain ⟨b1, o1, rfl, _, e1⟩ := h1.cell hlt
      obtain ⟨b2, o2, rfl, _, e2⟩ := h2.cell hlt
      rw [il_at (by omega)] at e1 e2
      generalize xs[k] = x at *
      have hkz : (k : Int) < (n : Int) := by omega
      clear h1 h2 hl
      go_wp2
      go_quiet (fail)
      go_wp2
      go_roundw
      case rel => exact ⟨k + 1, _, by go_num, by omega, rfl⟩
      case measure => simp [intOf]; omega
    · go_wp2
      go_ret
      exact ⟨rfl, _, rfl⟩

theorem f6intsL_any (v1 v2 : Value) (B1 B2 : Nat) (xs : List Int) (w : World) (h1 : Lst w B1 v1 xs) (h2 : Lst w B2 v2 xs) :
    Calls Try.prog 19 #[v1, v2] w fun e w' => e = .returned (.bool true) ∧ Below w.heap.size w w' := by
  obtain ⟨A1, n, c1, rfl, hn, hb, h1⟩ := h1
  obtain ⟨A2, n2, c2, rfl, hn2, _, h2⟩ := h2
  obtain rfl : n2 = n := by omega
  refine (f6ints_any A1 A2 n2 c1 c2 _ xs w (by omega) (Lst.rd hn h1) (Lst.rd hn2 h2)).mono ?_
  rintro e w' ⟨rfl, m, rfl⟩
  exact ⟨rfl, belowN (Below.refl _ _) m⟩

theorem u8_rng {xs : List Int} (hw : ∀ z ∈ xs, (Lit.int .u8 z).wf = true) : ∀ x ∈ xs, 0 ≤ x ∧ x ≤ 255 := fun x hx => by
  have := hw x hx
  simp only [Lit.wf, Bool.and_eq_true, decide_eq_true_eq] at this
  exact this

end Go.Proofs.Ytpagfikhcmeciaa
