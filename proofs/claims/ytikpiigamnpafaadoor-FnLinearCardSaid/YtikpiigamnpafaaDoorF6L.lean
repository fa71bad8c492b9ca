/- Lists of numbers and lists of such lists, as the law on linear equations compares them. -/
import Derived.Test.YtikpiigamnpafaaDoorNat
import Derived.Lib.QuietBelow
namespace Go.Proofs.YtikpiigamnpafaaDoor
open Go.RowKit Go.Sort

theorem bch {w w1 w2 : World} (h : Below w.heap.size w w1) (h2 : Below w1.heap.size w1 w2) : Below w.heap.size w w2 := bstep h h2 h.size


theorem f6ints_any (A1 A2 : Option Addr) (n c1 c2 B : Nat) (xs : List Int) (w : World) (hn : n ≤ 9223372036854775807) (h1 : Rd w B 1 A1 n (il xs)) (h2 : Rd w B 1 A2 n (il xs)) :
    Calls Tryd.prog 52 #[.slice A1 n c1, .slice A2 n c2] w fun e w' => e = .returned (.bool true) ∧ ∃ m, w' = w.drewN m := by
  have hl : xs.length = n := by have := h1.1; rw [il_len] at this; omega
  go_enter Tryd.func52, Tryd.ntmps52
  go_wp2
  go_loopw [5] (fun i wr => ∃ k m : Nat, i = .int .i64 k ∧ k ≤ n ∧ wr = w.drewN m) (fun i _ => n - (intOf i).toNat)
  case atStart => exact ⟨0, 0, rfl, by omega, rfl⟩
  case round =>
    obtain ⟨k, m, rfl, hk, rfl⟩ := hrel
    by_cases hlt : k < n
    · obtain ⟨b1, o1, rfl, _, e1⟩ := h1.cell hlt
      obtain ⟨b2, o2, rfl, _, e2⟩ := h2.cell hlt
      rw [il_at (by omega)] at e1 e2
      generalize xs[k] = x at *
      have hkz : (k : Int) < (n : Int) := by omega
      clear h1 h2 hl
      go_wp2
      go_quiet (fail)
      go_wp2
      go_roundw
      case rel => exact ⟨k + 1, _, by go_num, by omega, rfl⟩
      case measure => simp [intOf]; omega
    · go_wp2
      go_ret
      exact ⟨rfl, _, rfl⟩

set_option maxHeartbeats 1000000 in
theorem f6lists_any (v1 v2 : Value) (B1 B2 m : Nat) (gs1 gs2 : List Nat) (ps : List (Int × Int)) (w : World) (h1 : RR w B1 v1 m gs1 ps) (h2 : RR w B2 v2 m gs2 ps) (hm : m ≤ 1000) :
    Calls Tryd.prog 23 #[v1, v2] w fun e w' => e = .returned (.bool true) ∧ Below w.heap.size w w' := by
  have mixed : Tryd.prog.follows .mixedOrders = true := by kernel_rfl
  have H1 := hide h1
  have H2 := hide h2
  obtain ⟨A1, c1, rfl, r1⟩ := h1.form
  obtain ⟨A2, c2, rfl, r2⟩ := h2.form
  clear h1 h2
  go_enter Tryd.func23, Tryd.ntmps23
  go_wp2
  go_loopw [5] (fun i wr => ∃ k : Nat, i = .int .i64 k ∧ k ≤ m ∧ Below w.heap.size w wr) (fun i _ => m - (intOf i).toNat)
  case atStart => exact ⟨0, rfl, by omega, Below.refl _ _⟩
  case round =>
    obtain ⟨k, rfl, hk, hbel⟩ := hrel
    by_cases hlt : k < m
    · have hg1 : k < gs1.length := by rw [H1.out.gl]; exact hlt
      have hg2 : k < gs2.length := by rw [H2.out.gl]; exact hlt
      have hp : k < ps.length := by rw [H1.out.pl]; exact hlt
      obtain ⟨b1, o1, rfl, hb1, hc1⟩ := r1.2 (by omega)
      obtain ⟨b2, o2, rfl, hb2, hc2⟩ := r2.2 (by omega)
      have e1 := hc1 k _ (sls_at hg1)
      have e2 := hc2 k _ (sls_at hg2)
      have i1 := (H1.out.inner hg1 hp)
      have i2 := (H2.out.inner hg2 hp)
      generalize gs1[k] = g1 at *
      generalize gs2[k] = g2 at *
      generalize ps[k] = p at *
      have q1 : Rd wr wr.heap.size 1 (some ⟨g1, 0, none⟩) 2 (il [p.1, p.2]) := ((i1.below hbel i1.lt)).rd
      have q2 : Rd wr wr.heap.size 1 (some ⟨g2, 0, none⟩) 2 (il [p.1, p.2]) := ((i2.below hbel i2.lt)).rd
      have x1 : ∀ d os, (grow (redrawn wr d) os).cell? ⟨b1, o1 + k, none⟩ = some (.slice (some ⟨g1, 0, none⟩) 2 2) := fun d os => cell_regrown ((hbel.cell (p := ⟨b1, o1 + k, none⟩) hb1).trans e1) d os
      have x2 : ∀ d os, (grow (redrawn wr d) os).cell? ⟨b2, o2 + k, none⟩ = some (.slice (some ⟨g2, 0, none⟩) 2 2) := fun d os => cell_regrown ((hbel.cell (p := ⟨b2, o2 + k, none⟩) hb2).trans e2) d os
      have cN : ∀ d os, Calls Tryd.prog 52 #[.slice (some ⟨g1, 0, none⟩) 2 2, .slice (some ⟨g2, 0, none⟩) 2 2] (grow (redrawn wr d) os) fun e w'' => e = .returned (.bool true) ∧ ∃ p : Regrown, w'' = grow (redrawn wr p.d) p.os := fun d os =>
        Calls.regrown_of ((f6ints_any _ _ 2 2 2 wr.heap.size _ _ (by omega) (q1.below (below_regrown wr d os)) (q2.below (below_regrown wr d os))).mono fun e w' ⟨he, n, hw⟩ => ⟨he, by rw [hw]; exact belowN (Below.refl _ _) n⟩)
      have hkz : (k : Int) < (m : Int) := by omega
      clear q1 q2 i1 i2 e1 e2 hc1 hc2 r1 r2 hg1 hg2 hp
      go_wp2_with fail
      refine wp_region_quiet_below (by assumption) (by kernel_rfl) ?_
      repeat (first | go_big_quiet_step (with_reducible exact cN _ _) | quiet_step ((with_reducible exact cN _ _)))
      refine wpQuiet_nil ?_
      intro _ hw'
      obtain ⟨⟨dq, osq⟩, hw''⟩ := hw'
      subst hw''
      have hb3 := below_regrown wr dq osq
      generalize grow (redrawn wr dq) osq = wn at *
      clear x1 x2 cN
      go_wp2_with fail
      go_roundw
      case rel => exact ⟨k + 1, by go_num, by omega, bch hbel hb3⟩
      case measure => simp [intOf]; omega
    · go_wp2
      go_ret
      exact ⟨rfl, hbel⟩

end Go.Proofs.YtikpiigamnpafaaDoor
