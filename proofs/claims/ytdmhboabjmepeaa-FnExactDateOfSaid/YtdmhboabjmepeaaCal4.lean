/- The contract of DateOf in the program, where the day has a year. -/
import Derived.Test.YtdmhboabjmepeaaCal3
import Derived.Deep.RegionHeld3
namespace Go.Proofs.Ytdmhboabjmepeaa
open Go.RowKit

def Keeps (w : World) (N : Nat) (t : TypeId) (cs : Array Value) (w' : World) : Prop := N = w.heap.size ∧ N < w'.heap.size ∧ Blk w' N t cs ∧ Below w.heap.size w w'
theorem keep3 {w W w1 : World} {N : Nat} {t : TypeId} {a b c : Value} (h : Keeps w N t #[a, b, c] W) (hb : Below W.heap.size W w1) :
    w1.cell? ⟨N, 0, none⟩ = some a ∧ w1.cell? ⟨N, 1, none⟩ = some b ∧ w1.cell? ⟨N, 2, none⟩ = some c ∧ Keeps w N t #[a, b, c] w1 := by
  obtain ⟨e, h1, h2, h3⟩ := h
  obtain ⟨kc, _, kz, kb⟩ := h2.after hb h1
  exact ⟨by rw [kc]; rfl, by rw [kc]; rfl, by rw [kc]; rfl, e, kz, kb.out, bstep h3 hb (by omega)⟩

theorem keep3s {w W w1 : World} {N : Nat} {t : TypeId} {a b c : Value} (h : W.cell? ⟨N, 0, none⟩ = some a ∧ W.cell? ⟨N, 1, none⟩ = some b ∧ W.cell? ⟨N, 2, none⟩ = some c ∧ Keeps w N t #[a, b, c] W) (hb : Below W.heap.size W w1) :
    w1.cell? ⟨N, 0, none⟩ = some a ∧ w1.cell? ⟨N, 1, none⟩ = some b ∧ w1.cell? ⟨N, 2, none⟩ = some c ∧ Keeps w N t #[a, b, c] w1 := keep3 h.2.2.2 hb
theorem keep3d {w W : World} {N : Nat} {t : TypeId} {a b c : Value} (h : Keeps w N t #[a, b, c] W) :
    W.drew.cell? ⟨N, 0, none⟩ = some a ∧ W.drew.cell? ⟨N, 1, none⟩ = some b ∧ W.drew.cell? ⟨N, 2, none⟩ = some c ∧ Keeps w N t #[a, b, c] W.drew := keep3 h (Below.refl _ _).drew

set_option maxHeartbeats 1000000 in
theorem implDateOf_yes (L C S n y : Int) (w : World) (hv : vrB L C S = true) (hy : IsYear L C S n y) (h0 : 0 ≤ n) (hn : n < start L C S 100001) :
    Calls Try.prog 12 #[.agg #[.int .i64 L, .int .i64 C, .int .i64 S], .int .i64 n] w fun e w' => e = .returned (.tuple #[.int .i64 y, .int .i64 (n - start L C S y), .int .i64 0]) ∧ Below w.heap.size w w' := by
  obtain ⟨e1, e2⟩ := leaps_bd (y := 100001) hv (by omega) (by omega)
  have e3 : start L C S 100001 = 36500365 + leaps L C S 100001 := by unfold start; omega
  have ez := start_zero hv
  have hin : inB n (start L C S 0) (start L C S 100001 - 1) = true := inB_of ⟨by omega, by omega⟩
  have ey := hy.1
  have ey1 := hy.2.1
  have ey2 := hy.2.2.1
  have E3 := hide e3
  have EZ := hide ez
  have ub : start L C S 100001 ≤ 200000000 := by omega
  have s0 : 0 ≤ start L C S 100001 := by omega
  have ew : IntKind.i64.wrap (start L C S 100001 - 1) = start L C S 100001 - 1 := IntWalk.i64_in _ (by omega)
  clear e1 e2 e3 ez
  go_enter Try.func12, Try.ntmps12
  go_wp2_with fail
  refine (implValidRule_any _ _ _ _).mono ?_
  rintro e w1 ⟨rfl, hb1⟩
  have kp : Keeps w w.heap.size 25 #[.int .i64 L, .int .i64 C, .int .i64 S] (w.alloc (.cells #[.int .i64 L, .int .i64 C, .int .i64 S] 25)) :=
    ⟨rfl, by simp, Blk.new _ _ _, (Below.refl _ _).alloc (Nat.le_refl _) _⟩
  obtain ⟨k0, k1, k2, kp1⟩ := keep3 kp hb1
  clear kp
  go_wp2_with fail
  go_region_held3 (fun w' => w'.cell? ⟨w.heap.size, 0, none⟩ = some (.int .i64 L) ∧ w'.cell? ⟨w.heap.size, 1, none⟩ = some (.int .i64 C) ∧ w'.cell? ⟨w.heap.size, 2, none⟩ = some (.int .i64 S) ∧ Keeps w w.heap.size 25 #[.int .i64 L, .int .i64 C, .int .i64 S] w')
    (first | assumption | exact keep3d kp1 | exact keep3s (by assumption) hb)
    (first | (go_at_call_of 21 (Value.int IntKind.i64 0); refine (first_any _ _ _ _ _ hv (by omega) (by omega)).mono ?_; rintro e w' ⟨rfl, hb⟩)
           | (go_at_call_of 21 (Value.int IntKind.i64 100001); refine (first_any _ _ _ _ _ hv (by omega) (by omega)).mono ?_; rintro e w' ⟨rfl, hb⟩)
           | (go_at_call 14; refine (within_any _ _ _ _).mono ?_; rintro e w' ⟨rfl, rfl⟩))
  obtain ⟨k0, k1, k2, kp2⟩ := (by assumption : _ ∧ _ ∧ _ ∧ Keeps w w.heap.size 25 #[.int .i64 L, .int .i64 C, .int .i64 S] _)
  obtain ⟨_, kz2, kb2, kl2⟩ := kp2
  have KB := hide kb2
  clear kb2
  go_wp2_with fail
  go_loopw [7, 8] (fun i j wr => ∃ a b : Int, 0 ≤ a ∧ a ≤ y ∧ y ≤ b ∧ b ≤ 100000 ∧ i = .int .i64 a ∧ j = .int .i64 b ∧ Blk wr w.heap.size 25 #[.int .i64 L, .int .i64 C, .int .i64 S] ∧ Below w.heap.size w wr) (fun i j _ => (intOf j - intOf i).toNat)
  case atStart => exact ⟨0, 100000, by omega, ey, ey1, by omega, rfl, rfl, KB.out, kl2⟩
  case round =>
    obtain ⟨a, b, ha0, ha, hb, hb1, rfl, rfl, hB, hbel⟩ := hrel
    clear k0 k1 k2 kz2
    obtain ⟨kc, kf, kz3, kb3⟩ := hB.after (Below.refl (w.heap.size + 1) wr) (by omega)
    by_cases hlt : a < b
    · by_cases ht : start L C S ((a + b + 1) / 2) ≤ n
      · have hle := year_le hv hy ht
        go_wp2_with fail
        refine (first_any _ _ _ _ _ hv (by omega) (by omega)).mono ?_
        rintro e w4 ⟨rfl, hb4⟩
        go_wp2
        go_roundw
        case rel => exact ⟨(a + b + 1) / 2, b, by omega, hle, by omega, by omega, rfl, rfl, (hb4.block _ kz3).trans hB, bstep hbel hb4 (by omega)⟩
        case measure => simp [intOf]; omega
      · have hle := year_lt hv hy ht
        go_wp2_with fail
        refine (first_any _ _ _ _ _ hv (by omega) (by omega)).mono ?_
        rintro e w4 ⟨rfl, hb4⟩
        go_wp2
        go_roundw
        case rel => exact ⟨a, (a + b + 1) / 2 - 1, by omega, by omega, by omega, by omega, rfl, rfl, (hb4.block _ kz3).trans hB, bstep hbel hb4 (by omega)⟩
        case measure => simp [intOf]; omega
    · obtain rfl : a = y := by omega
      go_wp2_with fail
      refine (first_any _ _ _ _ _ hv (by omega) (by omega)).mono ?_
      rintro e w5 ⟨rfl, hb5⟩
      have sk := (leaps_bd (y := a) hv (by omega) (by omega)).1
      have sk2 : 0 ≤ start L C S a := by unfold start; omega
      go_wp2
      go_ret3
      exact ⟨rfl, bstep hbel hb5 (by omega)⟩

end Go.Proofs.Ytdmhboabjmepeaa
