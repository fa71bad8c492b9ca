/- Draws: pick, one, among. -/
import Derived.Test.YtpagfikhcmeciaaSrc
namespace Go.Proofs.Ytpagfikhcmeciaa
open Go.RowKit

theorem pick_small (g B k : Nat) (n : Int) (w : World) (h : Src w g B (k + 2)) (hn : n ≤ 1) :
    Calls Try.prog 47 #[.pointer (some ⟨g, 0, none⟩), .int .i64 n] w fun e w' => ∃ v, e = .returned (.int .i64 v) ∧ 0 ≤ v ∧ (v = 0 ∨ v < n) ∧ Src w' g B k ∧ w.grownBy w' (some g) := by
  go_enter Try.func47, Try.ntmps47
  go_wp2
  go_ret
  exact ⟨0, rfl, by omega, .inl rfl, h.less (by omega), gbelow (Below.refl _ _) _⟩

theorem pick_mid (g B k : Nat) (n : Int) (w : World) (h : Src w g B (k + 2)) (hn : 1 < n) (hn2 : n ≤ 200) :
    Calls Try.prog 47 #[.pointer (some ⟨g, 0, none⟩), .int .i64 n] w fun e w' => ∃ v, e = .returned (.int .i64 v) ∧ 0 ≤ v ∧ (v = 0 ∨ v < n) ∧ Src w' g B k ∧ w.grownBy w' (some g) := by
  go_enter Try.func47, Try.ntmps47
  have hn0 : ¬ n = 0 := by omega
  go_wp2_with fail
  refine (srcNext_any g B (k + 1) _ h).mono ?_
  rintro e w1 ⟨v, rfl, v0, v1, hs, hg⟩
  have m1 := Int.emod_nonneg v hn0
  have m2 := Int.emod_lt_of_pos v (show 0 < n by omega)
  have m3 : v.tmod n = v % n := Int.tmod_eq_emod_of_nonneg v0
  go_wp2
  go_ret
  exact ⟨_, rfl, by omega, .inr (by omega), hs.less (by omega), hg⟩

theorem pick_big (g B k : Nat) (n : Int) (w : World) (h : Src w g B (k + 2)) (hn : 200 < n) :
    Calls Try.prog 47 #[.pointer (some ⟨g, 0, none⟩), .int .i64 n] w fun e w' => ∃ v, e = .returned (.int .i64 v) ∧ 0 ≤ v ∧ (v = 0 ∨ v < n) ∧ Src w' g B k ∧ w.grownBy w' (some g) := by
  go_enter Try.func47, Try.ntmps47
  have hn0 : ¬ n = 0 := by omega
  go_wp2_with fail
  refine (srcNext_any g B (k + 1) _ h).mono ?_
  rintro e w1 ⟨v, rfl, v0, v1, hs, hg⟩
  go_wp2_with fail
  refine (srcNext_any g B k _ hs).mono ?_
  rintro e w2 ⟨u, rfl, u0, u1, hs2, hg2⟩
  have m1 := Int.emod_nonneg (v * 256 + u) hn0
  have m2 := Int.emod_lt_of_pos (v * 256 + u) (show 0 < n by omega)
  have m3 : (v * 256 + u).tmod n = (v * 256 + u) % n := Int.tmod_eq_emod_of_nonneg (by omega)
  go_wp2
  go_ret
  exact ⟨_, rfl, by omega, .inr (by omega), hs2, gtrans hg hg2⟩

theorem pick_any (g B k : Nat) (n : Int) (w : World) (h : Src w g B (k + 2)) :
    Calls Try.prog 47 #[.pointer (some ⟨g, 0, none⟩), .int .i64 n] w fun e w' => ∃ v, e = .returned (.int .i64 v) ∧ 0 ≤ v ∧ (v = 0 ∨ v < n) ∧ Src w' g B k ∧ w.grownBy w' (some g) := by
  rcases (show n ≤ 1 ∨ (1 < n ∧ n ≤ 200) ∨ 200 < n by omega) with h1 | ⟨h1, h2⟩ | h1
  · exact pick_small g B k n w h h1
  · exact pick_mid g B k n w h h1 h2
  · exact pick_big g B k n w h h1

theorem one_any (g B k : Nat) (n : Int) (w : World) (h : Src w g B (k + 2)) :
    Calls Try.prog 45 #[.pointer (some ⟨g, 0, none⟩), .int .i64 n] w fun e w' => ∃ b, e = .returned (.bool b) ∧ Src w' g B k ∧ w.grownBy w' (some g) := by
  go_enter Try.func45, Try.ntmps45
  go_wp2_with fail
  refine (pick_any g B k n _ h).mono ?_
  rintro e w1 ⟨v, rfl, v0, v1, hs, hg⟩
  go_wp2
  go_ret
  exact ⟨_, rfl, hs, hg⟩

/-- A call whose callee takes from the source: the list of numbers lies in a block that is not the source's. -/
theorem among_any (g B k : Nat) (A : Option Addr) (n c : Nat) (zs : List Int) (w : World) (h : Src w g B (k + 2)) (hr : Rd w w.heap.size 1 A n (zs.map (Value.int .i64))) (hn : 0 < n) (hn2 : n ≤ 9223372036854775807) (hne : ∀ b o, A = some ⟨b, o, none⟩ → b ≠ g) :
    Calls Try.prog 46 #[.pointer (some ⟨g, 0, none⟩), .slice A n c] w fun e w' => ∃ v, e = .returned (.int .i64 v) ∧ v ∈ zs ∧ Src w' g B k ∧ w.grownBy w' (some g) := by
  obtain ⟨b, o, rfl, hb, hc⟩ := hr.2 hn
  have hl : zs.length = n := by have := hr.1; simpa using this
  have hbg := hne b o rfl
  go_enter Try.func46, Try.ntmps46
  go_wp2_with fail
  refine (pick_any g B k n _ h).mono ?_
  rintro e w1 ⟨v, rfl, v0, v1, hs, hg⟩
  have v2 : v < n := by omega
  obtain ⟨j, rfl⟩ := Int.eq_ofNat_of_zero_le v0
  have hj : j < zs.length := by omega
  have c1 : w1.cell? ⟨b, o + j, none⟩ = some (.int .i64 zs[j]) := by
    have := hc j _ (show (zs.map (Value.int .i64))[j]? = some (.int .i64 zs[j]) by simp [hj])
    rw [← this]
    exact World.cell?_of_block (w := w) (a := ⟨b, o + j, none⟩) (hg.block b hb (by intro h; injection h; omega))
  have hm := List.getElem_mem hj
  go_wp2
  go_ret
  exact ⟨_, rfl, hm, hs, hg⟩

end Go.Proofs.Ytpagfikhcmeciaa
