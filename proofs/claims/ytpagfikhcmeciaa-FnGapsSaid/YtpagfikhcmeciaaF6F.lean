/- Lists of fractions as the laws compare them. -/
import Derived.Test.YtpagfikhcmeciaaHeldF
import Derived.Test.YtpagfikhcmeciaaF6
namespace Go.Proofs.Ytpagfikhcmeciaa
open Go.RowKit

set_option maxRecDepth 100000 in
theorem f6fractions_any (v1 v2 : Value) (B1 B2 : Nat) (xs : List (Int × Int)) (w : World) (h1 : LstF w B1 v1 xs) (h2 : LstF w B2 v2 xs) :
    Calls Try.prog 18 #[v1, v2] w fun e w' => e = .returned (.bool true) ∧ Below w.heap.size w w' := by
  obtain ⟨A1, n, c1, rfl, hn, hb, h1⟩ := h1
  obtain ⟨A2, n2, c2, rfl, hn2, _, h2⟩ := h2
  obtain rfl : n2 = n := by omega
  have r1 := LstF.rd hn h1
  have r2 := LstF.rd hn h2
  have HN := hide hn
  clear h1 h2 hn hn2
  go_enter Try.func18, Try.ntmps18
  go_wp2
  go_loopw [5] (fun i wr => ∃ k : Nat, i = .int .i64 k ∧ k ≤ n2 ∧ Below w.heap.size w wr) (fun i _ => n2 - (intOf i).toNat)
  case atStart => exact ⟨0, rfl, by omega, Below.refl _ _⟩
  case round =>
    obtain ⟨k, rfl, hk, hbel⟩ := hrel
    by_cases hlt : k < n2
    · obtain ⟨b1, o1, rfl, _, e1, e2⟩ := (r1.below hbel).cell2 HN.out.symm hlt
      obtain ⟨b2, o2, rfl, _, e3, e4⟩ := (r2.below hbel).cell2 HN.out.symm hlt
      generalize (xs[k]'(by rw [← HN.out]; exact hlt)).1 = x at *
      generalize (xs[k]'(by rw [← HN.out]; exact hlt)).2 = y at *
      have hkz : (k : Int) < (n2 : Int) := by omega
      clear r1 r2
      go_wp2_with fail
      go_quiet (fail)
      go_wp2_with fail
      go_roundw
      case rel => exact ⟨k + 1, by go_num, by omega, belowN hbel _⟩
      case measure => simp [intOf]; omega
    · go_wp2
      go_ret
      exact ⟨rfl, hbel⟩

theorem LstF.cellAt {w : World} {B : Nat} {A : Option Addr} {n cap : Nat} {xs : List (Int × Int)} (h : LstF w B (.slice A n cap) xs) {i : Nat} (hi : i < n) : ∃ g, A = some ⟨g, 0, none⟩ ∧ g < w.heap.size ∧ ∃ hl : i < xs.length, w.cell? ⟨g, i * 2, none⟩ = some (.int .i64 (xs[i]).1) ∧ w.cell? ⟨g, i * 2 + 1, none⟩ = some (.int .i64 (xs[i]).2) := by
  obtain ⟨A', n', cap', e, hn, _, h | ⟨g, hA, hg, hr⟩⟩ := h
  · cases e; omega
  · cases e
    obtain ⟨e1, e2⟩ := cs2_at (fs := xs) (i := i) (by omega)
    exact ⟨g, hA, hr.lt, by omega, hr.cell e1, hr.cell e2⟩

end Go.Proofs.Ytpagfikhcmeciaa
