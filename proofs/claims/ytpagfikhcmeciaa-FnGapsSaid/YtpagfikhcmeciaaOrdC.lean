/- The program's order of multiples: the walk. -/
import Derived.Test.YtpagfikhcmeciaaOrdB
namespace Go.Proofs.Ytpagfikhcmeciaa
open Go.RowKit Go.Sort

theorem fillI_step {n k : Nat} (h : k < n) : (il (rng k ++ List.replicate (n - k) 0)).set k (.int .i64 (k : Int)) = il (rng (k + 1) ++ List.replicate (n - (k + 1)) 0) := by
  have hl : (rng k).length = k := by simp [rng]
  obtain ⟨m, rfl⟩ : ∃ m, n = k + 1 + m := ⟨n - (k + 1), by omega⟩
  rw [show k + 1 + m - k = m + 1 by omega, show k + 1 + m - (k + 1) = m by omega, rng_succ]
  simp only [il]
  rw [List.map_append, List.set_append_right _ _ (by simp [hl])]
  simp [hl, List.replicate_succ]
theorem fillI_get {n k : Nat} (h : k < n) : (il (rng k ++ List.replicate (n - k) 0))[k]? = some (.int .i64 0) := by
  have hl : (rng k).length = k := by simp [rng]
  simp only [il, List.map_append]
  rw [List.getElem?_append_right (by simp [hl])]
  obtain ⟨m, hm⟩ : ∃ m, n - k = m + 1 := ⟨n - k - 1, by omega⟩
  simp [hl, hm]
theorem made_i64 (n : Nat) : madeCells (Value.int .i64 0).cells n = Array.replicate n (.int .i64 0) := by
  have e : (Value.int .i64 0).cells = #[.int .i64 0] := rfl
  rw [e]
  unfold madeCells
  apply Array.ext
  · simp
  · intro i h1 h2
    simp [Nat.mod_one]

theorem sortF_c (p q : Int) (g fb c : Nat) (w : World) (hp : -1000000000 ≤ p ∧ p ≤ 1000000000) (hq : 1 ≤ q ∧ q ≤ 1000000000) (hg : Int.gcd p q = 1) (hc : 0 < c) (hn : (c : Int) ≤ q)
    (h0 : w.cell? ⟨fb, 0, none⟩ = some (.int .i64 p)) (h1 : w.cell? ⟨fb, 1, none⟩ = some (.int .i64 q)) (hb : fb < w.heap.size) (hne : fb ≠ g) (h : Row w g 2 1 c c (il (rng c))) :
    Calls Try.prog 60 #[.slice (some ⟨g, 0, none⟩) c c, .func (.func 61) #[] #[.pointer (some ⟨fb, 0, none⟩)]] w fun e w' => e = .returned (.tuple #[]) ∧ Row w' g 2 1 c c (il (ord (rst p q) c)) ∧ w.grownBy w' (some g) := by
  obtain ⟨n, rfl⟩ : ∃ n, c = n + 1 := ⟨c - 1, by omega⟩
  exact sortF_any p q g fb n w hp hq hg hn h0 h1 hb hne h

set_option maxRecDepth 100000 in
theorem ordered_any (p q : Int) (c : Nat) (w : World) (hp : -1000000000 ≤ p ∧ p ≤ 1000000000) (hq : 1 ≤ q ∧ q ≤ 1000000000) (hg : Int.gcd p q = 1) (hc : 0 < c) (hn : (c : Int) ≤ q) (hc2 : c ≤ 1000) :
    Calls Try.prog 41 #[.agg #[.int .i64 p, .int .i64 q], .int .i64 (c : Int)] w fun e w' => ∃ g, e = .returned (.slice (some ⟨g, 0, none⟩) c c) ∧ w.heap.size ≤ g ∧ Row w' g 2 1 c c (il (ord (rst p q) c)) ∧ Below w.heap.size w w' := by
  have hsort := fun W h0 h1 hb hr => sortF_c p q (w.heap.size + 1) w.heap.size c W hp hq hg hc hn h0 h1 hb (by omega) hr
  obtain ⟨i0, hi, hz0, hz1, hz2⟩ := info_parts info_i64
  have hmk : ∀ w : World, (Instr.makeSlice 31 (.int .i64 (c : Int)) (.int .i64 (c : Int))).run Try.prog w = .ok (.slice (some ⟨w.heap.size, 0, none⟩) c c) (w.alloc (.cells (Array.replicate c (.int .i64 0)) 2)) := by
    intro w
    have := run_make w 31 2 i0 (.int .i64 0) Try.underlying31 hi hz0 .i64 .i64 (c : Int) (c : Int) (by omega) (by omega) (by rw [hz2]; omega) (by omega)
    rw [this, hz1, Nat.mul_one, Int.toNat_natCast, made_i64]
  have HS := hide hsort
  clear hsort hg hn hp hq
  go_enter Try.func41, Try.ntmps41
  go_wp2_with fail
  go_loopw [11] (fun i wr => ∃ k : Nat, i = .int .i64 k ∧ k ≤ c ∧ Row wr (w.heap.size + 1) 2 1 c c (il (rng k ++ List.replicate (c - k) 0)) ∧ Blk wr w.heap.size 25 #[.int .i64 p, .int .i64 q] ∧ Below w.heap.size w wr) (fun i _ => c - (intOf i).toNat)
  case atStart =>
    refine ⟨0, rfl, by omega, ?_, (Blk.new w _ _).alloc _, by go_grown⟩
    have := Row.lit (w := w.alloc (.cells #[.int .i64 p, .int .i64 q] 25)) (g := w.heap.size + 1) (e := 2) (k := 1) (n := c) (cs := Array.replicate c (.int .i64 0)) (by simp) (by simp) (by simp [maxLen]; omega)
    simpa [il, rng] using this
  case round =>
    obtain ⟨k, rfl, hk, hrow, hblk, hbel⟩ := hrel
    by_cases hlt : k < c
    · have hc := hrow.cell (fillI_get hlt)
      have hf := hrow.frozen k
      have hw1 := hrow.store k (.int .i64 (k : Int))
      rw [fillI_step hlt] at hw1
      have HW1 := hide hw1
      have HB := hide hblk
      clear hw1 hrow hblk
      have i1 : (k : Int) < (c : Int) := by omega
      go_wp2_with fail
      go_roundw
      case rel => exact ⟨k + 1, rfl, by omega, HW1.out, HB.out.far (by simp) _, hbel.setCell (by simp) _⟩
      case measure => simp [intOf]; omega
    · have hkc : k = c := by omega
      subst hkc
      rw [Nat.sub_self, List.replicate_zero, List.append_nil] at hrow
      obtain ⟨a1, _, a3, HB⟩ := hblk.after (Below.refl _ _) hblk.lt
      have hs := HS.out wr (a1 0) (a1 1) a3 hrow
      clear a1 hrow hblk HS
      go_wp2_with fail
      refine hs.mono ?_
      rintro e w1 ⟨rfl, hr1, hg1⟩
      go_wp2_with fail
      go_ret
      exact ⟨w.heap.size + 1, rfl, by omega, hr1, hbel.grown hg1 hbel.size (fun k h => by injection h; omega)⟩

end Go.Proofs.Ytpagfikhcmeciaa
