/- The source of draws: a block that holds the bytes, the place and the seed; the functions that take from it. -/
import Derived.Test.YtpagfikhcmeciaaRow
import Derived.Deep.RegionHeld3
import Derived.StillTailTactics
import Derived.Laws.Bits64b
namespace Go.Proofs.Ytpagfikhcmeciaa
open Go.RowKit

def u8l (zs : List Int) : List Value := zs.map (Value.int .u8)

/-- The block g is a source of draws (k draws more may be taken), whose bytes lie below B. -/
def Src (w : World) (g B k : Nat) : Prop :=
  ∃ (A : Option Addr) (n c : Nat) (xs : List Int) (i : Nat) (seed : Int), n ≤ 9223372036854775807 ∧ i + k ≤ 4611686018427387904 ∧ Blk w g 70 #[.slice A n c, .int .i64 i, .int .u64 seed] ∧ B ≤ g ∧ Rd w B 1 A n (u8l xs) ∧ (∀ x ∈ xs, 0 ≤ x ∧ x ≤ 255)

theorem Src.less {w : World} {g B k k' : Nat} (h : Src w g B k) (hk : k' ≤ k) : Src w g B k' := by
  obtain ⟨A, n, c, xs, i, seed, h1, h2, h3⟩ := h
  exact ⟨A, n, c, xs, i, seed, h1, by omega, h3⟩
theorem Src.lt {w : World} {g B k : Nat} (h : Src w g B k) : g < w.heap.size := by
  obtain ⟨A, n, c, xs, i, seed, h1, h2, h3, h4⟩ := h
  exact h3.lt

theorem Rd.grown {w w' : World} {B k n g : Nat} {A : Option Addr} {xs : List Value} (h : Rd w B k A n xs) (hg : w.grownBy w' (some g)) (hB : B ≤ g) : Rd w' B k A n xs :=
  ⟨h.1, fun hn => by
    obtain ⟨b, o, e, hb, hc⟩ := h.2 hn
    refine ⟨b, o, e, hb, fun j u hu => ?_⟩
    have h1 := hc j u hu
    have hlt : b < w.heap.size := World.block_lt_of_cell? w _ h1
    rw [← h1]
    exact World.cell?_of_block (w := w) (a := ⟨b, o + j, none⟩) (hg.block b hlt (by intro h; injection h; omega))⟩

theorem gsetS (w : World) (p : Addr) (u : Value) {g : Nat} (hg : p.block = g) : w.grownBy (w.setCell p u) (some g) :=
  ⟨rfl, rfl, rfl, by simp, fun i _ hn => Below.heap_setCell w p u i (fun e => hn (by rw [e, hg]))⟩
theorem gdrewN (w : World) (m : Nat) (row : Option Nat) : w.grownBy (w.drewN m) row := gbelow (belowN (Below.refl _ _) m) row

theorem u64_rng (z : Int) : 0 ≤ IntKind.u64.wrap z ∧ IntKind.u64.wrap z ≤ 18446744073709551615 := by
  rw [show IntKind.u64.wrap z = z % 18446744073709551616 from rfl]
  omega

theorem and255 {y : Int} (h0 : 0 ≤ y) (h1 : y ≤ 18446744073709551615) : 0 ≤ bits BinOp.and IntKind.u64 y 255 ∧ bits BinOp.and IntKind.u64 y 255 ≤ 255 := by
  have h := bits_and_u64_nat y.toNat 255 (by omega) (by omega)
  rw [Int.toNat_of_nonneg h0] at h
  have h2 : y.toNat &&& 255 ≤ 255 := Nat.and_le_right
  have h3 : bits BinOp.and IntKind.u64 y 255 = ((y.toNat &&& 255 : Nat) : Int) := h
  omega

set_option maxHeartbeats 1000000 in
theorem srcNext_any (g B k : Nat) (w : World) (h : Src w g B (k + 1)) :
    Calls Try.prog 65 #[.pointer (some ⟨g, 0, none⟩)] w fun e w' => ∃ v, e = .returned (.int .i64 v) ∧ 0 ≤ v ∧ v ≤ 255 ∧ Src w' g B k ∧ w.grownBy w' (some g) := by
  obtain ⟨A, n, c, xs, i, seed, h1, h2, h3, h4, h5, h6⟩ := h
  obtain ⟨kc, kf, kz, _⟩ := h3.after (Below.refl w.heap.size w) h3.lt
  have HB := hide h3
  clear h3
  by_cases hi : i < n
  · have hn0 : 0 < n := by omega
    obtain ⟨b, o, rfl, hb, hc⟩ := h5.2 hn0
    have hl : xs.length = n := by have := h5.1; simpa [u8l] using this
    have hx := h6 _ (List.getElem_mem (show i < xs.length by omega))
    have c1 : w.cell? ⟨b, o + i, none⟩ = some (.int .u8 (xs[i]'(by omega))) := hc i _ (by simp [u8l, hl, hi])
    have HX := hide h6
    have H5 := hide h5
    clear h6 h5 hc
    generalize hxx : (xs[i]'(by omega)) = x at *
    clear hxx
    have i1 : (i : Int) < (n : Int) := by omega
    have i2 : (i : Int) + 1 ≤ (n : Int) := by omega
    go_enter Try.func65, Try.ntmps65
    go_wp2
    go_quiet (fail)
    go_wp2
    go_quiet (fail)
    go_wp2
    go_quiet (fail)
    go_wp2
    go_ret
    refine ⟨x, rfl, by omega, by omega, ⟨some ⟨b, o, none⟩, n, c, xs, i + 1, _, h1, by omega, ((((HB.out.drewN _).set_ 1 _).set_ 2 _).drewN _), h4, ((((H5.out.grown (gdrewN _ _ _) h4).grown (gsetS _ _ _ rfl) h4).grown (gsetS _ _ _ rfl) h4).grown (gdrewN _ _ _) h4), HX.out⟩, ?_⟩
    · exact gtrans (gtrans (gtrans (gdrewN _ _ _) (gsetS _ _ _ rfl)) (gsetS _ _ _ rfl)) (gdrewN _ _ _)
  · have i1 : (n : Int) ≤ (i : Int) := by omega
    have i2 : ¬ (i : Int) + 1 ≤ (n : Int) := by omega
    have HX := hide h6
    have H5 := hide h5
    clear h6 h5
    go_enter Try.func65, Try.ntmps65
    go_wp2
    go_quiet (fail)
    go_wp2
    go_quiet (fail)
    go_wp2
    go_ret
    have hw := u64_rng (IntKind.u64.wrap (IntKind.u64.wrap (seed * 6364136223846793005)) + 1442695040888963407)
    have hy := and255 (y := IntKind.u64.wrap (IntKind.u64.wrap (IntKind.u64.wrap (seed * 6364136223846793005)) + 1442695040888963407) / 1099511627776) (by omega) (by omega)
    refine ⟨_, rfl, ?_, ?_, ⟨A, n, c, xs, i + 1, _, h1, by omega, ((((HB.out.drewN _).set_ 1 _).set_ 2 _).drewN _), h4, ((((H5.out.grown (gdrewN _ _ _) h4).grown (gsetS _ _ _ rfl) h4).grown (gsetS _ _ _ rfl) h4).grown (gdrewN _ _ _) h4), HX.out⟩, ?_⟩
    · rw [IntWalk.wrap64_in _ (by omega)]; exact hy.1
    · rw [IntWalk.wrap64_in _ (by omega)]; exact hy.2
    · exact gtrans (gtrans (gtrans (gdrewN _ _ _) (gsetS _ _ _ rfl)) (gsetS _ _ _ rfl)) (gdrewN _ _ _)

end Go.Proofs.Ytpagfikhcmeciaa
