/- Small facts on worlds: a block that is known whole, behind a call that leaves old memory alone. -/
import Derived.Test.YtpagfikhcmeciaaRows
import Derived.WalkKit
import Derived.WalkSpells
import Derived.WalkLawsBesides
import Derived.BigQuiet
import Derived.Deep.QuietTactic
import Derived.Handy
namespace Go.Proofs.Ytpagfikhcmeciaa
open Go.RowKit

theorem hide {p : Prop} (h : p) : Hid p := h

/-- Block g is just the cells cs, none frozen. -/
def Blk (w : World) (g : Nat) (t : TypeId) (cs : Array Value) : Prop := w.heap[g]? = some (.cells cs t (0, 0))

theorem Blk.new (w : World) (t : TypeId) (cs : Array Value) : Blk (w.alloc (.cells cs t)) w.heap.size t cs := heap_alloc_new w _
theorem Blk.alloc {w : World} {g : Nat} {t : TypeId} {cs : Array Value} (h : Blk w g t cs) (o : Obj) : Blk (w.alloc o) g t cs := by
  have hlt : g < w.heap.size := by
    rcases Nat.lt_or_ge g w.heap.size with hlt | hge
    · exact hlt
    · unfold Blk at h; rw [Array.getElem?_eq_none hge] at h; cases h
  exact (Below.heap_alloc w o g hlt).trans h
theorem Blk.drewN {w : World} {g : Nat} {t : TypeId} {cs : Array Value} (h : Blk w g t cs) (n : Nat) : Blk (w.drewN n) g t cs := h
theorem Blk.lt {w : World} {g : Nat} {t : TypeId} {cs : Array Value} (h : Blk w g t cs) : g < w.heap.size := by
  rcases Nat.lt_or_ge g w.heap.size with hlt | hge
  · exact hlt
  · unfold Blk at h; rw [Array.getElem?_eq_none hge] at h; cases h

/-- What the walk wants of such a block behind a call: its cells, its marks, that it is no new block; and the block itself for the next call. -/
theorem Blk.after {W w1 : World} {N g : Nat} {t : TypeId} {cs : Array Value} (h : Blk W g t cs) (hb : Below N W w1) (hg : g < N) :
    (∀ i, w1.cell? ⟨g, i, none⟩ = cs[i]?) ∧ (∀ i, w1.frozen? ⟨g, i, none⟩ = false) ∧ g < w1.heap.size ∧ Hid (Blk w1 g t cs) := by
  have h1 : Blk w1 g t cs := (hb.block g hg).trans h
  refine ⟨fun i => ?_, fun i => ?_, h1.lt, h1⟩
  · unfold Blk at h1; simp [World.cell?, h1]
  · unfold Blk at h1; simp [World.frozen?, h1]

theorem belowN {B : Nat} {a w : World} (h : Below B a w) (n : Nat) : Below B a (w.drewN n) := ⟨h.os, h.tape, h.output, h.size, h.block⟩

theorem bstep {B : Nat} {w W w1 : World} (h : Below B w W) (hb : Below W.heap.size W w1) (hB : B ≤ W.heap.size) : Below B w w1 := h.trans (hb.mono hB)

/-- For regions that draw their order: what is known of the world ahead of the region is known of every world that only grew. -/
theorem bnext {w0 W w1 : World} {p : Prop} (h : Below w0.heap.size w0 W ∧ p) (hb : Below W.heap.size W w1) : Below w0.heap.size w0 w1 := h.1.trans (hb.mono h.1.size)
theorem balloc {w0 W : World} {p : Prop} {o : Obj} (h : Below w0.heap.size w0 W ∧ p) : Below w0.heap.size w0 (W.alloc o) := h.1.alloc h.1.size o
theorem bset {w0 W : World} {p : Prop} {a : Addr} {v : Value} (h : Below w0.heap.size w0 W ∧ p) (ha : w0.heap.size ≤ a.block) : Below w0.heap.size w0 (W.setCell a v) := h.1.setCell ha v

def inB (n lo hi : Int) : Bool := decide (lo ≤ n) && decide (n ≤ hi)
theorem inB_of {n lo hi : Int} (h : lo ≤ n ∧ n ≤ hi) : inB n lo hi = true := by simp [inB, h]
theorem inB_iff {n lo hi : Int} : inB n lo hi = true ↔ lo ≤ n ∧ n ≤ hi := by simp [inB]
theorem inB_no {n lo hi : Int} (h : ¬ (lo ≤ n ∧ n ≤ hi)) : inB n lo hi = false := by
  rw [← Bool.not_eq_true]; exact fun e => h (inB_iff.1 e)

theorem l00In_any (n lo hi : Int) (w : World) :
    Calls Try.prog 53 #[.int .i64 n, .int .i64 lo, .int .i64 hi] w fun e w' => e = .returned (.bool (inB n lo hi)) ∧ w = w' := by
  go_enter Try.func53, Try.ntmps53
  go_wp2
  all_goals go_ret
  · exact ⟨by simp [inB, *], rfl⟩
  · exact ⟨by rw [inB_no (by omega)]; rfl, rfl⟩

theorem within_any (n lo hi : Int) (w : World) :
    Calls Try.prog 49 #[.int .i64 n, .int .i64 lo, .int .i64 hi] w fun e w' => e = .returned (.bool (inB n lo hi)) ∧ w = w' := by
  go_enter Try.func49, Try.ntmps49
  go_wp2
  all_goals go_ret
  · exact ⟨by simp [inB, *], rfl⟩
  · exact ⟨by rw [inB_no (by omega)]; rfl, rfl⟩

end Go.Proofs.Ytpagfikhcmeciaa
