/- The law FnExactConjugatesOf: its walk. -/
import Derived.Test.YtcnnjdmdcnbhnaaDoorConA
import Derived.Test.YtcnnjdmdcnbhnaaDoorConB
namespace Go.Proofs.YtcnnjdmdcnbhnaaDoor
open Go.RowKit Go.Sort

theorem bchC {w w1 w2 : World} (h : Below w.heap.size w w1) (h2 : Below w1.heap.size w1 w2) : Below w.heap.size w w2 := bstep h h2 h.size

set_option maxRecDepth 100000 in
set_option maxHeartbeats 2000000 in
theorem law_ConjugatesOf (s : ByteArray) (w : World) (hs : s.size ≤ maxLen) :
    Calls Tryd.prog 3 #[.string s] w fun e w' => e = .returned (.bool true) ∧ Below w.heap.size w w' := by
  unfold maxLen at hs
  by_cases hbig : 1048576 < s.size
  · go_enter Tryd.func3, Tryd.ntmps3
    go_wp2
    go_ret
    exact ⟨rfl, Below.refl _ _⟩
  · have hS := specConjugatesOf_any s
    have hI := implConjugatesOf_any s
    generalize s.data.toList = l at *
    go_enter Tryd.func3, Tryd.ntmps3
    go_wp2_with fail
    refine (hS _ (by omega)).mono ?_
    rintro e w2 ⟨v0, c0, out, rfl, hs0, L0', C2⟩
    have HS := hide hs0
    have L0 := hide L0'
    clear hs0 L0' hS
    go_wp2_with fail
    refine (hI _ (by omega)).mono ?_
    rintro e w4 ⟨v1, c1, out1, rfl, hs1, L1', A4⟩
    obtain ⟨rfl, rfl⟩ := HS.out.uniq hs1
    have hq : (c0 != c0) = false := by simp
    have L1 := hide L1'
    have C4 := bchC C2 A4
    clear hs1 L1'
    go_wp2_with fail
    refine (eqLstS_any _ _ _ _ (bas out) _ L1.out (L0.out.keep A4)).mono ?_
    rintro e w5 ⟨rfl, m5, rfl⟩
    have L9 := hide (L1.out.drewN m5)
    have C9 := belowN C4 m5
    have A9 := belowN A4 m5
    clear L1 C4 A4
    go_wp2_with fail
    refine (markLstS_any _ _ (bas out) _ L9.out).mono ?_
    rintro e w10 ⟨rfl, L10', b10⟩
    have L10 := hide L10'
    have C10 := C9.trans (b10.mono C2.size)
    have A10 := A9.trans b10
    clear L9 C9 A9 b10 L10'
    go_wp2_with fail
    refine (heldLstS_any _ _ (bas out).length _ L10.out).mono ?_
    rintro e w11 ⟨rfl, b11⟩
    have L11 := hide (L10.out.keep b11)
    have C11 := bchC C10 b11
    have A11 := bchC A10 b11
    have hk2 : ¬ (1 : Int) + ((bas out).length : Int) < 0 := by omega
    have hk3 : ((1 : Int) + ((bas out).length : Int) != 1 + ((bas out).length : Int)) = false := by simp
    clear L10 C10 A10 b11
    go_wp2_with fail
    refine (hI _ (by omega)).mono ?_
    rintro e w13 ⟨v2, c2, out2, rfl, hs2, L2', b13⟩
    obtain ⟨rfl, rfl⟩ := HS.out.uniq hs2
    have L13 := hide (L11.out.keep b13)
    have L2 := hide L2'
    have C13 := bchC C11 b13
    have A13 := bchC A11 b13
    clear L11 C11 A11 b13 hs2 L2' hI
    go_wp2_with fail
    refine (eqLstS_any _ _ _ _ (bas out) _ L2.out (L0.out.keep A13)).mono ?_
    rintro e w14 ⟨rfl, m14, rfl⟩
    have L14 := hide (L13.out.drewN m14)
    have C14 := belowN C13 m14
    clear L13 C13 A13 L2
    go_wp2_with fail
    refine (heldLstS_any _ _ (bas out).length _ L14.out).mono ?_
    rintro e w15 ⟨rfl, b15⟩
    have C15 := bchC C14 b15
    clear L14 C14 b15
    go_wp2_with fail
    go_ret
    exact ⟨rfl, C15⟩

end Go.Proofs.YtcnnjdmdcnbhnaaDoor
