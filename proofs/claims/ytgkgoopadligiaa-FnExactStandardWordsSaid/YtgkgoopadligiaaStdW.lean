/- The law FnExactStandardWords: its walk. -/
import Derived.Test.YtgkgoopadligiaaStdA
import Derived.Test.YtgkgoopadligiaaStdB
namespace Go.Proofs.Ytgkgoopadligiaa
open Go.RowKit Go.Sort

theorem LstS.grownG {w w' : World} {B g : Nat} {v : Value} {xs : List ByteArray} (h : LstS w B v xs) (hg : w.grownBy w' (some g)) (hlt : g < B) : LstS w' B v xs := by
  obtain ⟨A, n, cap, e, hn, hn2, h | ⟨g1, hA, hg1, hr⟩⟩ := h
  · exact ⟨A, n, cap, e, hn, hn2, .inl h⟩
  · exact ⟨A, n, cap, e, hn, hn2, .inr ⟨g1, hA, hg1, hr.grown hg (fun e => by injection e; omega)⟩⟩
theorem bchS {w w1 w2 : World} (h : Below w.heap.size w w1) (h2 : Below w1.heap.size w1 w2) : Below w.heap.size w w2 := bstep h h2 h.size

set_option maxRecDepth 100000 in
set_option maxHeartbeats 4000000 in
theorem law_StandardWords (A : Option Addr) (n c : Nat) (xs : List Int) (w : World) (h : Rd w w.heap.size 1 A n (il xs)) (hn : n ≤ 9223372036854775807) :
    Calls Try.prog 3 #[.slice A n c] w fun e w' => e = .returned (.bool true) ∧ Below w.heap.size w w' := by
  have hlx : xs.length = n := by have := h.1; rw [il_len] at this; omega
  by_cases hbig : 1048576 < n
  · have hd : (1048576 : Int) < (n : Int) := by omega
    clear h
    go_enter Try.func3, Try.ntmps3
    go_wp2_with fail
    go_ret
    exact ⟨rfl, Below.refl _ _⟩
  · have hd : ¬ (1048576 : Int) < (n : Int) := by omega
    have H := hide h
    clear h
    go_enter Try.func3, Try.ntmps3
    go_wp2_with fail
    refine (toInt64S_any A n c _ xs _ (by omega) (Nat.le_refl _) H.out).mono ?_
    rintro e w1 ⟨g1, rfl, hg1, r1, b1⟩
    have R1 := hide r1
    clear r1
    go_wp2_with fail
    refine (specStandardWords_any g1 n n xs _ (by omega) R1.out).mono ?_
    rintro e w2 ⟨v0, c0, l, rfl, hs, L0', b2⟩
    have HS := hide hs
    have L0 := hide L0'
    have C2 := bchS b1 b2
    clear hs L0' R1 b1 b2 hg1
    go_wp2_with fail
    refine (toInt64S_any A n c _ xs _ (by omega) C2.size (H.out.below C2)).mono ?_
    rintro e w3 ⟨g2, rfl, hg2, r3, A3⟩
    have R3 := hide r3
    have C3 := bchS C2 A3
    have hg3 : g2 < w3.heap.size := r3.lt
    clear r3
    go_wp2_with fail
    refine (implStandardWords_any g2 n n xs _ (by omega) R3.out).mono ?_
    rintro e w4 ⟨v1, c1, l1, rfl, hs1, L1', b4⟩
    obtain ⟨rfl, rfl⟩ := HS.out.uniq hs1
    have hq : (c0 != c0) = false := by simp
    have L1 := hide L1'
    have R4 := hide (R3.out.below b4 hg3)
    have C4 := bchS C3 b4
    have A4 := bchS A3 b4
    clear hs1 L1' R3 C3 A3 b4
    go_wp2_with fail
    refine (eqLstS_any _ _ _ _ l _ L1.out (L0.out.keep A4)).mono ?_
    rintro e w5 ⟨rfl, m5, rfl⟩
    have L5 := hide (L1.out.drewN m5)
    have R5 := hide (R4.out.drewN m5)
    have C5 := belowN C4 m5
    have A5 := belowN A4 m5
    clear L1 R4 C4 A4
    go_wp2_with fail
    refine (toInt64S_any A n c _ xs _ (by omega) C5.size (H.out.below C5)).mono ?_
    rintro e w6 ⟨g3, rfl, hg6, r6, b6⟩
    have L6 := hide (L5.out.keep b6)
    have R6 := hide (R5.out.below b6 R5.out.lt)
    have Q6 := hide r6
    have C6 := bchS C5 b6
    have A6 := bchS A5 b6
    clear L5 R5 C5 A5 b6 r6 hg6
    go_wp2_with fail
    refine (eqInt64S_any _ _ n n n _ xs _ (by omega) R6.out.rd Q6.out.rd).mono ?_
    rintro e w7 ⟨rfl, m7, rfl⟩
    have L7 := hide (L6.out.drewN m7)
    have R7 := hide (R6.out.drewN m7)
    have C7 := belowN C6 m7
    have A7 := belowN A6 m7
    clear L6 R6 C6 A6 Q6
    go_wp2_with fail
    refine (markInt64S_any g2 n n xs 1 _ (by omega) (by omega) R7.out).mono ?_
    rintro e w8 ⟨rfl, _, hg8⟩
    have L8 := hide (L7.out.grownG hg8 hg3)
    have C8 := C7.grown hg8 C7.size (fun k hk => by injection hk with hk; have := C2.size; omega)
    have A8 := A7.grown hg8 A7.size (fun k hk => by injection hk with hk; omega)
    have hk1 : ¬ (1 : Int) + (n : Int) < 0 := by omega
    clear L7 R7 C7 A7 hg8
    go_wp2_with fail
    refine (eqLstS_any _ _ _ _ l _ L8.out (L0.out.keep A8)).mono ?_
    rintro e w9 ⟨rfl, m9, rfl⟩
    have L9 := hide (L8.out.drewN m9)
    have C9 := belowN C8 m9
    have A9 := belowN A8 m9
    clear L8 C8 A8
    go_wp2_with fail
    refine (markLstS_any _ _ l _ L9.out).mono ?_
    rintro e w10 ⟨rfl, L10', b10⟩
    have L10 := hide L10'
    have C10 := C9.trans (b10.mono (by have := C2.size; omega))
    have A10 := A9.trans (b10.mono (by omega))
    clear L9 C9 A9 b10 L10'
    go_wp2_with fail
    refine (heldLstS_any _ _ l.length _ L10.out).mono ?_
    rintro e w11 ⟨rfl, b11⟩
    have L11 := hide (L10.out.keep b11)
    have C11 := bchS C10 b11
    have A11 := bchS A10 b11
    have hk2 : ¬ (1 : Int) + (l.length : Int) < 0 := by omega
    have hk3 : ((1 : Int) + (l.length : Int) != 1 + (l.length : Int)) = false := by simp
    clear L10 C10 A10 b11
    go_wp2_with fail
    refine (toInt64S_any A n c _ xs _ (by omega) C11.size (H.out.below C11)).mono ?_
    rintro e w12 ⟨g4, rfl, hg12, r12, b12⟩
    have L12 := hide (L11.out.keep b12)
    have R12 := hide r12
    have C12 := bchS C11 b12
    have A12 := bchS A11 b12
    clear L11 C11 A11 b12 r12 hg12
    go_wp2_with fail
    refine (implStandardWords_any g4 n n xs _ (by omega) R12.out).mono ?_
    rintro e w13 ⟨v2, c2, l2, rfl, hs2, L2', b13⟩
    obtain ⟨rfl, rfl⟩ := HS.out.uniq hs2
    have L13 := hide (L12.out.keep b13)
    have L2 := hide L2'
    have C13 := bchS C12 b13
    have A13 := bchS A12 b13
    clear L12 R12 C12 A12 b13 hs2 L2'
    go_wp2_with fail
    refine (eqLstS_any _ _ _ _ l _ L2.out (L0.out.keep A13)).mono ?_
    rintro e w14 ⟨rfl, m14, rfl⟩
    have L14 := hide (L13.out.drewN m14)
    have C14 := belowN C13 m14
    clear L13 C13 A13 L2
    go_wp2_with fail
    refine (heldLstS_any _ _ l.length _ L14.out).mono ?_
    rintro e w15 ⟨rfl, b15⟩
    have C15 := bchS C14 b15
    clear L14 C14 b15
    go_wp2_with fail
    go_ret
    exact ⟨rfl, C15⟩

end Go.Proofs.Ytgkgoopadligiaa
