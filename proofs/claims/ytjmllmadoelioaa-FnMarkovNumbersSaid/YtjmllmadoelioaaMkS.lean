/- TripleParent: the program's and the reference's walks, and the law's. -/
import Derived.Test.YtjmllmadoelioaaMkR
import Derived.Test.YtjmllmadoelioaaBlk
namespace Go.Proofs.Ytjmllmadoelioaa
open Go.RowKit

def tpc (X Y Z : Int) : Int := if vtB X Y Z = true then (if Z = 1 then 6 else 0) else 1
def tpr (X Y Z : Int) : T3 := if tpc X Y Z = 0 then (⟨X, Y, Z⟩ : T3).up else ⟨0, 0, 0⟩
theorem toTriple_any (L C S : Int) (w : World) :
    Calls Try.prog 11 #[.agg #[.int .i64 L, .int .i64 C, .int .i64 S]] w fun e w' => e = .returned (.agg #[.int .i64 L, .int .i64 C, .int .i64 S]) ∧ Below w.heap.size w w' := by
  go_enter Try.func11, Try.ntmps11
  go_wp2
  refine bodyPost_ret (v := .agg #[.int .i64 L, .int .i64 C, .int .i64 S]) (by simp [results, Try.results11, go_sem]) rfl ⟨rfl, ?_⟩
  go_grown
theorem lall {w W : World} (h : Below w.heap.size w W) (o : Obj) : Below w.heap.size w (W.alloc o) := h.alloc h.size o

set_option maxHeartbeats 1000000 in
set_option maxRecDepth 100000 in
theorem implTripleParent_any (X Y Z : Int) (w : World) :
    Calls Try.prog 12 #[.agg #[.int .i64 X, .int .i64 Y, .int .i64 Z]] w fun e w' => e = .returned (.tuple #[.agg #[.int .i64 (tpr X Y Z).x, .int .i64 (tpr X Y Z).y, .int .i64 (tpr X Y Z).z], .int .i64 (tpc X Y Z)]) ∧ Below w.heap.size w w' := by
  have hV := implValidTriple_any X Y Z
  by_cases hv : vtB X Y Z = true
  · rw [hv] at hV
    obtain ⟨hr, _⟩ := vtB_iff.1 hv
    by_cases hz : Z = 1
    · have ec : tpc X Y Z = 6 := by unfold tpc; rw [if_pos hv, if_pos hz]
      have HR := hide (show tpr X Y Z = ⟨0, 0, 0⟩ ∧ tpc X Y Z = 6 by unfold tpr; rw [ec]; exact ⟨rfl, rfl⟩)
      obtain ⟨h1, h2, h3, h4⟩ := hr
      have hx : X = 1 := by omega
      have hy : Y = 1 := by omega
      subst hx hy hz
      clear ec hv
      go_enter Try.func12, Try.ntmps12
      go_wp2_with fail
      refine (hV _).mono ?_
      rintro e w1 ⟨rfl, hb1⟩
      obtain ⟨a1, _, a3, _⟩ := ((Blk.new w 24 #[.int .i64 1, .int .i64 1, .int .i64 1]).alloc (.cells #[.int .i64 0, .int .i64 0, .int .i64 0] 24)).after hb1 (by simp; omega)
      obtain ⟨k1, _, k3, HK⟩ := (Blk.newAt (w := w.alloc (.cells #[.int .i64 1, .int .i64 1, .int .i64 1] 24)) (g := w.heap.size + 1) (t := 24) (cs := #[.int .i64 0, .int .i64 0, .int .i64 0]) (by simp)).after hb1 (by simp)
      have x0 := a1 0
      have x1 := a1 1
      have x2 := a1 2
      have k4 := k1 0
      have k5 := k1 1
      have k6 := k1 2
      have hB := bstep (show Below w.heap.size w _ by go_grown) hb1 (by simp; omega)
      clear a1 k1 hb1
      go_wp2_with fail
      have z3 := HK.out.set3 (x := .int .i64 0) (y := .int .i64 0) (z := .int .i64 0)
      obtain ⟨z4, _, _, _⟩ := z3.after (Below.refl _ _) z3.lt
      refine bodyPost_ret (v := .tuple #[.agg #[.int .i64 0, .int .i64 0, .int .i64 0], .int .i64 6]) (by simp [results, Try.results12, go_sem, z4]) rfl ⟨by rw [HR.out.1, HR.out.2], ?_⟩
      exact ((hB.setCell (by simp) _).setCell (by simp) _).setCell (by simp) _
    · have ec : tpc X Y Z = 0 := by unfold tpc; rw [if_pos hv, if_neg hz]
      have hP := fun w => implParent_any (⟨X, Y, Z⟩ : T3) w hr
      have HR := hide (show tpr X Y Z = (⟨X, Y, Z⟩ : T3).up ∧ tpc X Y Z = 0 by unfold tpr; rw [ec]; exact ⟨rfl, rfl⟩)
      generalize (⟨X, Y, Z⟩ : T3).up = u at *
      obtain ⟨a, b, c⟩ := u
      simp only at hP
      have q1 : (Z == 1) = false := beq_eq_false_iff_ne.2 hz
      clear ec hv hr
      go_enter Try.func12, Try.ntmps12
      go_wp2_with fail
      refine (hV _).mono ?_
      rintro e w1 ⟨rfl, hb1⟩
      obtain ⟨a1, _, a3, _⟩ := ((Blk.new w 24 #[.int .i64 X, .int .i64 Y, .int .i64 Z]).alloc (.cells #[.int .i64 0, .int .i64 0, .int .i64 0] 24)).after hb1 (by simp; omega)
      obtain ⟨k1, _, k3, HK⟩ := (Blk.newAt (w := w.alloc (.cells #[.int .i64 X, .int .i64 Y, .int .i64 Z] 24)) (g := w.heap.size + 1) (t := 24) (cs := #[.int .i64 0, .int .i64 0, .int .i64 0]) (by simp)).after hb1 (by simp)
      have x0 := a1 0
      have x1 := a1 1
      have x2 := a1 2
      have k4 := k1 0
      have k5 := k1 1
      have k6 := k1 2
      have hB := bstep (show Below w.heap.size w _ by go_grown) hb1 (by simp; omega)
      clear a1 k1 hb1
      go_wp2_with fail
      refine (hP _).mono ?_
      rintro e w2 ⟨rfl, hb2⟩
      obtain ⟨k1, _, k3, HK2⟩ := HK.out.after hb2 k3
      have k7 := k1 0
      have k8 := k1 1
      have k9 := k1 2
      have hB2 := bstep hB hb2 hB.size
      clear k1 hb2 k4 k5 k6
      go_wp2_with fail
      have z3 := HK2.out.set3 (x := .int .i64 a) (y := .int .i64 b) (z := .int .i64 c)
      obtain ⟨z4, _, _, _⟩ := z3.after (Below.refl _ _) z3.lt
      refine bodyPost_ret (v := .tuple #[.agg #[.int .i64 a, .int .i64 b, .int .i64 c], .int .i64 0]) (by simp [results, Try.results12, go_sem, z4]) rfl ⟨by rw [HR.out.1, HR.out.2], ?_⟩
      exact ((hB2.setCell (by simp) _).setCell (by simp) _).setCell (by simp) _
  · have hf : vtB X Y Z = false := by simpa using hv
    rw [hf] at hV
    have ec : tpc X Y Z = 1 := by unfold tpc; rw [if_neg hv]
    have HR := hide (show tpr X Y Z = ⟨0, 0, 0⟩ ∧ tpc X Y Z = 1 by unfold tpr; rw [ec]; exact ⟨rfl, rfl⟩)
    clear ec hv hf
    · skip
      go_enter Try.func12, Try.ntmps12
      go_wp2_with fail
      refine (hV _).mono ?_
      rintro e w1 ⟨rfl, hb1⟩
      obtain ⟨a1, _, a3, _⟩ := ((Blk.new w 24 #[.int .i64 X, .int .i64 Y, .int .i64 Z]).alloc (.cells #[.int .i64 0, .int .i64 0, .int .i64 0] 24)).after hb1 (by simp; omega)
      obtain ⟨k1, _, k3, HK⟩ := (Blk.newAt (w := w.alloc (.cells #[.int .i64 X, .int .i64 Y, .int .i64 Z] 24)) (g := w.heap.size + 1) (t := 24) (cs := #[.int .i64 0, .int .i64 0, .int .i64 0]) (by simp)).after hb1 (by simp)
      have x0 := a1 0
      have x1 := a1 1
      have x2 := a1 2
      have k4 := k1 0
      have k5 := k1 1
      have k6 := k1 2
      have hB := bstep (show Below w.heap.size w _ by go_grown) hb1 (by simp; omega)
      clear a1 k1 hb1
      go_wp2_with fail
      have z3 := HK.out.set3 (x := .int .i64 0) (y := .int .i64 0) (z := .int .i64 0)
      obtain ⟨z4, _, _, _⟩ := z3.after (Below.refl _ _) z3.lt
      refine bodyPost_ret (v := .tuple #[.agg #[.int .i64 0, .int .i64 0, .int .i64 0], .int .i64 1]) (by simp [results, Try.results12, go_sem, z4]) rfl ⟨by rw [HR.out.1, HR.out.2], ?_⟩
      exact ((hB.setCell (by simp) _).setCell (by simp) _).setCell (by simp) _

set_option maxHeartbeats 1000000 in
set_option maxRecDepth 100000 in
theorem specTripleParent_any (X Y Z : Int) (w : World) :
    Calls Try.prog 10 #[.agg #[.int .i64 X, .int .i64 Y, .int .i64 Z]] w fun e w' => e = .returned (.tuple #[.agg #[.int .i64 (tpr X Y Z).x, .int .i64 (tpr X Y Z).y, .int .i64 (tpr X Y Z).z], .int .i64 (tpc X Y Z)]) ∧ Below w.heap.size w w' := by
  have hV := l22Ok_any X Y Z
  by_cases hv : vtB X Y Z = true
  · rw [hv] at hV
    obtain ⟨hr, _⟩ := vtB_iff.1 hv
    by_cases hz : Z = 1
    · have ec : tpc X Y Z = 6 := by unfold tpc; rw [if_pos hv, if_pos hz]
      have HR := hide (show tpr X Y Z = ⟨0, 0, 0⟩ ∧ tpc X Y Z = 6 by unfold tpr; rw [ec]; exact ⟨rfl, rfl⟩)
      obtain ⟨h1, h2, h3, h4⟩ := hr
      have hx : X = 1 := by omega
      have hy : Y = 1 := by omega
      subst hx hy hz
      clear ec hv
      go_enter Try.func10, Try.ntmps10
      go_wp2_with fail
      refine (hV _).mono ?_
      rintro e w1 ⟨rfl, hb1⟩
      obtain ⟨a1, _, a3, _⟩ := ((Blk.new w 24 #[.int .i64 1, .int .i64 1, .int .i64 1]).alloc (.cells #[.int .i64 0, .int .i64 0, .int .i64 0] 24)).after hb1 (by simp; omega)
      obtain ⟨k1, _, k3, HK⟩ := (Blk.newAt (w := w.alloc (.cells #[.int .i64 1, .int .i64 1, .int .i64 1] 24)) (g := w.heap.size + 1) (t := 24) (cs := #[.int .i64 0, .int .i64 0, .int .i64 0]) (by simp)).after hb1 (by simp)
      have x0 := a1 0
      have x1 := a1 1
      have x2 := a1 2
      have k4 := k1 0
      have k5 := k1 1
      have k6 := k1 2
      have hB := bstep (show Below w.heap.size w _ by go_grown) hb1 (by simp; omega)
      clear a1 k1 hb1
      go_wp2_with fail
      have z3 := HK.out.set3 (x := .int .i64 0) (y := .int .i64 0) (z := .int .i64 0)
      obtain ⟨z4, _, _, _⟩ := z3.after (Below.refl _ _) z3.lt
      refine bodyPost_ret (v := .tuple #[.agg #[.int .i64 0, .int .i64 0, .int .i64 0], .int .i64 6]) (by simp [results, Try.results10, go_sem, z4]) rfl ⟨by rw [HR.out.1, HR.out.2], ?_⟩
      exact ((hB.setCell (by simp) _).setCell (by simp) _).setCell (by simp) _
    · have ec : tpc X Y Z = 0 := by unfold tpc; rw [if_pos hv, if_neg hz]
      have hP := fun w => l22Parent_any (⟨X, Y, Z⟩ : T3) w hr
      have HR := hide (show tpr X Y Z = (⟨X, Y, Z⟩ : T3).up ∧ tpc X Y Z = 0 by unfold tpr; rw [ec]; exact ⟨rfl, rfl⟩)
      generalize (⟨X, Y, Z⟩ : T3).up = u at *
      obtain ⟨a, b, c⟩ := u
      simp only at hP
      have q1 : (Z == 1) = false := beq_eq_false_iff_ne.2 hz
      clear ec hv hr
      go_enter Try.func10, Try.ntmps10
      go_wp2_with fail
      refine (hV _).mono ?_
      rintro e w1 ⟨rfl, hb1⟩
      obtain ⟨a1, _, a3, _⟩ := ((Blk.new w 24 #[.int .i64 X, .int .i64 Y, .int .i64 Z]).alloc (.cells #[.int .i64 0, .int .i64 0, .int .i64 0] 24)).after hb1 (by simp; omega)
      obtain ⟨k1, _, k3, HK⟩ := (Blk.newAt (w := w.alloc (.cells #[.int .i64 X, .int .i64 Y, .int .i64 Z] 24)) (g := w.heap.size + 1) (t := 24) (cs := #[.int .i64 0, .int .i64 0, .int .i64 0]) (by simp)).after hb1 (by simp)
      have x0 := a1 0
      have x1 := a1 1
      have x2 := a1 2
      have k4 := k1 0
      have k5 := k1 1
      have k6 := k1 2
      have hB := bstep (show Below w.heap.size w _ by go_grown) hb1 (by simp; omega)
      clear a1 k1 hb1
      go_wp2_with fail
      refine (hP _).mono ?_
      rintro e w2 ⟨rfl, hb2⟩
      obtain ⟨k1, _, k3, HK2⟩ := HK.out.after hb2 k3
      have k7 := k1 0
      have k8 := k1 1
      have k9 := k1 2
      have hB2 := bstep hB hb2 hB.size
      clear k1 hb2 k4 k5 k6
      go_wp2_with fail
      have z3 := HK2.out.set3 (x := .int .i64 a) (y := .int .i64 b) (z := .int .i64 c)
      obtain ⟨z4, _, _, _⟩ := z3.after (Below.refl _ _) z3.lt
      refine bodyPost_ret (v := .tuple #[.agg #[.int .i64 a, .int .i64 b, .int .i64 c], .int .i64 0]) (by simp [results, Try.results10, go_sem, z4]) rfl ⟨by rw [HR.out.1, HR.out.2], ?_⟩
      exact ((hB2.setCell (by simp) _).setCell (by simp) _).setCell (by simp) _
  · have hf : vtB X Y Z = false := by simpa using hv
    rw [hf] at hV
    have ec : tpc X Y Z = 1 := by unfold tpc; rw [if_neg hv]
    have HR := hide (show tpr X Y Z = ⟨0, 0, 0⟩ ∧ tpc X Y Z = 1 by unfold tpr; rw [ec]; exact ⟨rfl, rfl⟩)
    clear ec hv hf
    · skip
      go_enter Try.func10, Try.ntmps10
      go_wp2_with fail
      refine (hV _).mono ?_
      rintro e w1 ⟨rfl, hb1⟩
      obtain ⟨a1, _, a3, _⟩ := ((Blk.new w 24 #[.int .i64 X, .int .i64 Y, .int .i64 Z]).alloc (.cells #[.int .i64 0, .int .i64 0, .int .i64 0] 24)).after hb1 (by simp; omega)
      obtain ⟨k1, _, k3, HK⟩ := (Blk.newAt (w := w.alloc (.cells #[.int .i64 X, .int .i64 Y, .int .i64 Z] 24)) (g := w.heap.size + 1) (t := 24) (cs := #[.int .i64 0, .int .i64 0, .int .i64 0]) (by simp)).after hb1 (by simp)
      have x0 := a1 0
      have x1 := a1 1
      have x2 := a1 2
      have k4 := k1 0
      have k5 := k1 1
      have k6 := k1 2
      have hB := bstep (show Below w.heap.size w _ by go_grown) hb1 (by simp; omega)
      clear a1 k1 hb1
      go_wp2_with fail
      have z3 := HK.out.set3 (x := .int .i64 0) (y := .int .i64 0) (z := .int .i64 0)
      obtain ⟨z4, _, _, _⟩ := z3.after (Below.refl _ _) z3.lt
      refine bodyPost_ret (v := .tuple #[.agg #[.int .i64 0, .int .i64 0, .int .i64 0], .int .i64 1]) (by simp [results, Try.results10, go_sem, z4]) rfl ⟨by rw [HR.out.1, HR.out.2], ?_⟩
      exact ((hB.setCell (by simp) _).setCell (by simp) _).setCell (by simp) _

theorem law_TripleParent (X Y Z : Int) (w : World) :
    Calls Try.prog 3 #[.agg #[.int .i64 X, .int .i64 Y, .int .i64 Z]] w fun e w' => e = .returned (.bool true) ∧ Below w.heap.size w w' := by
  have H1 := hide (specTripleParent_any X Y Z)
  have H2 := hide (implTripleParent_any X Y Z)
  generalize (tpr X Y Z).x = a at *
  generalize (tpr X Y Z).y = b at *
  generalize (tpr X Y Z).z = c at *
  generalize tpc X Y Z = d at *
  go_enter Try.func3, Try.ntmps3
  go_wp2_with fail
  refine (toTriple_any _ _ _ _).mono ?_
  rintro e w1 ⟨rfl, hb1⟩
  have l1 : Below w.heap.size w w1 := bstep (lall (Below.refl _ _) _) hb1 (by simp)
  obtain ⟨kc, kf, kz, kb⟩ := (Blk.new w 23 #[.int .i64 X, .int .i64 Y, .int .i64 Z]).after hb1 (by simp)
  go_wp2_with fail
  refine (H1.out _).mono ?_
  rintro e w2 ⟨rfl, hb2⟩
  have l2 : Below w.heap.size w w2 := bstep l1 hb2 l1.size
  have l2' := lall l2 (.cells #[.int .i64 a, .int .i64 b, .int .i64 c] 24)
  clear kc kf
  obtain ⟨kc, kf, kz2, kb2⟩ := kb.out.after hb2 kz
  go_wp2_with fail
  refine (toTriple_any _ _ _ _).mono ?_
  rintro e w3 ⟨rfl, hb3⟩
  have l3 : Below w.heap.size w w3 := bstep l2' hb3 l2'.size
  obtain ⟨jc, jf, jz, jb⟩ := (Blk.new w2 24 #[.int .i64 a, .int .i64 b, .int .i64 c]).after hb3 (by simp)
  go_wp2_with fail
  refine (H2.out _).mono ?_
  rintro e w4 ⟨rfl, hb4⟩
  have l4 : Below w.heap.size w w4 := bstep l3 hb4 l3.size
  have l4' := lall l4 (.cells #[.int .i64 a, .int .i64 b, .int .i64 c] 24)
  clear jc jf
  obtain ⟨jc, jf, jz4, jb4⟩ := jb.out.after hb4 jz
  go_wp2_with fail
  refine (eqTriple_any a b c _).mono ?_
  rintro e w5 ⟨rfl, hb5⟩
  go_wp2
  go_ret
  exact ⟨rfl, bstep l4' hb5 l4'.size⟩

end Go.Proofs.Ytjmllmadoelioaa
