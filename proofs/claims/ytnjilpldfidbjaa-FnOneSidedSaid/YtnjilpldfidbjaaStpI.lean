/- IntermediatesOf: the reference's, and the law's walk. -/
import Derived.Test.YtnjilpldfidbjaaStpH
namespace Go.Proofs.Ytnjilpldfidbjaa
open Go.RowKit

set_option maxRecDepth 100000 in
theorem specIntermediatesOf_any (p q : Int) (w : World) :
    Calls Try.prog 22 #[.agg #[.int .i64 p, .int .i64 q]] w fun e w' => ∃ v, e = .returned (.tuple #[v, .int .i64 (itc p q)]) ∧ LstF w' w.heap.size v (itx p q) ∧ Below w.heap.size w w' := by
  have hC := l19Code_any p q
  by_cases hi0 : itc p q = 0
  · obtain ⟨ho, ht⟩ := itc_ok hi0
    obtain ⟨o1, o2, _⟩ := okF_iff.1 ho
    obtain ⟨b, rfl⟩ : ∃ b : Nat, q = b := ⟨q.toNat, by omega⟩
    rw [Int.toNat_natCast] at ht
    have hx : itx p b = inl p b (terms p b).length := by unfold itx; rw [hi0]; rfl
    have hL := fun w => l19All_any p b w ho ht
    rw [hi0] at hC
    rw [hi0, hx]
    clear hx hi0
    go_enter Try.func22, Try.ntmps22
    go_wp2_with fail
    refine (hC _).mono ?_
    rintro e w1 ⟨rfl, hb1⟩
    obtain ⟨a1, _, k3, _⟩ := (Blk.new w 25 #[.int .i64 p, .int .i64 b]).after hb1 (by simp)
    have x0 := a1 0
    have x1 := a1 1
    have hB := bstep (show Below w.heap.size w _ by go_grown) hb1 (by simp)
    clear a1 hb1
    go_wp2_with fail
    refine (hL _).mono ?_
    rintro e w2 ⟨v, rfl, hl, hb2⟩
    have hl2 := hl.base hB.size
    have HL := hide hl2
    clear hl hl2
    go_wp2_with fail
    go_returns
    exact ⟨_, rfl, HL.out, bstep hB hb2 hB.size⟩
  · have hx : itx p q = [] := by unfold itx; rw [if_neg hi0]
    rw [hx]
    generalize itc p q = c at *
    have hb : (c != 0) = true := by simp [hi0]
    clear hx
    go_enter Try.func22, Try.ntmps22
    go_wp2_with fail
    refine (hC _).mono ?_
    rintro e w1 ⟨rfl, hb1⟩
    have hB := bstep (show Below w.heap.size w _ by go_grown) hb1 (by simp)
    go_wp2_with fail
    go_returns
    exact ⟨_, rfl, LstF.nil_ _ _, hB⟩

end Go.Proofs.Ytnjilpldfidbjaa
