/- The law on SlopeOfWord. -/
import Derived.Test.YtednobegombphaaDoorWordS
namespace Go.Proofs.YtednobegombphaaDoor
open Go.RowKit

theorem slp_some (l : List UInt8) : ∃ p q c : Int, slp l = .tuple #[.agg #[.int .i64 p, .int .i64 q], .int .i64 c] := by
  unfold slp; split
  · split <;> exact ⟨_, _, _, rfl⟩
  · exact ⟨_, _, _, rfl⟩

theorem implSlopeOfWord_any (s : ByteArray) (w : World) (hs : s.size ≤ 9223372036854775807) :
    Calls Tryd.prog 12 #[.string s] w fun e w' => e = .returned (slp s.data.toList) ∧ Below w.heap.size w w' := by
  have hS := slopeOf_any s
  obtain ⟨p, q, c, hv⟩ := slp_some s.data.toList
  rw [hv] at hS
  have HR := hide hv
  clear hv
  go_enter Tryd.func12, Tryd.ntmps12
  go_wp2_with fail
  refine (hS _ hs).mono ?_
  rintro e w1 ⟨rfl, hb1⟩
  obtain ⟨c1, c2, c3, H1⟩ := (Blk.new w 25 #[.int .i64 0, .int .i64 0]).after hb1 (by simp)
  have c4 := c1 0
  have c5 := c1 1
  have hB := bstep (show Below w.heap.size w _ by go_grown) hb1 (by simp)
  go_wp2_with fail
  have z3 := H1.out.set2 (x := .int .i64 p) (y := .int .i64 q)
  obtain ⟨z4, _, _, _⟩ := z3.after (Below.refl _ _) z3.lt
  refine bodyPost_ret (v := .tuple #[.agg #[.int .i64 p, .int .i64 q], .int .i64 c]) (by simp [results, Tryd.results12, go_sem, z4]) rfl ⟨by rw [HR.out], ?_⟩
  exact (hB.setCell (Nat.le_refl _) _).setCell (Nat.le_refl _) _

end Go.Proofs.YtednobegombphaaDoor
