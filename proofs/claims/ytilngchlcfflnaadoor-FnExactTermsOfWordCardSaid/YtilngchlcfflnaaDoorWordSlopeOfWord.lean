/- The law on SlopeOfWord. -/
import Derived.Test.YtilngchlcfflnaaDoorWordS
namespace Go.Proofs.YtilngchlcfflnaaDoor
open Go.RowKit

theorem eqFraction_any (p q : Int) (w : World) :
    Calls Tryd.prog 15 #[.agg #[.int .i64 p, .int .i64 q], .agg #[.int .i64 p, .int .i64 q]] w fun e w' => e = .returned (.bool true) ∧ Below w.heap.size w w' := by
  go_enter Tryd.func15, Tryd.ntmps15
  go_wp2
  go_ret
  exact ⟨rfl, by go_grown⟩

theorem slp_some (l : List UInt8) : ∃ p q c : Int, slp l = .tuple #[.agg #[.int .i64 p, .int .i64 q], .int .i64 c] := by
  unfold slp; split
  · split <;> exact ⟨_, _, _, rfl⟩
  · exact ⟨_, _, _, rfl⟩

theorem implSlopeOfWord_any (s : ByteArray) (w : World) (hs : s.size ≤ 9223372036854775807) :
    Calls Tryd.prog 14 #[.string s] w fun e w' => e = .returned (slp s.data.toList) ∧ Below w.heap.size w w' := by
  have hS := slopeOf_any s
  obtain ⟨p, q, c, hv⟩ := slp_some s.data.toList
  rw [hv] at hS
  have HR := hide hv
  clear hv
  go_enter Tryd.func14, Tryd.ntmps14
  go_wp2_with fail
  refine (hS _ hs).mono ?_
  rintro e w1 ⟨rfl, hb1⟩
  obtain ⟨c1, c2, c3, H1⟩ := (Blk.new w 24 #[.int .i64 0, .int .i64 0]).after hb1 (by simp)
  have c4 := c1 0
  have c5 := c1 1
  have hB := bstep (show Below w.heap.size w _ by go_grown) hb1 (by simp)
  go_wp2_with fail
  have z3 := H1.out.set2 (x := .int .i64 p) (y := .int .i64 q)
  obtain ⟨z4, _, _, _⟩ := z3.after (Below.refl _ _) z3.lt
  refine bodyPost_ret (v := .tuple #[.agg #[.int .i64 p, .int .i64 q], .int .i64 c]) (by simp [results, Tryd.results14, go_sem, z4]) rfl ⟨by rw [HR.out], ?_⟩
  exact (hB.setCell (Nat.le_refl _) _).setCell (Nat.le_refl _) _

theorem law_SlopeOfWord (s : ByteArray) (w : World) (hs : s.size ≤ maxLen) :
    Calls Tryd.prog 4 #[.string s] w fun e w' => e = .returned (.bool true) ∧ Below w.heap.size w w' := by
  unfold maxLen at hs
  by_cases hbig : 1048576 < s.size
  · go_enter Tryd.func4, Tryd.ntmps4
    go_wp2
    go_ret
    exact ⟨rfl, Below.refl _ _⟩
  · have hS := specSlopeOfWord_any s
    have hI := implSlopeOfWord_any s
    obtain ⟨p, q, c, hv⟩ := slp_some s.data.toList
    rw [hv] at hS hI
    clear hv
    go_enter Tryd.func4, Tryd.ntmps4
    go_wp2_with fail
    refine (hS _ (by omega)).mono ?_
    rintro e w1 ⟨rfl, hb1⟩
    go_wp2_with fail
    refine (hI _ (by omega)).mono ?_
    rintro e w2 ⟨rfl, hb2⟩
    obtain ⟨c1, c2, c3, H1⟩ := (Blk.new w1 24 #[.int .i64 p, .int .i64 q]).after hb2 (by simp)
    have c4 := c1 0
    have c5 := c1 1
    have sz := hb1.size
    have hB := bstep (show Below w.heap.size w _ from hb1.alloc hb1.size _) hb2 (by simp; omega)
    have sz2 := hB.size
    go_wp2_with fail
    refine (eqFraction_any p q _).mono ?_
    rintro e w3 ⟨rfl, hb3⟩
    have hB2 := bstep (show Below w.heap.size w _ from hB.alloc hB.size _) hb3 (by simp; omega)
    go_wp2_with fail
    go_ret
    exact ⟨rfl, hB2⟩

end Go.Proofs.YtilngchlcfflnaaDoor
