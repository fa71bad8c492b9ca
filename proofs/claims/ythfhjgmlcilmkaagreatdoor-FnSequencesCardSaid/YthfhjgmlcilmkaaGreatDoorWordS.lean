/- Which texts are words, and the slope of a word: the program's and the reference's. -/
import Derived.Test.YthfhjgmlcilmkaaGreatDoorWordK
import Derived.Test.YthfhjgmlcilmkaaGreatDoorFracP
namespace Go.Proofs.YthfhjgmlcilmkaaGreatDoor
open Go.RowKit Go.Shelf

/-- The slope of a word, and a code. -/
def slp (l : List UInt8) : Value :=
  if okW l = true then (if zeros l = 0 then .tuple #[.agg #[.int .i64 0, .int .i64 0], .int .i64 6]
    else .tuple #[.agg #[.int .i64 ((ones l : Int) / (Int.gcd (ones l) (zeros l) : Nat)), .int .i64 ((zeros l : Int) / (Int.gcd (ones l) (zeros l) : Nat))], .int .i64 0])
  else .tuple #[.agg #[.int .i64 0, .int .i64 0], .int .i64 1]

set_option maxRecDepth 100000 in
set_option maxHeartbeats 1000000 in
theorem slopeOf_any (s : ByteArray) (w : World) (hs : s.size ≤ 9223372036854775807) :
    Calls Tryz.prog 35 #[.string s] w fun e w' => e = .returned (slp s.data.toList) ∧ Below w.heap.size w w' := by
  have hlen : s.data.toList.length = s.size := by simp
  have hW := isWord_any s
  by_cases ho : okW s.data.toList = true
  · rw [ho] at hW
    obtain ⟨ha, h1, h2⟩ := okW_all ho
    rw [hlen] at h1 h2
    have hC := countLetters_any s
    have hle := ones_le s.data.toList
    have hz : zeros s.data.toList = s.data.toList.length - ones s.data.toList := rfl
    rw [hlen] at hle hz
    by_cases h0 : zeros s.data.toList = 0
    · have HR := hide (show slp s.data.toList = _ by unfold slp; rw [if_pos ho, if_pos h0])
      rw [h0] at hC
      generalize ones s.data.toList = o at *
      have HC := fun w => hC w h2 ha
      clear hC ha ho hlen h0 hz
      go_enter Tryz.func35, Tryz.ntmps35
      go_wp2_with fail
      refine (hW _ hs).mono ?_
      rintro e w1 ⟨rfl, hb1⟩
      obtain ⟨c1, c2, c3, H1⟩ := (Blk.new w 25 #[.int .i64 0, .int .i64 0]).after hb1 (by simp)
      have c4 := c1 0
      have c5 := c1 1
      have hB := bstep (show Below w.heap.size w _ by go_grown) hb1 (by simp)
      go_wp2_with fail
      refine (HC _).mono ?_
      rintro e w2 ⟨rfl, rfl⟩
      go_wp2_with fail
      have z3 := H1.out.set2 (x := .int .i64 0) (y := .int .i64 0)
      obtain ⟨z4, _, _, _⟩ := z3.after (Below.refl _ _) z3.lt
      refine bodyPost_ret (v := .tuple #[.agg #[.int .i64 0, .int .i64 0], .int .i64 6]) (by simp [results, Tryz.results35, go_sem, z4]) rfl ⟨by rw [HR.out], ?_⟩
      exact (hB.setCell (Nat.le_refl _) _).setCell (Nat.le_refl _) _
    · have HR := hide (show slp s.data.toList = _ by unfold slp; rw [if_pos ho, if_neg h0])
      generalize ones s.data.toList = o at *
      generalize zeros s.data.toList = z at *
      have hP := plainOf_any o z
      have HC := fun w => hC w h2 ha
      generalize (o : Int) / (Int.gcd o z : Nat) = x at *
      generalize (z : Int) / (Int.gcd o z : Nat) = y at *
      have b0 : ((z : Int) == 0) = false := beq_eq_false_iff_ne.2 (by omega)
      have hz2 : z ≤ 400 := by omega
      clear hC ha ho hlen hz
      go_enter Tryz.func35, Tryz.ntmps35
      go_wp2_with fail
      refine (hW _ hs).mono ?_
      rintro e w1 ⟨rfl, hb1⟩
      have h1B := (Blk.new w 25 #[.int .i64 0, .int .i64 0]).after hb1 (by simp)
      have H1 := h1B.2.2.2
      have hB := bstep (show Below w.heap.size w _ by go_grown) hb1 (by simp)
      have hlt := h1B.2.2.1
      clear h1B
      go_wp2_with fail
      refine (HC _).mono ?_
      rintro e w2 ⟨rfl, rfl⟩
      go_wp2_with fail
      refine (hP _ (by omega) (by omega)).mono ?_
      rintro e w2 ⟨rfl, hb2⟩
      obtain ⟨c1, c2, c3, H2⟩ := H1.out.after hb2 hlt
      have c4 := c1 0
      have c5 := c1 1
      have hB2 := bstep hB hb2 hB.size
      go_wp2_with fail
      have z3 := H2.out.set2 (x := .int .i64 x) (y := .int .i64 y)
      obtain ⟨z4, _, _, _⟩ := z3.after (Below.refl _ _) z3.lt
      refine bodyPost_ret (v := .tuple #[.agg #[.int .i64 x, .int .i64 y], .int .i64 0]) (by simp [results, Tryz.results35, go_sem, z4]) rfl ⟨by rw [HR.out], ?_⟩
      exact (hB2.setCell (Nat.le_refl _) _).setCell (Nat.le_refl _) _
  · have HR := hide (show slp s.data.toList = _ by unfold slp; rw [if_neg ho])
    have hf : okW s.data.toList = false := by simpa using ho
    rw [hf] at hW
    clear hlen
    go_enter Tryz.func35, Tryz.ntmps35
    go_wp2_with fail
    refine (hW _ hs).mono ?_
    rintro e w1 ⟨rfl, hb1⟩
    obtain ⟨c1, c2, c3, H1⟩ := (Blk.new w 25 #[.int .i64 0, .int .i64 0]).after hb1 (by simp)
    have c4 := c1 0
    have c5 := c1 1
    have hB := bstep (show Below w.heap.size w _ by go_grown) hb1 (by simp)
    go_wp2_with fail
    have z3 := H1.out.set2 (x := .int .i64 0) (y := .int .i64 0)
    obtain ⟨z4, _, _, _⟩ := z3.after (Below.refl _ _) z3.lt
    refine bodyPost_ret (v := .tuple #[.agg #[.int .i64 0, .int .i64 0], .int .i64 1]) (by simp [results, Tryz.results35, go_sem, z4]) rfl ⟨by rw [HR.out], ?_⟩
    exact (hB.setCell (Nat.le_refl _) _).setCell (Nat.le_refl _) _

end Go.Proofs.YthfhjgmlcilmkaaGreatDoor
