/- Which texts are words, and the slope of a word: the program's and the reference's. -/
import Derived.Test.YtednobegombphaaDoorWordL
import Derived.Test.YtednobegombphaaDoorWrdT
import Derived.Test.YtednobegombphaaDoorStr
import Derived.Test.YtednobegombphaaDoorFracP
import Derived.Test.YtednobegombphaaDoorShelf
namespace Go.Proofs.YtednobegombphaaDoor
open Go.RowKit Go.Shelf

theorem okW_all {l : List UInt8} (h : okW l = true) : l.all letter = true ∧ 1 ≤ l.length ∧ l.length ≤ 400 := by
  unfold okW at h
  simp only [Bool.and_eq_true, decide_eq_true_eq] at h
  exact ⟨h.1, h.2.1, h.2.2⟩

theorem trim_any (s : ByteArray) (w : World) (hs : s.size ≤ 9223372036854775807) :
    Calls Tryd.prog 59 #[.string s, .string ⟨#[48, 49]⟩] w fun e w' => e = .returned (.string ⟨(Lib.trimS s.data.toList [48, 49]).toArray⟩) ∧ Below w.heap.size w w' := by
  have hcon := Any.strings_Trim_laid Tryd.lays160 (by kernel_rfl) s ⟨#[48, 49]⟩ w hs (by decide) (ascii_of_all (by decide))
  exact hcon

theorem isWord_any (s : ByteArray) (w : World) (hs : s.size ≤ 9223372036854775807) :
    Calls Tryd.prog 44 #[.string s] w fun e w' => e = .returned (.bool (okW s.data.toList)) ∧ Below w.heap.size w w' := by
  have hlen : s.data.toList.length = s.size := by simp
  by_cases h1 : 1 ≤ (s.size : Int) ∧ (s.size : Int) ≤ 400
  · have HR := hide (show okW s.data.toList = s.data.toList.all letter by unfold okW; rw [hlen]; simp; omega)
    have hT := trim_any s
    have e1 := inB_of h1
    by_cases ha : s.data.toList.all letter = true
    · rw [(trim_letters _).2 ha] at hT
      have HA := hide ha
      clear ha hlen
      go_enter Tryd.func44, Tryd.ntmps44
      go_wp2_with fail
      refine (within_any _ _ _ _).mono ?_
      rintro e w1 ⟨rfl, rfl⟩
      rw [e1]
      go_wp2_with fail
      refine (hT _ hs).mono ?_
      rintro e w1 ⟨rfl, hb⟩
      go_wp2_with fail
      go_ret
      exact ⟨by rw [HR.out, HA.out]; rfl, hb⟩
    · have hn : ¬ Lib.trimS s.data.toList [48, 49] = [] := fun h => ha ((trim_letters _).1 h)
      have hf : s.data.toList.all letter = false := by simpa using ha
      generalize Lib.trimS s.data.toList [48, 49] = t at *
      have b1 : t.isEmpty = false := by simpa using hn
      have HA := hide hf
      clear ha hf hn hlen
      go_enter Tryd.func44, Tryd.ntmps44
      go_wp2_with fail
      refine (within_any _ _ _ _).mono ?_
      rintro e w1 ⟨rfl, rfl⟩
      rw [e1]
      go_wp2_with fail
      refine (hT _ hs).mono ?_
      rintro e w1 ⟨rfl, hb⟩
      go_wp2_with fail
      go_ret
      exact ⟨by rw [HR.out, HA.out]; rfl, hb⟩
  · have HR := hide (show okW s.data.toList = false by unfold okW; rw [hlen, Bool.and_eq_false_iff]; right; simp; omega)
    have e1 := inB_no h1
    clear hlen
    go_enter Tryd.func44, Tryd.ntmps44
    go_wp2_with fail
    refine (within_any _ _ _ _).mono ?_
    rintro e w1 ⟨rfl, rfl⟩
    rw [e1]
    go_wp2_with fail
    go_ret
    exact ⟨by rw [HR.out]; rfl, Below.refl _ _⟩

/-- The slope of a word, and a code. -/
def slp (l : List UInt8) : Value :=
  if okW l = true then (if zeros l = 0 then .tuple #[.agg #[.int .i64 0, .int .i64 0], .int .i64 6]
    else .tuple #[.agg #[.int .i64 ((ones l : Int) / (Int.gcd (ones l) (zeros l) : Nat)), .int .i64 ((zeros l : Int) / (Int.gcd (ones l) (zeros l) : Nat))], .int .i64 0])
  else .tuple #[.agg #[.int .i64 0, .int .i64 0], .int .i64 1]

set_option maxRecDepth 100000 in
set_option maxHeartbeats 1000000 in
theorem slopeOf_any (s : ByteArray) (w : World) (hs : s.size ≤ 9223372036854775807) :
    Calls Tryd.prog 36 #[.string s] w fun e w' => e = .returned (slp s.data.toList) ∧ Below w.heap.size w w' := by
  have hlen : s.data.toList.length = s.size := by simp
  have hW := isWord_any s
  by_cases ho : okW s.data.toList = true
  · rw [ho] at hW
    obtain ⟨ha, h1, h2⟩ := okW_all ho
    rw [hlen] at h1 h2
    have hC := countLetters_any s
    have hle := ones_le s.data.toList
    have hz : zeros s.data.toList = s.data.toList.length - ones s.data.toList := rfl
    rw [hlen] at hle hz
    by_cases h0 : zeros s.data.toList = 0
    · have HR := hide (show slp s.data.toList = _ by unfold slp; rw [if_pos ho, if_pos h0])
      rw [h0] at hC
      generalize ones s.data.toList = o at *
      have HC := fun w => hC w h2 ha
      clear hC ha ho hlen h0 hz
      go_enter Tryd.func36, Tryd.ntmps36
      go_wp2_with fail
      refine (hW _ hs).mono ?_
      rintro e w1 ⟨rfl, hb1⟩
      obtain ⟨c1, c2, c3, H1⟩ := (Blk.new w 25 #[.int .i64 0, .int .i64 0]).after hb1 (by simp)
      have c4 := c1 0
      have c5 := c1 1
      have hB := bstep (show Below w.heap.size w _ by go_grown) hb1 (by simp)
      go_wp2_with fail
      refine (HC _).mono ?_
      rintro e w2 ⟨rfl, rfl⟩
      go_wp2_with fail
      have z3 := H1.out.set2 (x := .int .i64 0) (y := .int .i64 0)
      obtain ⟨z4, _, _, _⟩ := z3.after (Below.refl _ _) z3.lt
      refine bodyPost_ret (v := .tuple #[.agg #[.int .i64 0, .int .i64 0], .int .i64 6]) (by simp [results, Tryd.results36, go_sem, z4]) rfl ⟨by rw [HR.out], ?_⟩
      exact (hB.setCell (Nat.le_refl _) _).setCell (Nat.le_refl _) _
    · have HR := hide (show slp s.data.toList = _ by unfold slp; rw [if_pos ho, if_neg h0])
      generalize ones s.data.toList = o at *
      generalize zeros s.data.toList = z at *
      have hP := plainOf_any o z
      have HC := fun w => hC w h2 ha
      generalize (o : Int) / (Int.gcd o z : Nat) = x at *
      generalize (z : Int) / (Int.gcd o z : Nat) = y at *
      have b0 : ((z : Int) == 0) = false := beq_eq_false_iff_ne.2 (by omega)
      have hz2 : z ≤ 400 := by omega
      clear hC ha ho hlen hz
      go_enter Tryd.func36, Tryd.ntmps36
      go_wp2_with fail
      refine (hW _ hs).mono ?_
      rintro e w1 ⟨rfl, hb1⟩
      have h1B := (Blk.new w 25 #[.int .i64 0, .int .i64 0]).after hb1 (by simp)
      have H1 := h1B.2.2.2
      have hB := bstep (show Below w.heap.size w _ by go_grown) hb1 (by simp)
      have hlt := h1B.2.2.1
      clear h1B
      go_wp2_with fail
      refine (HC _).mono ?_
      rintro e w2 ⟨rfl, rfl⟩
      go_wp2_with fail
      refine (hP _ (by omega) (by omega)).mono ?_
      rintro e w2 ⟨rfl, hb2⟩
      obtain ⟨c1, c2, c3, H2⟩ := H1.out.after hb2 hlt
      have c4 := c1 0
      have c5 := c1 1
      have hB2 := bstep hB hb2 hB.size
      go_wp2_with fail
      have z3 := H2.out.set2 (x := .int .i64 x) (y := .int .i64 y)
      obtain ⟨z4, _, _, _⟩ := z3.after (Below.refl _ _) z3.lt
      refine bodyPost_ret (v := .tuple #[.agg #[.int .i64 x, .int .i64 y], .int .i64 0]) (by simp [results, Tryd.results36, go_sem, z4]) rfl ⟨by rw [HR.out], ?_⟩
      exact (hB2.setCell (Nat.le_refl _) _).setCell (Nat.le_refl _) _
  · have HR := hide (show slp s.data.toList = _ by unfold slp; rw [if_neg ho])
    have hf : okW s.data.toList = false := by simpa using ho
    rw [hf] at hW
    clear hlen
    go_enter Tryd.func36, Tryd.ntmps36
    go_wp2_with fail
    refine (hW _ hs).mono ?_
    rintro e w1 ⟨rfl, hb1⟩
    obtain ⟨c1, c2, c3, H1⟩ := (Blk.new w 25 #[.int .i64 0, .int .i64 0]).after hb1 (by simp)
    have c4 := c1 0
    have c5 := c1 1
    have hB := bstep (show Below w.heap.size w _ by go_grown) hb1 (by simp)
    go_wp2_with fail
    have z3 := H1.out.set2 (x := .int .i64 0) (y := .int .i64 0)
    obtain ⟨z4, _, _, _⟩ := z3.after (Below.refl _ _) z3.lt
    refine bodyPost_ret (v := .tuple #[.agg #[.int .i64 0, .int .i64 0], .int .i64 1]) (by simp [results, Tryd.results36, go_sem, z4]) rfl ⟨by rw [HR.out], ?_⟩
    exact (hB.setCell (Nat.le_refl _) _).setCell (Nat.le_refl _) _

set_option maxRecDepth 100000 in
set_option maxHeartbeats 1000000 in
theorem specSlopeOfWord_any (s : ByteArray) (w : World) (hs : s.size ≤ 9223372036854775807) :
    Calls Tryd.prog 13 #[.string s] w fun e w' => e = .returned (slp s.data.toList) ∧ Below w.heap.size w w' := by
  have hlen : s.data.toList.length = s.size := by simp
  have hW := l23Ok_any s
  by_cases ho : okW s.data.toList = true
  · rw [ho] at hW
    obtain ⟨ha, h1, h2⟩ := okW_all ho
    rw [hlen] at h1 h2
    have hC := l23Ones_any s
    have hle := ones_le s.data.toList
    have hz : zeros s.data.toList = s.data.toList.length - ones s.data.toList := rfl
    rw [hlen] at hle hz
    by_cases h0 : zeros s.data.toList = 0
    · have HR := hide (show slp s.data.toList = _ by unfold slp; rw [if_pos ho, if_pos h0])
      generalize ones s.data.toList = o at *
      have he : (s.size : Int) - o = 0 := by omega
      clear ha ho hlen h0 hz
      go_enter Tryd.func13, Tryd.ntmps13
      go_wp2_with fail
      refine (hW _ hs).mono ?_
      rintro e w1 ⟨rfl, rfl⟩
      have H1 := hide (Blk.new w 25 #[.int .i64 0, .int .i64 0])
      go_wp2_with fail
      refine (hC _ hs).mono ?_
      rintro e w2 ⟨rfl, rfl⟩
      go_wp2_with fail
      have z3 := H1.out.set2 (x := .int .i64 0) (y := .int .i64 0)
      obtain ⟨z4, _, _, _⟩ := z3.after (Below.refl _ _) z3.lt
      refine bodyPost_ret (v := .tuple #[.agg #[.int .i64 0, .int .i64 0], .int .i64 6]) (by simp [results, Tryd.results13, go_sem]) rfl ⟨by rw [HR.out], ?_⟩
      go_grown
    · have HR := hide (show slp s.data.toList = _ by unfold slp; rw [if_pos ho, if_neg h0])
      generalize ones s.data.toList = o at *
      generalize zeros s.data.toList = z at *
      have hP := l02Make_any o z
      generalize (o : Int) / (Int.gcd o z : Nat) = x at *
      generalize (z : Int) / (Int.gcd o z : Nat) = y at *
      have b0 : ((z : Int) == 0) = false := beq_eq_false_iff_ne.2 (by omega)
      have he : (s.size : Int) - o = z := by omega
      have hz2 : 0 < z ∧ z ≤ 400 := by omega
      clear ha ho hlen hz
      go_enter Tryd.func13, Tryd.ntmps13
      go_wp2_with fail
      refine (hW _ hs).mono ?_
      rintro e w1 ⟨rfl, rfl⟩
      have H1 := hide (Blk.new w 25 #[.int .i64 0, .int .i64 0])
      go_wp2_with fail
      refine (hC _ hs).mono ?_
      rintro e w2 ⟨rfl, rfl⟩
      go_wp2_with fail
      refine (hP _ (by omega) (by omega) (by omega)).mono ?_
      rintro e w2 ⟨rfl, hb2⟩
      obtain ⟨c1, c2, c3, H2⟩ := H1.out.after hb2 (by simp)
      have c4 := c1 0
      have c5 := c1 1
      have hB2 := bstep (show Below w.heap.size w _ by go_grown) hb2 (by simp)
      go_wp2_with fail
      have z3 := H2.out.set2 (x := .int .i64 x) (y := .int .i64 y)
      obtain ⟨z4, _, _, _⟩ := z3.after (Below.refl _ _) z3.lt
      refine bodyPost_ret (v := .tuple #[.agg #[.int .i64 x, .int .i64 y], .int .i64 0]) (by simp [results, Tryd.results13, go_sem, z4]) rfl ⟨by rw [HR.out], ?_⟩
      exact (hB2.setCell (Nat.le_refl _) _).setCell (Nat.le_refl _) _
  · have HR := hide (show slp s.data.toList = _ by unfold slp; rw [if_neg ho])
    have hf : okW s.data.toList = false := by simpa using ho
    rw [hf] at hW
    clear hlen
    go_enter Tryd.func13, Tryd.ntmps13
    go_wp2_with fail
    refine (hW _ hs).mono ?_
    rintro e w1 ⟨rfl, rfl⟩
    go_wp2_with fail
    refine bodyPost_ret (v := .tuple #[.agg #[.int .i64 0, .int .i64 0], .int .i64 1]) (by simp [results, Tryd.results13, go_sem]) rfl ⟨by rw [HR.out], ?_⟩
    go_grown

end Go.Proofs.YtednobegombphaaDoor
