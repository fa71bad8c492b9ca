/- Which texts are words: the program's. -/
import Derived.Test.YthfhjgmlcilmkaaGreatDoorWordL
import Derived.Test.YthfhjgmlcilmkaaGreatDoorWrdT
import Derived.Test.YthfhjgmlcilmkaaGreatDoorStr
import Derived.Test.YthfhjgmlcilmkaaGreatDoorShelf
namespace Go.Proofs.YthfhjgmlcilmkaaGreatDoor
open Go.RowKit Go.Shelf

theorem okW_all {l : List UInt8} (h : okW l = true) : l.all letter = true ∧ 1 ≤ l.length ∧ l.length ≤ 400 := by
  unfold okW at h
  simp only [Bool.and_eq_true, decide_eq_true_eq] at h
  exact ⟨h.1, h.2.1, h.2.2⟩

theorem trim_any (s : ByteArray) (w : World) (hs : s.size ≤ 9223372036854775807) :
    Calls Tryz.prog 46 #[.string s, .string ⟨#[48, 49]⟩] w fun e w' => e = .returned (.string ⟨(Lib.trimS s.data.toList [48, 49]).toArray⟩) ∧ Below w.heap.size w w' := by
  have hcon := Any.strings_Trim_laid Tryz.lays160 (by kernel_rfl) s ⟨#[48, 49]⟩ w hs (by decide) (ascii_of_all (by decide))
  exact hcon

theorem isWord_any (s : ByteArray) (w : World) (hs : s.size ≤ 9223372036854775807) :
    Calls Tryz.prog 28 #[.string s] w fun e w' => e = .returned (.bool (okW s.data.toList)) ∧ Below w.heap.size w w' := by
  have hlen : s.data.toList.length = s.size := by simp
  by_cases h1 : 1 ≤ (s.size : Int) ∧ (s.size : Int) ≤ 400
  · have HR := hide (show okW s.data.toList = s.data.toList.all letter by unfold okW; rw [hlen]; simp; omega)
    have hT := trim_any s
    have e1 := inB_of h1
    by_cases ha : s.data.toList.all letter = true
    · rw [(trim_letters _).2 ha] at hT
      have HA := hide ha
      clear ha hlen
      go_enter Tryz.func28, Tryz.ntmps28
      go_wp2_with fail
      refine (within_any _ _ _ _).mono ?_
      rintro e w1 ⟨rfl, rfl⟩
      rw [e1]
      go_wp2_with fail
      refine (hT _ hs).mono ?_
      rintro e w1 ⟨rfl, hb⟩
      go_wp2_with fail
      go_ret
      exact ⟨by rw [HR.out, HA.out]; rfl, hb⟩
    · have hn : ¬ Lib.trimS s.data.toList [48, 49] = [] := fun h => ha ((trim_letters _).1 h)
      have hf : s.data.toList.all letter = false := by simpa using ha
      generalize Lib.trimS s.data.toList [48, 49] = t at *
      have b1 : t.isEmpty = false := by simpa using hn
      have HA := hide hf
      clear ha hf hn hlen
      go_enter Tryz.func28, Tryz.ntmps28
      go_wp2_with fail
      refine (within_any _ _ _ _).mono ?_
      rintro e w1 ⟨rfl, rfl⟩
      rw [e1]
      go_wp2_with fail
      refine (hT _ hs).mono ?_
      rintro e w1 ⟨rfl, hb⟩
      go_wp2_with fail
      go_ret
      exact ⟨by rw [HR.out, HA.out]; rfl, hb⟩
  · have HR := hide (show okW s.data.toList = false by unfold okW; rw [hlen, Bool.and_eq_false_iff]; right; simp; omega)
    have e1 := inB_no h1
    clear hlen
    go_enter Tryz.func28, Tryz.ntmps28
    go_wp2_with fail
    refine (within_any _ _ _ _).mono ?_
    rintro e w1 ⟨rfl, rfl⟩
    rw [e1]
    go_wp2_with fail
    go_ret
    exact ⟨by rw [HR.out]; rfl, Below.refl _ _⟩

end Go.Proofs.YthfhjgmlcilmkaaGreatDoor
