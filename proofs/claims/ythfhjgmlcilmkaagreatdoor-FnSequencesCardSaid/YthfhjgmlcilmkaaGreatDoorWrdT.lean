/- What strings.Trim leaves of a text. -/
import Derived.Test.YthfhjgmlcilmkaaGreatDoorWrd
import Derived.Lib.SlTrimSet
namespace Go.Proofs.YthfhjgmlcilmkaaGreatDoor
open Go.RowKit

/-- What strings.Trim leaves of a text of letters is nothing, and else something. -/
theorem dropWhile_nil {f : UInt8 → Bool} : ∀ {l : List UInt8}, l.dropWhile f = [] ↔ l.all f = true
  | [] => by simp
  | a :: l => by
    by_cases h : f a = true
    · simp [List.dropWhile, h, dropWhile_nil (l := l)]
    · simp [List.dropWhile, h]
theorem trim_letters (l : List UInt8) : Lib.trimS l [48, 49] = [] ↔ l.all letter = true := by
  have hf : (fun c => ([48, 49] : List UInt8).contains c) = letter := by
    funext c
    simp only [letter, List.contains, List.elem]
    cases (c == 48) <;> cases (c == 49) <;> rfl
  unfold Lib.trimS Lib.trimLeftS Lib.trimRightS
  rw [hf, dropWhile_nil]
  constructor
  · intro h
    by_cases hl : (l.reverse.dropWhile letter) = []
    · have := dropWhile_nil.1 hl
      simpa using this
    · have hh := List.head_dropWhile_not letter hl
      rw [List.all_reverse] at h
      rw [List.all_eq_true] at h
      have := h _ (List.head_mem hl)
      rw [hh] at this
      cases this
  · intro h
    have : l.reverse.dropWhile letter = [] := dropWhile_nil.2 (by simpa using h)
    rw [this]; rfl


end Go.Proofs.YthfhjgmlcilmkaaGreatDoor
