/- Strings as values. -/
import Derived.Test.YthfhjgmlcilmkaaGreatDoorBase
namespace Go.Proofs.YthfhjgmlcilmkaaGreatDoor
open Go.RowKit

def str (l : List UInt8) : Value := .string ⟨l.toArray⟩

theorem ba_self (s : ByteArray) : (s == s) = true := by
  rcases s with ⟨⟨l⟩⟩
  show (l.toArray == l.toArray) = true
  simp

theorem bn_self (s : ByteArray) : (s != s) = false := by
  unfold bne; rw [ba_self]; rfl

theorem ba_ne {s t : ByteArray} (h : s.data.toList ≠ t.data.toList) : (s == t) = false := by
  rcases s with ⟨⟨l⟩⟩
  rcases t with ⟨⟨m⟩⟩
  show (l.toArray == m.toArray) = false
  simpa using h

end Go.Proofs.YthfhjgmlcilmkaaGreatDoor
