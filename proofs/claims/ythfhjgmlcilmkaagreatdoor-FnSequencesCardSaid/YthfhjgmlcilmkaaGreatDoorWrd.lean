/- Words: their letters, their slopes, and when they are balanced. -/
import Derived.Test.YthfhjgmlcilmkaaGreatDoorBase
namespace Go.Proofs.YthfhjgmlcilmkaaGreatDoor
open Go.RowKit

/-- The letter k of the word of p / q. -/
def chl (p q k : Nat) : UInt8 := if k * p % (p + q) < (k + 1) * p % (p + q) then 48 else 49
def chr (p q : Nat) : List UInt8 := (List.range (p + q)).map (chl p q)
def wrd (p q : Nat) : List UInt8 := if p = 0 then [48] else chr p q
theorem chr_len (p q : Nat) : (chr p q).length = p + q := by simp [chr]
theorem chr_succ {p q k : Nat} (h : k < p + q) : (chr p q).take (k + 1) = (chr p q).take k ++ [chl p q k] := by
  rw [List.take_succ_eq_append_getElem (by simpa [chr] using h)]
  simp [chr]
theorem chr_all (p q : Nat) : (chr p q).take (p + q) = chr p q := List.take_of_length_le (by simp [chr])
/-- The letter k of the cutting sequence of p / q. -/
def cul (p q k : Nat) : UInt8 := UInt8.ofNat (48 + ((k + 1) * p / q - k * p / q))
def cut (p q n : Nat) : List UInt8 := (List.range n).map (cul p q)
theorem cut_len (p q n : Nat) : (cut p q n).length = n := by simp [cut]
theorem cut_succ {p q n k : Nat} (h : k < n) : (cut p q n).take (k + 1) = (cut p q n).take k ++ [cul p q k] := by
  rw [List.take_succ_eq_append_getElem (by simpa [cut] using h)]
  simp [cut]
theorem cut_all (p q n : Nat) : (cut p q n).take n = cut p q n := List.take_of_length_le (by simp [cut])
theorem cut_step {p q k : Nat} (hq : 0 < q) (h : p ≤ q) : k * p / q ≤ (k + 1) * p / q ∧ (k + 1) * p / q ≤ k * p / q + 1 := by
  rw [Nat.add_mul, Nat.one_mul]
  refine ⟨Nat.div_le_div_right (by omega), ?_⟩
  calc (k * p + p) / q ≤ (k * p + q) / q := Nat.div_le_div_right (by omega)
    _ = k * p / q + 1 := Nat.add_div_right _ hq
def letter (c : UInt8) : Bool := c == 48 || c == 49
def okW (l : List UInt8) : Bool := l.all letter && (decide (1 ≤ l.length) && decide (l.length ≤ 400))
def ones (l : List UInt8) : Nat := l.countP (· == 49)
def zeros (l : List UInt8) : Nat := l.length - ones l
theorem ones_le (l : List UInt8) : ones l ≤ l.length := List.countP_le_length
theorem ones_snoc (l : List UInt8) (c : UInt8) : ones (l ++ [c]) = ones l + if c = 49 then 1 else 0 := by
  unfold ones; rw [List.countP_append]; by_cases h : c = 49 <;> simp [h]
theorem take_snoc (s : ByteArray) (k : Nat) (h : k < s.size) : s.data.toList.take (k + 1) = s.data.toList.take k ++ [s[k]] := by
  rw [List.take_succ_eq_append_getElem (by simpa using h)]; rfl
theorem all_at {s : ByteArray} {f : UInt8 → Bool} (h : s.data.toList.all f = true) (k : Nat) (hk : k < s.size) : f s[k] = true := by
  rw [List.all_eq_true] at h
  have hk' : k < s.data.toList.length := by simpa using hk
  exact h s.data.toList[k] (List.getElem_mem hk')
theorem letter_num {c : UInt8} (h : letter c = true) : (c.toNat : Int) = 48 + (if c = 49 then 1 else 0) := by
  unfold letter at h
  simp at h
  rcases h with rfl | rfl <;> rfl
/-- How many ones stand in the n letters behind the first i ones; least and greatest of such numbers. -/
def win (l : List UInt8) (n i : Nat) : Int := (ones (l.take (i + n)) : Int) - ones (l.take i)
def lo (l : List UInt8) (n : Nat) : Nat → Int
  | 0 => win l n 0
  | i + 1 => min (lo l n i) (win l n (i + 1))
def hi (l : List UInt8) (n : Nat) : Nat → Int
  | 0 => win l n 0
  | i + 1 => max (hi l n i) (win l n (i + 1))
def fine (l : List UInt8) (n : Nat) : Bool := decide (hi l n (l.length - n) - lo l n (l.length - n) ≤ 1)
def bal (l : List UInt8) : Bool := okW l && (List.range l.length).all fun n => n == 0 || fine l n
theorem win_bd (l : List UInt8) (n i : Nat) : 0 ≤ win l n i ∧ win l n i ≤ l.length := by
  have h1 := ones_le (l.take (i + n))
  have h2 : (l.take (i + n)).length ≤ l.length := by simp; omega
  have h3 : ones (l.take i) ≤ ones (l.take (i + n)) := by
    unfold ones
    exact List.Sublist.countP_le (List.take_sublist_take_left (by omega))
  unfold win
  omega
theorem lo_bd (l : List UInt8) (n : Nat) : ∀ i, 0 ≤ lo l n i ∧ lo l n i ≤ l.length
  | 0 => win_bd l n 0
  | i + 1 => by have := lo_bd l n i; have := win_bd l n (i + 1); unfold lo; omega
theorem hi_bd (l : List UInt8) (n : Nat) : ∀ i, 0 ≤ hi l n i ∧ hi l n i ≤ l.length
  | 0 => win_bd l n 0
  | i + 1 => by have := hi_bd l n i; have := win_bd l n (i + 1); unfold hi; omega
theorem bal_yes {l : List UInt8} (h : okW l = true) (h2 : ∀ n, 1 ≤ n → n < l.length → fine l n = true) : bal l = true := by
  unfold bal
  rw [h, Bool.true_and, List.all_eq_true]
  intro n hn
  rw [List.mem_range] at hn
  by_cases h0 : n = 0
  · simp [h0]
  · simp [h2 n (by omega) hn]
theorem bal_no {l : List UInt8} {n : Nat} (h1 : 1 ≤ n) (h2 : n < l.length) (h : fine l n = false) : bal l = false := by
  unfold bal
  rw [Bool.and_eq_false_iff]
  right
  rw [List.all_eq_false]
  exact ⟨n, List.mem_range.2 h2, by simp [h]; omega⟩
theorem bal_bad {l : List UInt8} (h : okW l = false) : bal l = false := by simp [bal, h]
theorem ones_take (s : ByteArray) {k : Nat} (h : k < s.size) (hl : s.data.toList.all letter = true) : (s[k].toNat : Int) = 48 + ((ones (s.data.toList.take (k + 1)) : Int) - ones (s.data.toList.take k)) := by
  rw [take_snoc s k h, ones_snoc, letter_num (all_at hl k h)]
  split <;> omega

end Go.Proofs.YthfhjgmlcilmkaaGreatDoor
