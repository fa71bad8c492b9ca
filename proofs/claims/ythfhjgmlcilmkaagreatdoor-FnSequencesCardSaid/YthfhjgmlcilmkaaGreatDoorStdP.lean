/- Standard words in plain words. -/
import Derived.Test.YthfhjgmlcilmkaaGreatDoorStdV
import Derived.Test.YthfhjgmlcilmkaaGreatDoorStrL
import Derived.Test.YthfhjgmlcilmkaaGreatDoorOwn
import Derived.Lib.Repeat
namespace Go.Proofs.YthfhjgmlcilmkaaGreatDoor
open Go.RowKit

theorem info_str : (Tryz.prog.info? 9).map (fun i => (i.zero, i.size, i.bytes)) = some (some (.string ⟨#[]⟩), 1, 16) := by kernel_rfl

/-- t copies of b, and a behind them. -/
def rp (b a : ByteArray) (t : Nat) : ByteArray := ⟨(Lib.repeatL b.data.toList t).toArray⟩ ++ a
theorem rpt_size (b : ByteArray) (t : Nat) : (⟨(Lib.repeatL b.data.toList t).toArray⟩ : ByteArray).size = t * b.size := by
  have := Lib.repeatL_length b.data.toList t
  have h2 : b.data.toList.length = b.size := by simp
  rw [h2] at this
  exact this
theorem rp_size (b a : ByteArray) (t : Nat) : (rp b a t).size = t * b.size + a.size := by
  unfold rp
  rw [ByteArray.size_append, rpt_size]
/-- The standard words of terms, behind those that are there. -/
def swr : List Int → ByteArray → ByteArray → List ByteArray → Option (List ByteArray)
  | [], _, _, acc => some acc
  | t :: ts, a, b, acc => if 400 < t.toNat * b.size + a.size then none else swr ts b (rp b a t.toNat) (acc ++ [rp b a t.toNat])
def sw0 (ts : List Int) : Option (List ByteArray) := swr ts ⟨#[49]⟩ ⟨#[48]⟩ []
theorem swr_cons {ts : List Int} {k : Nat} (h : k < ts.length) (a b : ByteArray) (acc : List ByteArray) :
    swr (ts.drop k) a b acc = if 400 < ts[k].toNat * b.size + a.size then none else swr (ts.drop (k + 1)) b (rp b a ts[k].toNat) (acc ++ [rp b a ts[k].toNat]) := by
  rw [List.drop_eq_getElem_cons h]
  rfl
/-- What StandardWords hands back: the code c and the words l. -/
def StdR (ts : List Int) (c : Int) (l : List ByteArray) : Prop :=
  (¬ VT ts ∧ c = 1 ∧ l = []) ∨ (VT ts ∧ ∃ t, ts[0]? = some t ∧ ((t < 0 ∧ c = 2 ∧ l = []) ∨ (0 ≤ t ∧ ((sw0 ts = none ∧ c = 5 ∧ l = []) ∨ (sw0 ts = some l ∧ c = 0)))))
theorem StdR.uniq {ts : List Int} {c c' : Int} {l l' : List ByteArray} (h : StdR ts c l) (h' : StdR ts c' l') : c = c' ∧ l = l' := by
  rcases h with ⟨h1, rfl, rfl⟩ | ⟨h1, t, h2, h⟩ <;> rcases h' with ⟨g1, rfl, rfl⟩ | ⟨g1, t', g2, g⟩
  · exact ⟨rfl, rfl⟩
  · exact absurd g1 h1
  · exact absurd h1 g1
  · rw [h2] at g2
    injection g2 with g2
    subst g2
    rcases h with ⟨a1, rfl, rfl⟩ | ⟨a1, h⟩ <;> rcases g with ⟨b1, rfl, rfl⟩ | ⟨b1, g⟩
    · exact ⟨rfl, rfl⟩
    · omega
    · omega
    · rcases h with ⟨a2, rfl, rfl⟩ | ⟨a2, rfl⟩ <;> rcases g with ⟨b2, rfl, rfl⟩ | ⟨b2, rfl⟩
      · exact ⟨rfl, rfl⟩
      · rw [a2] at b2; cases b2
      · rw [a2] at b2; cases b2
      · rw [a2] at b2; injection b2 with b2; exact ⟨rfl, b2⟩
theorem VT.pos {ts : List Int} (h : VT ts) {t : Int} (h0 : ts[0]? = some t) (ht : 0 ≤ t) : ∀ i (hi : i < ts.length), 0 ≤ ts[i] ∧ ts[i] ≤ 1000000000 := by
  intro i hi
  have := h.2 i hi
  by_cases e : i = 0
  · subst e
    rw [List.getElem?_eq_getElem hi] at h0
    injection h0 with h0
    omega
  · rw [if_neg e] at this
    omega

end Go.Proofs.YthfhjgmlcilmkaaGreatDoor
