/- Lists of bools (out of HeldB). -/
import Derived.Test.YtikpiigamnpafaaDoorSrt
import Derived.Test.YtikpiigamnpafaaDoorGs
import Derived.Test.YtikpiigamnpafaaDoorOwn
import Derived.Test.YtikpiigamnpafaaDoorShelfR
import Derived.Shelf.SlicesE.Reverse
namespace Go.Proofs.YtikpiigamnpafaaDoor
open Go.RowKit Go.Sort Go.Shelf

def bll (bs : List Bool) : List Value := bs.map Value.bool

theorem bll_len (bs : List Bool) : (bll bs).length = bs.length := by simp [bll]

theorem bll_append (a b : List Bool) : bll (a ++ b) = bll a ++ bll b := by simp [bll]

theorem bll_at {bs : List Bool} {i : Nat} (hi : i < bs.length) : (bll bs)[i]? = some (.bool bs[i]) := by simp [bll, hi]

theorem one_bll (bs : List Bool) : ∀ u ∈ bll bs, u.oneCell' = true := by
  intro u hu
  simp only [bll, List.mem_map] at hu
  obtain ⟨z, _, rfl⟩ := hu
  rfl

theorem revB_any (g n cap : Nat) (bs : List Bool) (w : World) (hn : n ≤ 1000000000) (h : Row w g 4 1 n cap (bll bs)) :
    Calls Tryd.prog 57 #[.slice (some ⟨g, 0, none⟩) n cap] w fun e w' => e = .returned (.tuple #[]) ∧ Row w' g 4 1 n cap (bll bs.reverse) ∧ w.grownBy w' (some g) := by
  have hl : bs.length = n := by have := h.len; rw [bll_len] at this; omega
  subst hl
  have hr : Row w g 4 1 bs.length cap (bs.toArray.toList.map Value.bool) := h
  have hcon := AnyE.slices_Reverse Tryd.revB Value.bool (fun _ => rfl) g 0 cap bs w hr.holds (by omega)
  refine Calls.mono (show Calls Tryd.prog 57 _ w _ from hcon) ?_
  rintro e w' ⟨rfl, m, rfl⟩
  obtain ⟨a1, a2⟩ := sort_row (d' := bs.reverse.toArray) hr (by simp) m #[]
  have e2 : sortWorld Value.bool w g 0 m bs.reverse.toArray #[] = putRow Value.bool (Sort.ahead w m) g 0 bs.reverse.toArray := by unfold sortWorld; rw [grow_empty]
  rw [e2] at a1 a2
  exact ⟨rfl, a1, a2⟩

theorem revB_none (w : World) :
    Calls Tryd.prog 57 #[.slice none 0 0] w fun e w' => e = .returned (.tuple #[]) ∧ w = w' :=
  Calls.mono (show Calls Tryd.prog 57 #[.slice none 0 0] w _ from AnyE.slices_Reverse_empty Tryd.revB none 0 w) fun _ _ ⟨h1, h2⟩ => ⟨h1, h2.symm⟩

/-- A list of bools that a call made behind block B, or nil. -/
def LstB (w : World) (B : Nat) (v : Value) (xs : List Bool) : Prop :=
  ∃ A n cap, v = .slice A n cap ∧ n = xs.length ∧ n ≤ 1000000000 ∧ ((A = none ∧ n = 0) ∨ ∃ g, A = some ⟨g, 0, none⟩ ∧ B ≤ g ∧ Row w g 4 1 n cap (bll xs))

theorem LstB.nil_ (w : World) (B : Nat) : LstB w B (.slice none 0 0) [] := ⟨none, 0, 0, rfl, rfl, by omega, .inl ⟨rfl, rfl⟩⟩

theorem LstB.of_row {w : World} {B g n cap : Nat} {xs : List Bool} (h : Row w g 4 1 n cap (bll xs)) (hB : B ≤ g) (hn : n ≤ 1000000000) : LstB w B (.slice (some ⟨g, 0, none⟩) n cap) xs :=
  ⟨_, n, cap, rfl, by have := h.len; rw [bll_len] at this; omega, hn, .inr ⟨g, rfl, hB, h⟩⟩

theorem LstB.keep {w w' : World} {B : Nat} {v : Value} {xs : List Bool} (h : LstB w B v xs) (hb : Below w.heap.size w w') : LstB w' B v xs := by
  obtain ⟨A, n, cap, e, hn, hn2, h | ⟨g, hA, hg, hr⟩⟩ := h
  · exact ⟨A, n, cap, e, hn, hn2, .inl h⟩
  · exact ⟨A, n, cap, e, hn, hn2, .inr ⟨g, hA, hg, hr.below hb hr.lt⟩⟩

theorem LstB.rd {w : World} {B : Nat} {A : Option Addr} {n cap : Nat} {xs : List Bool} (hn : n = xs.length) (h : (A = none ∧ n = 0) ∨ ∃ g, A = some ⟨g, 0, none⟩ ∧ B ≤ g ∧ Row w g 4 1 n cap (bll xs)) : Rd w w.heap.size 1 A n (bll xs) := by
  rcases h with ⟨_, h0⟩ | ⟨g, rfl, _, hr⟩
  · exact ⟨by rw [bll_len]; omega, fun h => by omega⟩
  · exact hr.rd

end Go.Proofs.YtikpiigamnpafaaDoor
