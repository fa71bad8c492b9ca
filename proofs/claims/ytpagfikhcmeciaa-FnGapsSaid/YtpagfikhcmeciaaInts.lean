/- Lists of int64 as cells. -/
import Derived.Test.YtpagfikhcmeciaaRow
import Derived.Deep.RegionHeld3
import Derived.Deep.LoopGhost
namespace Go.Proofs.Ytpagfikhcmeciaa
open Go.RowKit

def il (zs : List Int) : List Value := zs.map (Value.int .i64)
theorem il_len (zs : List Int) : (il zs).length = zs.length := by simp [il]
theorem il_append (a b : List Int) : il (a ++ b) = il a ++ il b := by simp [il]
theorem il_at {zs : List Int} {i : Nat} (hi : i < zs.length) : (il zs)[i]? = some (.int .i64 zs[i]) := by simp [il, hi]
theorem il_getD {zs : List Int} {i : Nat} (hi : i < zs.length) : (il zs)[i]? = some (.int .i64 (zs.getD i 0)) := by rw [il_at hi]; simp [List.getD, hi]
theorem one_il (zs : List Int) : ∀ u ∈ il zs, u.oneCell' = true := by
  intro u hu
  simp only [il, List.mem_map] at hu
  obtain ⟨z, _, rfl⟩ := hu
  rfl
theorem Blk.grown {w w' : World} {g : Nat} {t : TypeId} {cs : Array Value} {row : Option Nat} (h : Blk w g t cs) (hg : w.grownBy w' row) (hne : some g ≠ row) : Blk w' g t cs := (hg.block g h.lt hne).trans h
/-- Behind an append the row lies where it lay, or in the block that is named. -/
theorem at_old {g g' H : Nat} {c : Nat} {n : Nat} (h : (Value.slice (some ⟨g, 0, none⟩) n c).ownBlock = some g' ∨ g' = H) : g' = g ∨ g' = H := by
  rcases h with h | h
  · simp [Value.ownBlock] at h; exact .inl h.symm
  · exact .inr h

end Go.Proofs.Ytpagfikhcmeciaa
