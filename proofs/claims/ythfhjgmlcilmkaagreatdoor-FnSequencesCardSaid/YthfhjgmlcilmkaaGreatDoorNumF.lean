/- Quotients that are rounded down, in the reference. -/
import Derived.Test.YthfhjgmlcilmkaaGreatDoorNumG
namespace Go.Proofs.YthfhjgmlcilmkaaGreatDoor
open Go.RowKit

theorem specFloor_any (n m : Int) (w : World) (hm : 0 < m) (hm2 : m ≤ 9223372036854775807) (h1 : -9223372036854775807 ≤ n) (h2 : n ≤ 9223372036854775807) :
    Calls Tryz.prog 26 #[.int .i64 n, .int .i64 m] w fun e w' => e = .returned (.int .i64 (n / m)) ∧ w = w' := by
  have hd := hide (floor_spec (n := n) hm)
  have hb := tdiv_bd (n := n) hm 9223372036854775807 (by omega)
  have hb2 := ediv_bd (n := n) hm 9223372036854775807 (by omega)
  have hr1 := Int.lt_tmod_of_pos n hm
  have hr2 := Int.tmod_lt_of_pos n hm
  have hm0 : ¬ m = 0 := by omega
  generalize hq : n.tdiv m = q at *
  generalize hr : n.tmod m = r at *
  go_enter Tryz.func26, Tryz.ntmps26
  by_cases h : r < 0
  · have e : n / m = q - 1 := by rw [← hd.out, if_pos h]
    go_wp2
    go_ret
    exact ⟨by first | rfl | (rw [e]; rfl), rfl⟩
  · have e : n / m = q := by rw [← hd.out, if_neg h]
    go_wp2
    go_ret
    exact ⟨by first | rfl | (rw [e]; rfl), rfl⟩

end Go.Proofs.YthfhjgmlcilmkaaGreatDoor
