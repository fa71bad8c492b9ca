/- GreatestMissing and CountMissing: the program agrees with the reference. -/
import Derived.Test.YtikpiigamnpafaaDoorLin1
namespace Go.Proofs.YtikpiigamnpafaaDoor
open Go.RowKit

theorem miss_ways (a b : Int) : (cfB a = false ∧ miss a b = 2) ∨ (cfB a = true ∧ cfB b = false ∧ miss a b = 2) ∨ (cfB a = true ∧ cfB b = true ∧ a < 0 ∧ miss a b = 2) ∨ (cfB a = true ∧ cfB b = true ∧ 0 < a ∧ b < 0 ∧ miss a b = 2) ∨
    (cfB a = true ∧ cfB b = true ∧ 0 < a ∧ 0 < b ∧ a ≤ 1000000 ∧ b ≤ 1000000 ∧ 1 < Int.gcd a b ∧ miss a b = 6) ∨ (cfB a = true ∧ cfB b = true ∧ 0 < a ∧ 0 < b ∧ a ≤ 1000000 ∧ b ≤ 1000000 ∧ Int.gcd a b = 1 ∧ miss a b = 0) := by
  have hno : naB a b 0 = false → miss a b = 2 := fun h => by unfold miss; rw [if_neg (by simp [h])]
  rcases Bool.eq_false_or_eq_true (cfB a) with h | h
  · rcases Bool.eq_false_or_eq_true (cfB b) with h2 | h2
    · have ha := cfB_iff.1 h
      have hb := cfB_iff.1 h2
      by_cases h3 : a < 0
      · exact .inr (.inr (.inl ⟨h, h2, h3, hno (by rw [← Bool.not_eq_true, naB_iff]; omega)⟩))
      · by_cases h4 : b < 0
        · exact .inr (.inr (.inr (.inl ⟨h, h2, by omega, h4, hno (by rw [← Bool.not_eq_true, naB_iff]; omega)⟩)))
        · have hy : naB a b 0 = true := naB_iff.2 (by omega)
          have hm : miss a b = if 1 < Int.gcd a b then 6 else 0 := by unfold miss; rw [if_pos hy]
          have hg := Int.gcd_pos_of_ne_zero_right a hb.2
          by_cases h5 : 1 < Int.gcd a b
          · exact .inr (.inr (.inr (.inr (.inl ⟨h, h2, by omega, by omega, by omega, by omega, h5, by rw [hm, if_pos h5]⟩))))
          · exact .inr (.inr (.inr (.inr (.inr ⟨h, h2, by omega, by omega, by omega, by omega, by omega, by rw [hm, if_neg h5]⟩))))
    · exact .inr (.inl ⟨h, h2, hno (by simp [naB, liB, h2])⟩)
  · exact .inl ⟨h, hno (by simp [naB, liB, h])⟩

def grm (a b : Int) : Int := if miss a b = 0 then (if a = 1 ∨ b = 1 then 0 else a * b - a - b) else 0
def grmC (a b : Int) : Int := if miss a b = 0 then (if a = 1 ∨ b = 1 then 3 else 0) else miss a b
def cnm (a b : Int) : Int := if miss a b = 0 then (a - 1) * (b - 1) / 2 else 0

theorem prod_bd {a b A B : Int} (ha : 0 ≤ a) (hA : a ≤ A) (hb : 0 ≤ b) (hB : b ≤ B) : 0 ≤ a * b ∧ a * b ≤ A * B :=
  ⟨Int.mul_nonneg ha hb, Int.mul_le_mul hA hB hb (Int.le_trans ha hA)⟩

theorem miss_ok {a b : Int} (h : miss a b = 0) : 1 ≤ a ∧ a ≤ 1000000 ∧ 1 ≤ b ∧ b ≤ 1000000 := by
  rcases miss_ways a b with ⟨h1, e1⟩ | ⟨h1, h2, e1⟩ | ⟨h1, h2, h3, e1⟩ | ⟨h1, h2, h3, h4, e1⟩ | ⟨h1, h2, h3, h4, h5, h6, h7, e1⟩ | ⟨h1, h2, h3, h4, h5, h6, h7, e1⟩ <;> omega

end Go.Proofs.YtikpiigamnpafaaDoor
