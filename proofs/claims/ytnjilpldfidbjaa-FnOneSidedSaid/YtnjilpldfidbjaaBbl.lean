/- The best fractions below a fraction: plain facts. -/
import Derived.Test.YtnjilpldfidbjaaFrac
namespace Go.Proofs.Ytnjilpldfidbjaa
open Go.RowKit

/-- Whether n / d is greater than the last fraction of a list. -/
def nearer (L : List (Int × Int)) (n d : Int) : Bool := match L.getLast? with
  | none => true
  | some l => decide (l.1 * d < n * l.2)
/-- The best fractions below p / q with denominators up to k. -/
def bbl (p q : Int) : Nat → List (Int × Int)
  | 0 => []
  | k + 1 => if nearer (bbl p q k) (p * (k + 1 : Nat) / q) ((k + 1 : Nat) : Int) = true then bbl p q k ++ [(p * (k + 1 : Nat) / q, ((k + 1 : Nat) : Int))] else bbl p q k
theorem bbl_inv {p q : Int} : ∀ k : Nat, 0 < k → ∃ L l, bbl p q k = L ++ [l] ∧ 1 ≤ l.2 ∧ l.2 ≤ (k : Int) ∧ l.1 = p * l.2 / q ∧ ∀ d : Nat, 1 ≤ d → d ≤ k → p * d / q * l.2 ≤ l.1 * d
  | 0, h => by omega
  | k + 1, _ => by
    by_cases hk : k = 0
    · subst hk
      refine ⟨[], (p * ((0 + 1 : Nat) : Int) / q, ((0 + 1 : Nat) : Int)), by simp [bbl, nearer], by simp, by simp, rfl, fun d h1 h2 => ?_⟩
      have : d = 1 := by omega
      subst this
      simp
    · obtain ⟨L, l, e, h1, h2, h3, h4⟩ := bbl_inv k (by omega)
      have hn : nearer (bbl p q k) (p * (k + 1 : Nat) / q) ((k + 1 : Nat) : Int) = decide (l.1 * ((k + 1 : Nat) : Int) < p * (k + 1 : Nat) / q * l.2) := by
        unfold nearer; rw [e]; simp
      by_cases hd : l.1 * ((k + 1 : Nat) : Int) < p * (k + 1 : Nat) / q * l.2
      · refine ⟨bbl p q k, (p * (k + 1 : Nat) / q, ((k + 1 : Nat) : Int)), ?_, by simp; omega, by simp, rfl, fun d hd1 hd2 => ?_⟩
        · conv => lhs; unfold bbl
          rw [hn, if_pos (decide_eq_true hd)]
        · show p * d / q * ((k + 1 : Nat) : Int) ≤ p * (k + 1 : Nat) / q * d
          by_cases hdk : d = k + 1
          · subst hdk; exact Int.le_refl _
          · have := h4 d hd1 (by omega)
            generalize p * (d : Int) / q = v at *
            generalize p * ((k + 1 : Nat) : Int) / q = n at *
            have hD : (0 : Int) ≤ ((k + 1 : Nat) : Int) := by omega
            generalize ((k + 1 : Nat) : Int) = D at *
            refine Int.le_of_mul_le_mul_right (a := l.2) ?_ (by omega)
            have e1 : v * l.2 * D ≤ l.1 * d * D := Int.mul_le_mul_of_nonneg_right this hD
            have e2 : l.1 * D * d ≤ n * l.2 * d := Int.mul_le_mul_of_nonneg_right (by omega) (by omega)
            have e3 : v * D * l.2 = v * l.2 * D := by grind
            have e4 : n * d * l.2 = n * l.2 * d := by grind
            have e5 : l.1 * d * D = l.1 * D * d := by grind
            omega
      · refine ⟨L, l, ?_, h1, by omega, h3, fun d hd1 hd2 => ?_⟩
        · conv => lhs; unfold bbl
          rw [hn, if_neg (by simpa using hd), e]
        · by_cases hdk : d = k + 1
          · subst hdk; omega
          · exact h4 d hd1 (by omega)
theorem bbl_gcd {p q : Int} {k : Nat} (hq : 0 < q) (h : nearer (bbl p q k) (p * (k + 1 : Nat) / q) ((k + 1 : Nat) : Int) = true) : Int.gcd (p * (k + 1 : Nat) / q) ((k + 1 : Nat) : Int) = 1 := by
  by_cases hk : k = 0
  · subst hk; simp
  · obtain ⟨L, l, e, h1, h2, h3, h4⟩ := bbl_inv (p := p) (q := q) k (by omega)
    have hn : l.1 * ((k + 1 : Nat) : Int) < p * (k + 1 : Nat) / q * l.2 := by
      unfold nearer at h; rw [e] at h; simpa using h
    have hfl := Int.mul_ediv_self_le (x := p * (k + 1 : Nat)) (k := q) (by omega)
    generalize p * ((k + 1 : Nat) : Int) / q = n at *
    have hg := Int.gcd_pos_of_ne_zero_right n (show (((k + 1 : Nat) : Int)) ≠ 0 by omega)
    obtain ⟨n', en⟩ := Int.gcd_dvd_left n ((k + 1 : Nat) : Int)
    obtain ⟨d', ed⟩ := Int.gcd_dvd_right n ((k + 1 : Nat) : Int)
    by_cases hone : Int.gcd n ((k + 1 : Nat) : Int) = 1
    · exact hone
    · exfalso
      generalize Int.gcd n ((k + 1 : Nat) : Int) = g at *
      have hg2 : 2 ≤ g := by omega
      have hd0 : 0 < d' := by
        rcases Int.lt_or_le 0 d' with h | h
        · exact h
        · have : (g : Int) * d' ≤ 0 := Int.mul_nonpos_of_nonneg_of_nonpos (by omega) h
          omega
      obtain ⟨d, rfl⟩ := Int.eq_ofNat_of_zero_le (show 0 ≤ d' by omega)
      have hdk : d ≤ k := by
        have : (2 : Int) * d ≤ g * d := Int.mul_le_mul_of_nonneg_right (by omega) (by omega)
        omega
      have h5 := h4 d (by omega) hdk
      have h6 : n' ≤ p * d / q := by
        rw [Int.le_ediv_iff_mul_le hq]
        refine Int.le_of_mul_le_mul_left (a := (g : Int)) ?_ (by omega)
        have e1 : (g : Int) * (n' * q) = q * n := by rw [en]; grind
        have e2 : (g : Int) * (p * d) = p * ((k + 1 : Nat) : Int) := by rw [ed]; grind
        omega
      have h7 : n' * l.2 ≤ p * d / q * l.2 := Int.mul_le_mul_of_nonneg_right h6 (by omega)
      have h8 : (g : Int) * (n' * l.2) ≤ g * (l.1 * d) := Int.mul_le_mul_of_nonneg_left (by omega) (by omega)
      have e1 : (g : Int) * (n' * l.2) = n * l.2 := by rw [en]; grind
      have e2 : (g : Int) * (l.1 * d) = l.1 * ((k + 1 : Nat) : Int) := by rw [ed]; grind
      omega

theorem floor_bd {p q : Int} {d : Nat} (hp : -1000000000 ≤ p ∧ p ≤ 1000000000) (hd1 : 1 ≤ d) (hd : (d : Int) ≤ q) : -1000000000 ≤ p * d / q ∧ p * d / q ≤ 1000000000 := by
  have hq : 0 < q := by omega
  constructor
  · rw [Int.le_ediv_iff_mul_le hq]
    have h1 : -1000000000 * (d : Int) ≤ p * d := Int.mul_le_mul_of_nonneg_right hp.1 (by omega)
    have h2 : -1000000000 * q ≤ -1000000000 * (d : Int) := by omega
    omega
  · have h1 : p * d ≤ 1000000000 * (d : Int) := Int.mul_le_mul_of_nonneg_right hp.2 (by omega)
    have h3 : p * d / q ≤ 1000000000 * q / q := Int.ediv_le_ediv hq (by omega)
    rw [Int.mul_ediv_cancel _ (by omega)] at h3
    exact h3
theorem mulp_bd {p : Int} {d : Nat} (hp : -1000000000 ≤ p ∧ p ≤ 1000000000) (hd : d ≤ 10000) : -10000000000000 ≤ p * d ∧ p * d ≤ 10000000000000 := by
  have h1 : p * d ≤ 1000000000 * (d : Int) := Int.mul_le_mul_of_nonneg_right hp.2 (by omega)
  have h2 : -1000000000 * (d : Int) ≤ p * d := Int.mul_le_mul_of_nonneg_right hp.1 (by omega)
  omega
theorem bbl_len (p q : Int) : ∀ k, (bbl p q k).length ≤ k
  | 0 => by simp [bbl]
  | k + 1 => by
    have := bbl_len p q k
    unfold bbl; split <;> simp <;> omega
/-- The list and the code of BestBelow. -/
def bbx (p q k : Int) : List (Int × Int) := if okF p q = true ∧ 1 ≤ k ∧ k ≤ 10000 then bbl p q (min k q).toNat else []
def bbc (p q k : Int) : Int := if okF p q = true then (if 1 ≤ k ∧ k ≤ 10000 then 0 else 2) else 1

end Go.Proofs.Ytnjilpldfidbjaa
