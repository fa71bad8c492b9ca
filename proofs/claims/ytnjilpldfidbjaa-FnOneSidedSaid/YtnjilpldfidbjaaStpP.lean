/- Plain facts on the convergents of a plain fraction, and on intermediate fractions. -/
import Derived.Test.YtnjilpldfidbjaaCf
import Derived.Test.YtnjilpldfidbjaaFrac
import Derived.Test.YtnjilpldfidbjaaDiv
namespace Go.Proofs.Ytnjilpldfidbjaa

theorem len_half (k : Nat) : ∀ (a : Int) (b : Nat), b < 2 ^ k → (terms a b).length ≤ 2 * k := by
  induction k with
  | zero => intro a b hb; have : b = 0 := by omega
            subst this; simp [terms_nil]
  | succ k ih =>
    intro a b hb
    by_cases h : b = 0
    · subst h; simp [terms_nil]
    · have hr := rest_lt a h
      rw [terms_cons a h, List.length_cons]
      generalize (a % (b : Int)).toNat = r at hr
      by_cases h2 : r = 0
      · subst h2; simp [terms_nil]; omega
      · have hr2 := rest_lt (b : Int) h2
        rw [terms_cons (b : Int) h2, List.length_cons]
        have e : ((b : Int) % (r : Int)).toNat = b % r := by rw [← Int.natCast_emod]; rfl
        rw [e]
        have h3 : b % r + r ≤ b := by
          have := Nat.div_add_mod b r
          have h4 : 1 ≤ b / r := (Nat.le_div_iff_mul_le (by omega)).2 (by omega)
          have h5 : r * 1 ≤ r * (b / r) := Nat.mul_le_mul_left r h4
          omega
        have h6 := Nat.mod_lt b (show r > 0 by omega)
        have := ih r (b % r) (by rw [Nat.pow_succ] at hb; omega)
        omega

theorem conv_lin : ∀ (ts : List Int) (c : C4), (convFrom c ts).p = c.p * (convFrom c40 ts).p + c.pp * (convFrom c40 ts).q ∧ (convFrom c ts).q = c.q * (convFrom c40 ts).p + c.qq * (convFrom c40 ts).q
  | [], c => by simp [convFrom, c40]
  | t :: ts, c => by
    have h := conv_lin ts (c.next t)
    have h0 := conv_lin ts (c40.next t)
    have e : convFrom c (t :: ts) = convFrom (c.next t) ts := rfl
    have e0 : convFrom c40 (t :: ts) = convFrom (c40.next t) ts := rfl
    rw [e, e0, h.1, h.2, h0.1, h0.2]
    simp only [C4.next, c40]
    generalize (convFrom _ ts).p = P
    generalize (convFrom _ ts).q = Q
    constructor <;> grind

/-- The four numbers behind k terms. -/
def cv (p : Int) (q k : Nat) : C4 := convFrom c40 ((terms p q).take k)
theorem cv_zero (p : Int) (q : Nat) : cv p q 0 = c40 := rfl
theorem cv_succ {p : Int} {q k : Nat} (h : k < (terms p q).length) : cv p q (k + 1) = (cv p q k).next ((terms p q)[k]) := by
  unfold cv
  rw [List.take_succ_eq_append_getElem h, convFrom_snoc]
theorem cv_end {p : Int} {q : Nat} (hq : 1 ≤ q) (hg : Int.gcd p q = 1) : (cv p q (terms p q).length).p = p ∧ (cv p q (terms p q).length).q = q := by
  unfold cv
  rw [List.take_length]
  have := terms_meet q p c40 (.inl (by omega))
  rw [hg] at this
  simp [c40] at this
  exact this

theorem tail_pos (b : Nat) : ∀ a : Int, (b : Int) ≤ a → ∀ t ∈ terms a b, 1 ≤ t := by
  induction b using Nat.strongRecOn with
  | _ b ih =>
    intro a ha t ht
    by_cases h : b = 0
    · subst h; simp [terms_nil] at ht
    · rw [terms_cons a h, List.mem_cons] at ht
      have hr := rest_lt a h
      rcases ht with rfl | ht
      · exact (Int.le_ediv_iff_mul_le (by omega)).2 (by omega)
      · exact ih _ hr.1 b (by omega) t ht
theorem term_pos {p : Int} {q i : Nat} (hi : i + 1 < (terms p q).length) : 1 ≤ (terms p q)[i + 1] := by
  by_cases h : q = 0
  · subst h; simp [terms_nil] at hi
  · have hr := rest_lt p h
    refine tail_pos (p % (q : Int)).toNat q (by omega) _ ?_
    have e := terms_cons p h
    have hl : i < (terms (q : Int) (p % (q : Int)).toNat).length := by rw [e, List.length_cons] at hi; omega
    have : (terms p q)[i + 1] = (terms (q : Int) (p % (q : Int)).toNat)[i] := by simp only [e, List.getElem_cons_succ]
    rw [this]
    exact List.getElem_mem hl

/-- Two numbers of the tail: between them and the last ones. -/
theorem tail_bd {q r : Nat} (hr : r < q) (k : Nat) : 0 ≤ (convFrom c40 ((terms q r).take k)).q ∧ (convFrom c40 ((terms q r).take k)).q ≤ r ∧
    (convFrom c40 ((terms q r).take k)).q ≤ (convFrom c40 ((terms q r).take k)).p ∧ (convFrom c40 ((terms q r).take k)).p - (convFrom c40 ((terms q r).take k)).q ≤ q - r := by
  have h1 := conv_bd r q c40 k (by omega) (by decide) (by decide) (by decide) (by decide)
  simp only [c40] at h1
  simp only [c40]
  have h2 : 0 ≤ (convFrom ⟨1, 0, -1, 0⟩ ((terms q r).take k)).p ∧ (convFrom ⟨1, 0, -1, 0⟩ ((terms q r).take k)).p ≤ q - r := by
    cases k with
    | zero => simp [convFrom]; omega
    | succ k =>
      by_cases h : r = 0
      · subst h; simp [terms_nil, convFrom]; omega
      · have hr2 := rest_lt (q : Int) h
        have ht : 1 ≤ (q : Int) / (r : Int) := (Int.le_ediv_iff_mul_le (by omega)).2 (by omega)
        have e2 : convFrom ⟨1, 0, -1, 0⟩ ((terms (q : Int) r).take (k + 1)) = convFrom (C4.next ⟨1, 0, -1, 0⟩ (q / (r : Int))) ((terms r ((q : Int) % (r : Int)).toNat).take k) := by rw [terms_cons _ h]; rfl
        rw [e2]
        have h3 := conv_bd ((q : Int) % (r : Int)).toNat r (C4.next ⟨1, 0, -1, 0⟩ (q / (r : Int))) k (by omega) (by simp [C4.next]; omega) (by simp [C4.next]) (by simp [C4.next]) (by simp [C4.next])
        have hm := Int.mul_ediv_add_emod (q : Int) r
        refine ⟨h3.1, Int.le_trans h3.2.2.2.2.1 ?_⟩
        rw [hr2.2]
        simp only [C4.next]
        generalize (q : Int) / (r : Int) = t at *
        generalize (q : Int) % (r : Int) = s at *
        have : (t * 1 + -1) * (r : Int) + 1 * s = (r : Int) * t + s - r := by grind
        omega
  have h3 := conv_lin ((terms q r).take k) ⟨1, 0, -1, 0⟩
  simp only [c40] at h3
  omega

theorem cv_plain {p : Int} {q : Nat} (hq : 1 ≤ q) (k : Nat) : (1 ≤ (cv p q (k + 1)).q ∧ (cv p q (k + 1)).q ≤ q) ∧ (0 ≤ p → 0 ≤ (cv p q (k + 1)).p ∧ (cv p q (k + 1)).p ≤ p) ∧ (p < 0 → p ≤ (cv p q (k + 1)).p ∧ (cv p q (k + 1)).p ≤ 0) ∧ Int.gcd (cv p q (k + 1)).p (cv p q (k + 1)).q = 1 := by
  have hr := rest_lt p (show q ≠ 0 by omega)
  have e : cv p q (k + 1) = convFrom (c40.next (p / (q : Int))) ((terms q (p % (q : Int)).toNat).take k) := by
    unfold cv; rw [terms_cons p (by omega)]; rfl
  have hd := conv_det ((terms p q).take (k + 1)) c40
  have hb := tail_bd hr.1 k
  have hl := conv_lin ((terms q (p % (q : Int)).toNat).take k) (c40.next (p / (q : Int)))
  have hd2 := conv_det ((terms q (p % (q : Int)).toNat).take k) c40
  rw [← e] at hl
  change (cv p q (k + 1)).p * _ - _ * (cv p q (k + 1)).q = _ at hd
  have hc : c40.p = 1 ∧ c40.q = 0 ∧ c40.pp = 0 ∧ c40.qq = 1 := ⟨rfl, rfl, rfl, rfl⟩
  obtain ⟨c1, c2, c3, c4⟩ := hc
  have hm := Int.mul_ediv_add_emod p q
  simp only [C4.next, c1, c2, c3, c4] at hl hd hd2
  have hr2 := hr.2
  have hrl := hr.1
  generalize (p % (q : Int)).toNat = r at *
  rw [← hr2] at hm
  generalize convFrom c40 (List.take k (terms (↑q) r)) = T at *
  generalize cv p q (k + 1) = C at *
  generalize convFrom c40 ((terms p q).take (k + 1)) = X at *
  generalize p / (q : Int) = t at *
  obtain ⟨l1, l2⟩ := hl
  have e1 : C.p = t * T.p + T.q := by rw [l1]; grind
  have e2 : C.q = T.p := by rw [l2]; grind
  have hp1 : 1 ≤ T.p := by
    by_cases h : 1 ≤ T.p
    · exact h
    · have z1 : T.p = 0 := by omega
      have z2 : T.q = 0 := by omega
      rw [z1, z2, neg_one_pow] at hd2
      split at hd2 <;> simp at hd2
  have hpq : T.p ≤ q := by omega
  refine ⟨by rw [e2]; omega, ?_, ?_, ?_⟩
  · intro hp
    have ht : 0 ≤ t := by
      rcases Int.lt_or_le t 0 with h | h
      · have : (q : Int) * t ≤ q * (-1) := Int.mul_le_mul_of_nonneg_left (by omega) (by omega)
        omega
      · exact h
    have m1 : 0 ≤ t * T.p := Int.mul_nonneg ht (by omega)
    have m2 : t * T.p ≤ t * q := Int.mul_le_mul_of_nonneg_left hpq ht
    rw [Int.mul_comm] at hm
    rw [e1]; omega
  · intro hp
    have ht : t ≤ -1 := by
      rcases Int.lt_or_le t 0 with h | h
      · omega
      · have : 0 ≤ (q : Int) * t := Int.mul_nonneg (by omega) h
        omega
    have m1 : (-t) * ((q : Int) - T.p) ≥ 1 * ((q : Int) - T.p) := Int.mul_le_mul_of_nonneg_right (by omega) (by omega)
    have m2 : 1 * T.p ≤ (-t) * T.p := Int.mul_le_mul_of_nonneg_right (by omega) (by omega)
    have m3 : (-t) * ((q : Int) - T.p) = (-t) * q - (-t) * T.p := by grind
    have m4 : (-t) * T.p = -(t * T.p) := by grind
    have m5 : (-t) * (q : Int) = -((q : Int) * t) := by grind
    rw [e1]; omega
  · have h1 : ((Int.gcd C.p C.q : Nat) : Int) ∣ C.p := Int.gcd_dvd_left ..
    have h2 : ((Int.gcd C.p C.q : Nat) : Int) ∣ C.q := Int.gcd_dvd_right ..
    have h3 := Int.dvd_sub (Int.dvd_trans h1 (Int.dvd_mul_right C.p X.qq)) (Int.dvd_trans h2 (⟨X.pp, Int.mul_comm _ _⟩ : C.q ∣ X.pp * C.q))
    rw [hd, neg_one_pow] at h3
    generalize Int.gcd C.p C.q = g at *
    have h4 : (g : Int) ∣ 1 := by
      split at h3
      · have := Int.dvd_neg.2 h3
        simpa using this
      · simpa using h3
    have h5 : g ∣ 1 := by exact_mod_cast h4
    exact Nat.dvd_one.1 h5

theorem cv_ok {p : Int} {q : Nat} (h : okF p q = true) (k : Nat) : okF (cv p q (k + 1)).p (cv p q (k + 1)).q = true := by
  obtain ⟨h1, h2, _⟩ := okF_iff.1 h
  obtain ⟨a, b, c, d⟩ := cv_plain (p := p) (q := q) (by omega) k
  refine okF_iff.2 ⟨by omega, ?_, d⟩
  rcases Int.lt_or_le p 0 with hp | hp
  · have := c hp; omega
  · have := b hp; omega

/-- All four numbers are small. -/
theorem cv_bd {p : Int} {q : Nat} (h : okF p q = true) (k : Nat) : (-1000000000 ≤ (cv p q k).p ∧ (cv p q k).p ≤ 1000000000) ∧ (0 ≤ (cv p q k).q ∧ (cv p q k).q ≤ 1000000000) := by
  cases k with
  | zero => rw [cv_zero]; decide
  | succ k => have := okF_iff.1 (cv_ok h k); omega
theorem cv_bd2 {p : Int} {q : Nat} (h : okF p q = true) {k : Nat} (hk : k ≤ (terms p q).length) : (-1000000000 ≤ (cv p q k).pp ∧ (cv p q k).pp ≤ 1000000000) ∧ (0 ≤ (cv p q k).qq ∧ (cv p q k).qq ≤ 1000000000) := by
  cases k with
  | zero => rw [cv_zero]; decide
  | succ k => rw [cv_succ (by omega)]; exact cv_bd h k
theorem term0_bd {p : Int} {q : Nat} (h : okF p q = true) : 0 < (terms p q).length ∧ ∀ h0 : 0 < (terms p q).length, -1000000000 ≤ (terms p q)[0] ∧ (terms p q)[0] ≤ 1000000000 := by
  obtain ⟨h1, h2, _⟩ := okF_iff.1 h
  have e := terms_cons p (show q ≠ 0 by omega)
  refine ⟨by rw [e]; simp, fun h0 => ?_⟩
  have e0 : (terms p q)[0] = p / (q : Int) := by simp only [e]; rfl
  rw [e0]
  exact ediv_bd (by omega) 1000000000 (by omega)
end Go.Proofs.Ytnjilpldfidbjaa
