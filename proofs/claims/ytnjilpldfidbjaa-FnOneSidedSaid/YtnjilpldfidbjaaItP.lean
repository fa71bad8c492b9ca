/- Intermediate fractions: each is a neighbour of the one before; the last one is the fraction. Plain facts. -/
import Derived.Test.YtnjilpldfidbjaaStpG
import Derived.Test.YtnjilpldfidbjaaSidP
namespace Go.Proofs.Ytnjilpldfidbjaa

/-- Two plain fractions are neighbours. -/
def Nb (x y : Int × Int) : Prop := okF x.1 x.2 = true ∧ okF y.1 y.2 = true ∧ (x.1 * y.2 - y.1 * x.2 = 1 ∨ x.1 * y.2 - y.1 * x.2 = -1)
def Adj (L : List (Int × Int)) : Prop := ∀ i, (h : i + 1 < L.length) → Nb (L[i]'(by omega)) (L[i + 1])
theorem Adj.append {A B : List (Int × Int)} (hA : Adj A) (hB : Adj B) (h : ∀ (h1 : 0 < A.length) (h2 : 0 < B.length), Nb (A[A.length - 1]'(by omega)) (B[0])) : Adj (A ++ B) := by
  intro i hi
  rw [List.length_append] at hi
  by_cases h1 : i + 1 < A.length
  · rw [List.getElem_append_left (by omega), List.getElem_append_left h1]
    exact hA i h1
  · by_cases h2 : i + 1 = A.length
    · have e1 : (A ++ B)[i]'(by rw [List.length_append]; omega) = A[A.length - 1]'(by omega) := by
        rw [List.getElem_append_left (by omega)]
        congr 1
        omega
      have e2 : (A ++ B)[i + 1]'(by rw [List.length_append]; omega) = B[0]'(by omega) := by
        rw [List.getElem_append_right (by omega)]
        congr 1
        omega
      rw [e1, e2]
      exact h (by omega) (by omega)
    · have e1 : (A ++ B)[i]'(by rw [List.length_append]; omega) = B[i - A.length]'(by omega) := List.getElem_append_right (by omega)
      have e2 : (A ++ B)[i + 1]'(by rw [List.length_append]; omega) = B[i - A.length + 1]'(by omega) := by
        rw [List.getElem_append_right (by omega)]
        congr 1
        omega
      rw [e1, e2]
      exact hB (i - A.length) (by omega)
/-- The last element. -/
def Ends (L : List (Int × Int)) (x : Int × Int) : Prop := ∃ h : 0 < L.length, L[L.length - 1]'(by omega) = x
theorem Adj.one (x : Int × Int) : Adj [x] := by
  intro i hi
  simp at hi
theorem okF_bd {x y : Int} (h1 : 1 ≤ y ∧ y ≤ 1000000000) (h2 : -1000000000 ≤ x ∧ x ≤ 1000000000) (hg : Int.gcd x y = 1) : okF x y = true := okF_iff.2 ⟨h1, h2, hg⟩
theorem cv_det {p : Int} {q k : Nat} : (cv p q k).p * (cv p q k).qq - (cv p q k).pp * (cv p q k).q = 1 ∨ (cv p q k).p * (cv p q k).qq - (cv p q k).pp * (cv p q k).q = -1 := by
  have h := conv_det ((terms p q).take k) c40
  unfold cv
  rw [h, neg_one_pow]
  split
  · right; rfl
  · left; rfl
theorem gcd_of_det {a b c d : Int} (h : a * d - c * b = 1 ∨ a * d - c * b = -1) : Int.gcd a b = 1 ∧ Int.gcd c d = 1 := by
  rcases h with h | h
  · have := coprime_of_det (a := c) (b := d) (c := a) (d := b) h
    exact ⟨this.2, this.1⟩
  · exact coprime_of_det (a := a) (b := b) (c := c) (d := d) (by omega)
/-- The numbers between two convergents are bounded by those of the second one. -/
theorem step_bd {C : C4} {t j : Int} (hj : 1 ≤ j ∧ j ≤ t) (hq : 1 ≤ C.q) (hqq : 0 ≤ C.qq) (hpp : -1000000000 ≤ C.pp ∧ C.pp ≤ 1000000000) (hn : -1000000000 ≤ t * C.p + C.pp ∧ t * C.p + C.pp ≤ 1000000000) (hnq : t * C.q + C.qq ≤ 1000000000) :
    (1 ≤ j * C.q + C.qq ∧ j * C.q + C.qq ≤ 1000000000) ∧ (-1000000000 ≤ j * C.p + C.pp ∧ j * C.p + C.pp ≤ 1000000000) := by
  have h1 : 1 * 1 ≤ j * C.q := Int.mul_le_mul hj.1 hq (by omega) (by omega)
  have h2 : j * C.q ≤ t * C.q := Int.mul_le_mul_of_nonneg_right hj.2 (by omega)
  refine ⟨by omega, ?_⟩
  by_cases hp : 0 ≤ C.p
  · have h3 : j * C.p ≤ t * C.p := Int.mul_le_mul_of_nonneg_right hj.2 hp
    have h4 : 0 ≤ j * C.p := Int.mul_nonneg (by omega) hp
    omega
  · have h3 : j * (-C.p) ≤ t * (-C.p) := Int.mul_le_mul_of_nonneg_right hj.2 (by omega)
    have h4 : 0 ≤ j * (-C.p) := Int.mul_nonneg (by omega) (by omega)
    rw [Int.mul_neg] at h3 h4
    rw [Int.mul_neg] at h3
    omega
theorem det_step {C : C4} {e i j : Int} (h : C.p * C.qq - C.pp * C.q = e) (hij : j = i + 1) : (i * C.p + C.pp) * (j * C.q + C.qq) - (j * C.p + C.pp) * (i * C.q + C.qq) = -e := by
  subst hij
  generalize C.p = a at *
  generalize C.q = b at *
  generalize C.pp = c at *
  generalize C.qq = d at *
  subst h
  grind
theorem det_head {C : C4} {e : Int} (h : C.p * C.qq - C.pp * C.q = e) (j : Int) : C.p * (j * C.q + C.qq) - (j * C.p + C.pp) * C.q = e := by
  generalize C.p = a at *
  generalize C.q = b at *
  generalize C.pp = c at *
  generalize C.qq = d at *
  subst h
  grind
theorem det_tail {C : C4} {e : Int} (h : C.p * C.qq - C.pp * C.q = e) : C.pp * (1 * C.q + C.qq) - (1 * C.p + C.pp) * C.qq = -e := by
  generalize C.p = a at *
  generalize C.q = b at *
  generalize C.pp = c at *
  generalize C.qq = d at *
  subst h
  grind
theorem neg_or {e x : Int} (he : e = 1 ∨ e = -1) (hx : x = -e) : x = 1 ∨ x = -1 := by omega
theorem stl_at {C : C4} {n i : Nat} (h : i < n) : (stl C n)[i]'(by rw [stl_len]; exact h) = (((i : Int) + 1) * C.p + C.pp, ((i : Int) + 1) * C.q + C.qq) := by simp [stl]

section
variable {p : Int} {q k : Nat}
/-- What is known of the convergents. -/
theorem cv_facts (ho : okF p q = true) (hk : k + 1 < (terms p q).length) : 1 ≤ (cv p q (k + 1)).q ∧ 0 ≤ (cv p q (k + 1)).qq ∧ (-1000000000 ≤ (cv p q (k + 1)).pp ∧ (cv p q (k + 1)).pp ≤ 1000000000) ∧
    (-1000000000 ≤ (terms p q)[k + 1] * (cv p q (k + 1)).p + (cv p q (k + 1)).pp ∧ (terms p q)[k + 1] * (cv p q (k + 1)).p + (cv p q (k + 1)).pp ≤ 1000000000) ∧ (terms p q)[k + 1] * (cv p q (k + 1)).q + (cv p q (k + 1)).qq ≤ 1000000000 ∧
    cv p q (k + 1 + 1) = (cv p q (k + 1)).next ((terms p q)[k + 1]) ∧ 1 ≤ (terms p q)[k + 1] := by
  have h1 := okF_iff.1 (cv_ok ho k)
  have h2 := cv_bd2 ho (k := k + 1) (by omega)
  have h3 := cv_bd ho (k + 1 + 1)
  have e := cv_succ (p := p) (q := q) (k := k + 1) hk
  have h4 := term_pos (p := p) (q := q) (i := k) hk
  rw [e] at h3
  simp only [C4.next] at h3
  exact ⟨h1.1.1, h2.2.1, h2.1, h3.1, h3.2.2, e, h4⟩
theorem stl_ok (ho : okF p q = true) (hk : k + 1 < (terms p q).length) {j : Int} (hj : 1 ≤ j ∧ j ≤ (terms p q)[k + 1]) : okF (j * (cv p q (k + 1)).p + (cv p q (k + 1)).pp) (j * (cv p q (k + 1)).q + (cv p q (k + 1)).qq) = true := by
  obtain ⟨f1, f2, f3, f4, f5, f6, f7⟩ := cv_facts ho hk
  obtain ⟨g1, g2⟩ := step_bd (C := cv p q (k + 1)) hj f1 f2 f3 f4 f5
  have hd := cv_det (p := p) (q := q) (k := k + 1)
  refine okF_bd g1 g2 ?_
  have h := det_head (C := cv p q (k + 1)) rfl j
  exact (gcd_of_det (a := (cv p q (k + 1)).p) (b := (cv p q (k + 1)).q) (by rw [h]; exact hd)).2
theorem stl_adj (ho : okF p q = true) (hk : k + 1 < (terms p q).length) : Adj (stl (cv p q (k + 1)) ((terms p q)[k + 1]).toNat) := by
  intro i hi
  rw [stl_len] at hi
  have h7 := (cv_facts ho hk).2.2.2.2.2.2
  rw [stl_at (by omega), stl_at hi]
  refine ⟨stl_ok ho hk (by omega), stl_ok ho hk (by omega), ?_⟩
  exact neg_or cv_det (det_step rfl (by omega))
theorem stl_pair (ho : okF p q = true) (hk : k + 1 < (terms p q).length) : Nb ((cv p q (k + 1)).p, (cv p q (k + 1)).q) (1 * (cv p q (k + 1)).p + (cv p q (k + 1)).pp, 1 * (cv p q (k + 1)).q + (cv p q (k + 1)).qq) := by
  have h7 := (cv_facts ho hk).2.2.2.2.2.2
  refine ⟨cv_ok ho k, stl_ok ho hk (by omega), ?_⟩
  have h := det_head (C := cv p q (k + 1)) rfl 1
  simp only
  rw [h]
  exact cv_det
/-- All intermediate fractions: neighbours, and the last one. -/
theorem inl_facts (ho : okF p q = true) : ∀ k, k + 1 ≤ (terms p q).length → Adj (inl p q (k + 1)) ∧ Ends (inl p q (k + 1)) ((cv p q (k + 1)).p, (cv p q (k + 1)).q)
  | 0, _ => by rw [inl_one]; exact ⟨Adj.one _, by simp, rfl⟩
  | k + 1, h => by
    obtain ⟨i1, i2, i3⟩ := inl_facts ho k (by omega)
    have hk : k + 1 < (terms p q).length := by omega
    have h7 := (cv_facts ho hk).2.2.2.2.2.2
    have h6 := (cv_facts ho hk).2.2.2.2.2.1
    rw [inl_step p q k hk]
    refine ⟨i1.append (stl_adj ho hk) (fun h1 h2 => ?_), by rw [List.length_append]; omega, ?_⟩
    · rw [i3]
      rw [stl_at (by omega)]
      exact stl_pair ho hk
    · have hl : (inl p q (k + 1) ++ stl (cv p q (k + 1)) ((terms p q)[k + 1]).toNat).length - 1 = (inl p q (k + 1)).length + (((terms p q)[k + 1]).toNat - 1) := by
        rw [List.length_append, stl_len]; omega
      have e : (inl p q (k + 1) ++ stl (cv p q (k + 1)) ((terms p q)[k + 1]).toNat)[(inl p q (k + 1) ++ stl (cv p q (k + 1)) ((terms p q)[k + 1]).toNat).length - 1]'(by rw [List.length_append, stl_len]; omega) = (stl (cv p q (k + 1)) ((terms p q)[k + 1]).toNat)[((terms p q)[k + 1]).toNat - 1]'(by rw [stl_len]; omega) := by
        rw [List.getElem_append_right (by omega)]
        congr 1
        omega
      rw [e, stl_at (by omega), h6]
      simp only [C4.next]
      have : ((((terms p q)[k + 1]).toNat - 1 : Nat) : Int) + 1 = (terms p q)[k + 1] := by omega
      rw [this]
theorem inl_all (ho : okF p q = true) : Adj (inl p q (terms p q).length) ∧ Ends (inl p q (terms p q).length) (p, (q : Int)) := by
  obtain ⟨h0, _⟩ := term0_bd ho
  obtain ⟨m, hm⟩ : ∃ m, (terms p q).length = m + 1 := ⟨(terms p q).length - 1, by omega⟩
  have hf := inl_facts ho m (by omega)
  have ok := okF_iff.1 ho
  have he := cv_end (p := p) (q := q) (by omega) ok.2.2
  rw [hm] at he ⊢
  rw [he.1, he.2] at hf
  exact hf
/-- Steps between two convergents. -/
theorem sbx_adj (ho : okF p q = true) (hk : k + 2 < (terms p q).length) : Adj (((cv p q (k + 1)).p, (cv p q (k + 1)).q) :: stl (cv p q (k + 2)) ((terms p q)[k + 2]).toNat) := by
  have h : Adj ([((cv p q (k + 1)).p, (cv p q (k + 1)).q)] ++ stl (cv p q (k + 1 + 1)) ((terms p q)[k + 1 + 1]).toNat) := by
    refine (Adj.one _).append (stl_adj ho hk) (fun h1 h2 => ?_)
    have h7 := (cv_facts (k := k + 1) ho hk).2.2.2.2.2.2
    rw [stl_at (by omega)]
    have e := cv_succ (p := p) (q := q) (k := k + 1) (by omega)
    refine ⟨cv_ok ho k, stl_ok ho hk (by omega), ?_⟩
    show (cv p q (k + 1)).p * _ - _ * (cv p q (k + 1)).q = 1 ∨ (cv p q (k + 1)).p * _ - _ * (cv p q (k + 1)).q = -1
    have hp : (cv p q (k + 1 + 1)).pp = (cv p q (k + 1)).p := by rw [e]; rfl
    have hq : (cv p q (k + 1 + 1)).qq = (cv p q (k + 1)).q := by rw [e]; rfl
    have hd := det_tail (C := cv p q (k + 1 + 1)) rfl
    rw [← hp, ← hq]
    exact neg_or cv_det hd
  exact h
end

end Go.Proofs.Ytnjilpldfidbjaa
