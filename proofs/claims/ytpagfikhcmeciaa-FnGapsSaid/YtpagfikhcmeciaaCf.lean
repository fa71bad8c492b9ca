/- Plain facts on the terms of a fraction and on its convergents: Euclid's steps and Bezout's identity. -/
import Derived.Test.YtpagfikhcmeciaaBase
namespace Go.Proofs.Ytpagfikhcmeciaa

def terms (a : Int) (b : Nat) : List Int :=
  if _h : b = 0 then [] else (a / (b : Int)) :: terms b (a % (b : Int)).toNat
termination_by b
decreasing_by
  have h1 : 0 ≤ a % (b : Int) := Int.emod_nonneg _ (by omega)
  have h2 : a % (b : Int) < b := Int.emod_lt_of_pos _ (by omega)
  omega

theorem terms_nil (a : Int) : terms a 0 = [] := by rw [terms]; simp
theorem terms_cons (a : Int) {b : Nat} (h : b ≠ 0) : terms a b = (a / (b : Int)) :: terms b (a % (b : Int)).toNat := by
  conv => lhs; rw [terms]
  simp [h]

theorem rest_lt (a : Int) {b : Nat} (h : b ≠ 0) : (a % (b : Int)).toNat < b ∧ ((a % (b : Int)).toNat : Int) = a % (b : Int) := by
  have h1 : 0 ≤ a % (b : Int) := Int.emod_nonneg _ (by omega)
  have h2 : a % (b : Int) < b := Int.emod_lt_of_pos _ (by omega)
  omega

theorem terms_len (b : Nat) : ∀ a : Int, (terms a b).length ≤ b := by
  induction b using Nat.strongRecOn with
  | _ b ih =>
    intro a
    by_cases h : b = 0
    · subst h; simp [terms_nil]
    · rw [terms_cons a h, List.length_cons]
      have := ih _ (rest_lt a h).1 b
      have := (rest_lt a h).1
      omega

/-- Four numbers of two convergents that follow one another. -/
structure C4 where
  p : Int
  q : Int
  pp : Int
  qq : Int

def C4.next (c : C4) (t : Int) : C4 := ⟨t * c.p + c.pp, t * c.q + c.qq, c.p, c.q⟩
def c40 : C4 := ⟨1, 0, 0, 1⟩
def convFrom (c : C4) (ts : List Int) : C4 := ts.foldl C4.next c
def conv (ts : List Int) : C4 := convFrom c40 ts

theorem convFrom_snoc (c : C4) (ts : List Int) (t : Int) : convFrom c (ts ++ [t]) = (convFrom c ts).next t := by simp [convFrom]

theorem conv_det : ∀ (ts : List Int) (c : C4), (convFrom c ts).p * (convFrom c ts).qq - (convFrom c ts).pp * (convFrom c ts).q = (-1) ^ ts.length * (c.p * c.qq - c.pp * c.q)
  | [], c => by simp [convFrom]
  | t :: ts, c => by
    have h := conv_det ts (c.next t)
    have e : convFrom c (t :: ts) = convFrom (c.next t) ts := rfl
    rw [e, h, List.length_cons, Int.pow_succ]
    simp only [C4.next]
    grind

theorem gcd_rest (a : Int) {b : Nat} (h : b ≠ 0) : Int.gcd (b : Int) ((a % (b : Int)).toNat : Int) = Int.gcd a b := by
  rw [(rest_lt a h).2]
  apply Nat.dvd_antisymm
  · have h1 : ((Int.gcd (b : Int) (a % b) : Nat) : Int) ∣ b := Int.gcd_dvd_left ..
    have h2 : ((Int.gcd (b : Int) (a % b) : Nat) : Int) ∣ a % b := Int.gcd_dvd_right ..
    refine Int.dvd_gcd ?_ h1
    have h3 := Int.dvd_add (Int.dvd_trans h1 (Int.dvd_mul_right (b : Int) (a / b))) h2
    rwa [Int.mul_ediv_add_emod a b] at h3
  · have h1 : ((Int.gcd a b : Nat) : Int) ∣ a := Int.gcd_dvd_left ..
    have h2 : ((Int.gcd a b : Nat) : Int) ∣ b := Int.gcd_dvd_right ..
    refine Int.dvd_gcd h2 ?_
    rw [Int.emod_def]
    exact Int.dvd_sub h1 (Int.dvd_trans h2 (Int.dvd_mul_right ..))
theorem terms_meet (b : Nat) : ∀ (a : Int) (c : C4), b ≠ 0 ∨ 0 ≤ a → (convFrom c (terms a b)).p * (Int.gcd a b : Nat) = c.p * a + c.pp * b ∧ (convFrom c (terms a b)).q * (Int.gcd a b : Nat) = c.q * a + c.qq * b := by
  induction b using Nat.strongRecOn with
  | _ b ih =>
    intro a c h0
    by_cases h : b = 0
    · subst h
      have ha : 0 ≤ a := by omega
      have e : ((Int.gcd a (0 : Nat) : Nat) : Int) = a := by simp; omega
      rw [terms_nil, e]
      simp [convFrom]
    · have e := terms_cons a h
      have hr := rest_lt a h
      have := ih _ hr.1 b (c.next (a / (b : Int))) (by omega)
      rw [gcd_rest a h, hr.2] at this
      have e2 : convFrom c (terms a b) = convFrom (c.next (a / (b : Int))) (terms b (a % (b : Int)).toNat) := by rw [e]; rfl
      rw [e2, this.1, this.2]
      have hm := Int.mul_ediv_add_emod a b
      simp only [C4.next]
      generalize a / (b : Int) = t at *
      generalize a % (b : Int) = r at *
      constructor <;> grind

/-- Behind each number of Euclid's steps the four numbers are not negative, and none is more than what they make of the first numbers. -/
theorem conv_bd (b : Nat) : ∀ (a : Int) (c : C4) (k : Nat), 1 ≤ a → 0 ≤ c.p → 0 ≤ c.q → 0 ≤ c.pp → 0 ≤ c.qq →
    0 ≤ (convFrom c ((terms a b).take k)).p ∧ 0 ≤ (convFrom c ((terms a b).take k)).q ∧ 0 ≤ (convFrom c ((terms a b).take k)).pp ∧ 0 ≤ (convFrom c ((terms a b).take k)).qq ∧
    (convFrom c ((terms a b).take k)).p ≤ c.p * a + c.pp * b ∧ (convFrom c ((terms a b).take k)).q ≤ c.q * a + c.qq * b := by
  induction b using Nat.strongRecOn with
  | _ b ih =>
    intro a c k ha h1 h2 h3 h4
    have triv : ∀ x y : Int, 0 ≤ x → 0 ≤ y → x ≤ x * a + y * b := by
      intro x y hx hy
      have e1 : x * 1 ≤ x * a := Int.mul_le_mul_of_nonneg_left ha hx
      have e2 : 0 ≤ y * b := Int.mul_nonneg hy (by omega)
      omega
    cases k with
    | zero => exact ⟨h1, h2, h3, h4, triv _ _ h1 h3, triv _ _ h2 h4⟩
    | succ k =>
      by_cases h : b = 0
      · subst h; rw [terms_nil]; exact ⟨h1, h2, h3, h4, triv _ _ h1 h3, triv _ _ h2 h4⟩
      · have e := terms_cons a h
        have hr := rest_lt a h
        have ht : 0 ≤ a / (b : Int) := Int.ediv_nonneg (by omega) (by omega)
        have := ih _ hr.1 b (c.next (a / (b : Int))) k (by omega) (Int.add_nonneg (Int.mul_nonneg ht h1) h3) (Int.add_nonneg (Int.mul_nonneg ht h2) h4) h1 h2
        rw [hr.2] at this
        have e2 : convFrom c ((terms a b).take (k + 1)) = convFrom (c.next (a / (b : Int))) ((terms b (a % (b : Int)).toNat).take k) := by rw [e]; rfl
        rw [e2]
        have hm := Int.mul_ediv_add_emod a b
        have q1 : (c.next (a / (b : Int))).p * b + (c.next (a / (b : Int))).pp * (a % b) = c.p * a + c.pp * b := by simp only [C4.next]; grind
        have q2 : (c.next (a / (b : Int))).q * b + (c.next (a / (b : Int))).qq * (a % b) = c.q * a + c.qq * b := by simp only [C4.next]; grind
        rw [q1, q2] at this
        exact this

theorem terms_scale {k : Nat} (hk : k ≠ 0) (b : Nat) : ∀ a : Int, terms ((k : Int) * a) (k * b) = terms a b := by
  induction b using Nat.strongRecOn with
  | _ b ih =>
    intro a
    by_cases h : b = 0
    · subst h; simp [terms_nil]
    · have hkb : k * b ≠ 0 := Nat.mul_ne_zero hk h
      have hr := rest_lt a h
      rw [terms_cons a h, terms_cons _ hkb]
      have e1 : (k : Int) * a / ((k * b : Nat) : Int) = a / b := by
        rw [Int.natCast_mul, Int.mul_ediv_mul_of_pos _ _ (by omega)]
      have e2 : ((k : Int) * a % ((k * b : Nat) : Int)).toNat = k * (a % (b : Int)).toNat := by
        rw [Int.natCast_mul, Int.mul_emod_mul_of_pos _ _ (by omega)]
        have : (k : Int) * (a % b) = ((k * (a % (b : Int)).toNat : Nat) : Int) := by rw [Int.natCast_mul, hr.2]
        rw [this]; rfl
      rw [e1, e2, Int.natCast_mul, ih _ hr.1 b]

/-- The terms of two positive numbers, one by one at least 0. -/
theorem terms_pos (b : Nat) : ∀ a : Int, 0 ≤ a → ∀ t ∈ terms a b, 0 ≤ t := by
  induction b using Nat.strongRecOn with
  | _ b ih =>
    intro a ha t ht
    by_cases h : b = 0
    · subst h; simp [terms_nil] at ht
    · rw [terms_cons a h, List.mem_cons] at ht
      rcases ht with rfl | ht
      · exact Int.ediv_nonneg ha (by omega)
      · exact ih _ (rest_lt a h).1 b (by omega) t ht

theorem conv_last (ts : List Int) (h : ts ≠ []) (c : C4) : (convFrom c ts).pp = (convFrom c ts.dropLast).p ∧ (convFrom c ts).qq = (convFrom c ts.dropLast).q := by
  have e : ts = ts.dropLast ++ [ts.getLast h] := (List.dropLast_concat_getLast h).symm
  have : convFrom c ts = (convFrom c ts.dropLast).next (ts.getLast h) := by
    conv => lhs; rw [e]
    exact convFrom_snoc _ _ _
  rw [this]; exact ⟨rfl, rfl⟩

def sg (a : Int) : Int := if a < 0 then -1 else if 0 < a then 1 else 0
def sz (a : Int) : Int := if a < 0 then -a else a
theorem sg_sz (a : Int) : a * sg a = sz a := by unfold sg sz; split <;> (try split) <;> omega
theorem sz_nat (a : Int) : sz a = (a.natAbs : Int) := by unfold sz; split <;> omega

/-- The terms of two numbers' sizes. -/
def bzT (a b : Int) : List Int := terms (sz a) b.natAbs
def bzC (a b : Int) : C4 := convFrom c40 (bzT a b).dropLast
/-- Bezout's numbers. -/
def bzX (a b : Int) : Int := if (bzT a b).length % 2 = 1 then -(bzC a b).q * sg a else (bzC a b).q * sg a
def bzY (a b : Int) : Int := if (bzT a b).length % 2 = 1 then (bzC a b).p * sg b else -(bzC a b).p * sg b

theorem neg_one_pow (n : Nat) : ((-1 : Int)) ^ n = if n % 2 = 1 then -1 else 1 := by
  induction n with
  | zero => rfl
  | succ n ih =>
    rw [Int.pow_succ, ih]
    by_cases h : n % 2 = 1
    · rw [if_pos h, if_neg (by omega)]; rfl
    · rw [if_neg h, if_pos (by omega)]; rfl

theorem bzT_ne {a b : Int} (hb : b ≠ 0) : bzT a b ≠ [] := by
  unfold bzT
  rw [terms_cons _ (by omega)]; simp

theorem bz_alg {P Q p q g A B a b s u e : Int} (h1 : P * g = A) (h2 : Q * g = B) (hd : P * q - p * Q = e) (ea : a * s = A) (eb : b * u = B) : a * (q * s) - b * (p * u) = e * g := by
  subst hd
  have : a * (q * s) - b * (p * u) = (a * s) * q - (b * u) * p := by grind
  rw [this, ea, eb, ← h1, ← h2]
  grind

theorem bz_main {a b : Int} (hb : b ≠ 0) : a * bzX a b + b * bzY a b = (Int.gcd a b : Nat) := by
  have hb' : b.natAbs ≠ 0 := by omega
  have ha0 : 0 ≤ sz a := by rw [sz_nat]; omega
  have hg : Int.gcd (sz a) (b.natAbs : Nat) = Int.gcd a b := by rw [sz_nat]; simp [Int.gcd]
  have hm := terms_meet b.natAbs (sz a) c40 (.inl hb')
  have hd := conv_det (bzT a b) c40
  have hl := conv_last (bzT a b) (bzT_ne hb) c40
  rw [hg] at hm
  change (convFrom c40 (bzT a b)).p * _ = _ ∧ (convFrom c40 (bzT a b)).q * _ = _ at hm
  rw [hl.1, hl.2, neg_one_pow] at hd
  change _ * (bzC a b).q - (bzC a b).p * _ = _ at hd
  have hc : c40.p = 1 ∧ c40.q = 0 ∧ c40.pp = 0 ∧ c40.qq = 1 := ⟨rfl, rfl, rfl, rfl⟩
  obtain ⟨c1, c2, c3, c4⟩ := hc
  rw [c1, c2, c3, c4] at hm hd
  have eb : b * sg b = (b.natAbs : Int) := by rw [sg_sz, sz_nat]
  have ea := sg_sz a
  have key := bz_alg (hm.1.trans (by omega)) (hm.2.trans (by omega)) hd ea eb
  unfold bzX bzY
  by_cases h : (bzT a b).length % 2 = 1
  · rw [if_pos h] at key
    rw [if_pos h, if_pos h]
    grind
  · rw [if_neg h] at key
    rw [if_neg h, if_neg h]
    grind

theorem bzC_bd {a b : Int} (ha : a ≠ 0) : 0 ≤ (bzC a b).p ∧ (bzC a b).p ≤ sz a ∧ 0 ≤ (bzC a b).q ∧ (bzC a b).q ≤ sz b := by
  have ha0 : 1 ≤ sz a := by rw [sz_nat]; omega
  have := conv_bd b.natAbs (sz a) c40 ((bzT a b).length - 1) ha0 (by decide) (by decide) (by decide) (by decide)
  have e : (terms (sz a) b.natAbs).take ((bzT a b).length - 1) = (bzT a b).dropLast := by rw [List.dropLast_eq_take]; rfl
  rw [e] at this
  change 0 ≤ (bzC a b).p ∧ 0 ≤ (bzC a b).q ∧ _ ∧ _ ∧ (bzC a b).p ≤ _ ∧ (bzC a b).q ≤ _ at this
  obtain ⟨h1, h2, _, _, h3, h4⟩ := this
  rw [sz_nat b]
  simp only [c40] at h3 h4
  omega

end Go.Proofs.Ytpagfikhcmeciaa
