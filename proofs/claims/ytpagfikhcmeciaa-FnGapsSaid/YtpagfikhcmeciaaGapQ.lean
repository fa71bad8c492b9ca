/- The gaps between multiples: their sum, and that they have at most three lengths. -/
import Derived.Test.YtpagfikhcmeciaaGapP
import Derived.Test.YtpagfikhcmeciaaPut
namespace Go.Proofs.Ytpagfikhcmeciaa

/-- The gap behind place i of an order. -/
def gapAt (r : Int → Int) (q : Int) (O : List Int) (i : Nat) : Int := (if i + 1 < O.length then r (O.getD (i + 1) 0) else q) - r (O.getD i 0)
def gapl (r : Int → Int) (q : Int) (O : List Int) : List Int := (List.range O.length).map (gapAt r q O)
theorem gapl_len (r : Int → Int) (q : Int) (O : List Int) : (gapl r q O).length = O.length := by simp [gapl]
theorem gapl_take (r : Int → Int) (q : Int) (O : List Int) {i : Nat} (h : i < O.length) : (gapl r q O).take (i + 1) = (gapl r q O).take i ++ [gapAt r q O i] := by
  rw [List.take_succ_eq_append_getElem (by rw [gapl_len]; exact h)]
  simp [gapl]

theorem getD_getElem {L : List Int} {j : Nat} (h : j < L.length) : L.getD j 0 = L[j] := by
  rw [List.getD_eq_getElem?_getD, List.getElem?_eq_getElem h]; rfl

section
variable {p q : Int} {n : Nat}
/-- The places of the order, strictly. -/
theorem ord_lt (hq : 0 < q) (hg : Int.gcd p q = 1) (hn : (n : Int) ≤ q) {i j : Nat} (hij : i < j) (hj : j < n) : rst p q ((ord (rst p q) n).getD i 0) < rst p q ((ord (rst p q) n).getD j 0) := by
  have hl := ord_len (rst p q) n
  have h1 := List.pairwise_iff_getElem.1 (ord_sorted (rst p q) n) i j (by omega) (by omega) hij
  rw [getD_getElem (by omega), getD_getElem (by omega)]
  have h2 : (ord (rst p q) n)[i] ≠ (ord (rst p q) n)[j] := List.pairwise_iff_getElem.1 (List.nodup_iff_pairwise_ne.1 (ord_nodup (rst p q) n)) i j (by omega) (by omega) hij
  have m1 := mem_ord.1 (List.getElem_mem (show i < (ord (rst p q) n).length by omega))
  have m2 := mem_ord.1 (List.getElem_mem (show j < (ord (rst p q) n).length by omega))
  rcases Int.lt_or_eq_of_le h1 with h | h
  · exact h
  · exact absurd (rst_inj hq hg m1.1 (by omega) m2.1 (by omega) h) h2
theorem ord_at (hn : 0 < n) {k : Int} (hk : 0 ≤ k ∧ k < n) (r : Int → Int) : ∃ i, i < n ∧ (ord r n).getD i 0 = k := by
  have := hn
  obtain ⟨i, hi, e⟩ := List.mem_iff_getElem.1 (mem_ord.2 hk)
  exact ⟨i, by rw [ord_len] at hi; exact hi, by rw [getD_getElem hi, e]⟩
theorem ord_mem {i : Nat} (hi : i < n) (r : Int → Int) : 0 ≤ (ord r n).getD i 0 ∧ (ord r n).getD i 0 < n := mem_ord.1 (getD_mem (by rw [ord_len]; exact hi))
theorem rst_zero (p q : Int) : rst p q 0 = 0 := by simp [rst]
theorem ord_zero (hq : 0 < q) (hg : Int.gcd p q = 1) (hn0 : 0 < n) (hn : (n : Int) ≤ q) : (ord (rst p q) n).getD 0 0 = 0 := by
  obtain ⟨i, hi, e⟩ := ord_at (n := n) hn0 (k := 0) (by omega) (rst p q)
  by_cases h : i = 0
  · subst h; exact e
  · have := ord_lt hq hg hn (i := 0) (j := i) (by omega) hi
    rw [e, rst_zero] at this
    have := (rst_bd p hq ((ord (rst p q) n).getD 0 0)).1
    omega
theorem gap_pos (hq : 0 < q) (hg : Int.gcd p q = 1) (hn : (n : Int) ≤ q) {i : Nat} : 0 < gapAt (rst p q) q (ord (rst p q) n) i ∧ gapAt (rst p q) q (ord (rst p q) n) i ≤ q := by
  have hl := ord_len (rst p q) n
  have b0 := rst_bd p hq ((ord (rst p q) n).getD i 0)
  unfold gapAt
  by_cases h : i + 1 < (ord (rst p q) n).length
  · rw [if_pos h]
    have := ord_lt hq hg hn (i := i) (j := i + 1) (by omega) (by omega)
    have b1 := rst_bd p hq ((ord (rst p q) n).getD (i + 1) 0)
    omega
  · rw [if_neg h]; omega
theorem gap_bd (hq : 0 < q) (hg : Int.gcd p q = 1) (hn : (n : Int) ≤ q) : ∀ x ∈ gapl (rst p q) q (ord (rst p q) n), 0 < x ∧ x ≤ q := by
  intro x hx
  obtain ⟨i, _, rfl⟩ := List.mem_map.1 hx
  exact gap_pos hq hg hn
theorem gap_sum (r : Int → Int) (q : Int) (O : List Int) : ∀ k, k ≤ O.length → 0 < O.length → ((gapl r q O).take k).sum = (if k < O.length then r (O.getD k 0) else q) - r (O.getD 0 0)
  | 0, _, h => by rw [if_pos h]; simp
  | k + 1, h, h0 => by
    rw [gapl_take r q O (by omega), List.sum_append, gap_sum r q O k (by omega) h0, if_pos (by omega)]
    simp [gapAt]; omega

theorem rst_add (p q : Int) (hq : 0 < q) (a b : Int) : rst p q (a + b) = rst p q a + rst p q b ∨ rst p q (a + b) = rst p q a + rst p q b - q := by
  have h1 := rst_bd p hq a
  have h2 := rst_bd p hq b
  have h3 := rst_bd p hq (a + b)
  have e : rst p q (a + b) = (rst p q a + rst p q b) % q := by unfold rst; rw [Int.add_mul, ← Int.add_emod]
  generalize rst p q a = x at *
  generalize rst p q b = y at *
  by_cases h : x + y < q
  · exact .inl (by rw [e]; exact Int.emod_eq_of_lt (by omega) h)
  · refine .inr ?_
    rw [e, ← Int.sub_emod_right, Int.emod_eq_of_lt (by omega) (by omega)]
theorem rst_sub (p q : Int) (hq : 0 < q) (a b : Int) : rst p q (a - b) = rst p q a - rst p q b ∨ rst p q (a - b) = rst p q a - rst p q b + q := by
  have := rst_add p q hq (a - b) b
  rw [Int.sub_add_cancel] at this
  omega

/-- Behind each place the gap is the one behind 0, the last one, or the sum of both. -/
theorem three_gaps (hq : 0 < q) (hg : Int.gcd p q = 1) (hn0 : 0 < n) (hn : (n : Int) ≤ q) : ∃ A B : Int, 0 < A ∧ 0 < B ∧ ∀ x ∈ gapl (rst p q) q (ord (rst p q) n), x = A ∨ x = B ∨ x = A + B := by
  have hl := ord_len (rst p q) n
  by_cases h1 : n = 1
  · subst h1
    refine ⟨q, q, hq, hq, fun x hx => .inl ?_⟩
    obtain ⟨i, hi, rfl⟩ := List.mem_map.1 hx
    rw [List.mem_range, ord_len] at hi
    have : i = 0 := by omega
    subst this
    unfold gapAt
    rw [if_neg (by omega), ord_zero hq hg (by omega) hn, rst_zero]; omega
  · have hz := ord_zero hq hg hn0 hn
    have ma := ord_mem (n := n) (i := 1) (by omega) (rst p q)
    have mb := ord_mem (n := n) (i := n - 1) (by omega) (rst p q)
    have la := ord_lt hq hg hn (i := 0) (j := 1) (by omega) (by omega)
    rw [hz, rst_zero] at la
    have ba := rst_bd p hq ((ord (rst p q) n).getD 1 0)
    have bb := rst_bd p hq ((ord (rst p q) n).getD (n - 1) 0)
    -- the first one behind 0, and the last one
    have hA : ∀ j : Int, 0 < j → j < n → rst p q ((ord (rst p q) n).getD 1 0) ≤ rst p q j := by
      intro j h1 h2
      obtain ⟨i, hi, e⟩ := ord_at (n := n) hn0 (k := j) (by omega) (rst p q)
      rw [← e]
      rcases (show i = 0 ∨ i = 1 ∨ 1 < i by omega) with h | h | h
      · subst h; omega
      · subst h; exact Int.le_refl _
      · have := ord_lt hq hg hn h hi; omega
    have hB : ∀ j : Int, 0 ≤ j → j < n → rst p q j ≤ rst p q ((ord (rst p q) n).getD (n - 1) 0) := by
      intro j h1 h2
      obtain ⟨i, hi, e⟩ := ord_at (n := n) hn0 (k := j) (by omega) (rst p q)
      rw [← e]
      rcases (show i = n - 1 ∨ i < n - 1 by omega) with h | h
      · subst h; exact Int.le_refl _
      · have := ord_lt hq hg hn h (by omega); omega
    have ea := rst_inj hq hg (a := (ord (rst p q) n).getD 1 0) (b := 0) ma.1 (by omega) (by omega) hq
    have ha0 : (ord (rst p q) n).getD 1 0 ≠ 0 := by
      intro h; rw [h, rst_zero] at la; omega
    have hinj : ∀ a b : Int, 0 ≤ a → a < n → 0 ≤ b → b < n → rst p q a = rst p q b → a = b := fun a b h1 h2 h3 h4 h => rst_inj hq hg h1 (by omega) h3 (by omega) h
    have hzero : ∀ a : Int, 0 ≤ a → a < n → rst p q a = 0 → a = 0 := fun a h1 h2 h => hinj a 0 h1 h2 (by omega) (by omega) (by rw [h, rst_zero])
    refine ⟨rst p q ((ord (rst p q) n).getD 1 0), q - rst p q ((ord (rst p q) n).getD (n - 1) 0), by omega, by omega, fun x hx => ?_⟩
    obtain ⟨i, hi, rfl⟩ := List.mem_map.1 hx
    rw [List.mem_range, ord_len] at hi
    by_cases hlast : i = n - 1
    · subst hlast
      unfold gapAt
      rw [if_neg (by omega)]
      exact .inr (.inl rfl)
    · unfold gapAt
      rw [if_pos (by omega)]
      have mk := ord_mem (n := n) hi (rst p q)
      have ms := ord_mem (n := n) (i := i + 1) (by omega) (rst p q)
      have hlt := ord_lt hq hg hn (i := i) (j := i + 1) (by omega) (by omega)
      have hkl := ord_lt hq hg hn (i := i) (j := n - 1) (by omega) (by omega)
      -- what is behind i is not ahead of i + 1
      have hnx : ∀ c : Int, 0 ≤ c → c < n → rst p q ((ord (rst p q) n).getD i 0) < rst p q c → rst p q ((ord (rst p q) n).getD (i + 1) 0) ≤ rst p q c := by
        intro c c1 c2 hc
        obtain ⟨j, hj, e⟩ := ord_at (n := n) hn0 (k := c) (by omega) (rst p q)
        rw [← e] at hc ⊢
        rcases (show j ≤ i ∨ j = i + 1 ∨ i + 1 < j by omega) with h | h | h
        · rcases Nat.lt_or_eq_of_le h with h | h
          · have := ord_lt hq hg hn h hi; omega
          · subst h; omega
        · subst h; exact Int.le_refl _
        · have := ord_lt hq hg hn h hj; omega
      have bs := rst_bd p hq ((ord (rst p q) n).getD (i + 1) 0)
      have bk := rst_bd p hq ((ord (rst p q) n).getD i 0)
      generalize (ord (rst p q) n).getD 1 0 = a at *
      generalize (ord (rst p q) n).getD (n - 1) 0 = b at *
      generalize (ord (rst p q) n).getD i 0 = k at *
      generalize (ord (rst p q) n).getD (i + 1) 0 = s at *
      clear hx hl hz ea
      rcases (show k + a < n ∨ b ≤ k ∨ (n ≤ k + a ∧ k < b) by omega) with hc | hc | hc
      · -- a behind k
        left
        have e1 : rst p q (k + a) = rst p q k + rst p q a := by
          rcases rst_add p q hq k a with h | h
          · exact h
          · exfalso
            have := hA (k + a) (by omega) (by omega)
            omega
        have h2 := hnx (k + a) (by omega) hc (by omega)
        have h3 : rst p q k + rst p q a ≤ rst p q s := by
          apply Int.not_lt.1
          intro hlt2
          rcases (show k < s ∨ s < k ∨ s = k by omega) with h | h | h
          · have h4 := hA (s - k) (by omega) (by omega)
            have h6 := rst_bd p hq (s - k)
            rcases rst_sub p q hq s k with h | h <;> omega
          · -- s + (a - ..): from k - s go a on
            have h4 := hA (k - s + a) (by omega) (by omega)
            have h5 : rst p q (k - s + a) = rst p q (k + a) - rst p q s ∨ rst p q (k - s + a) = rst p q (k + a) - rst p q s + q := by
              have := rst_sub p q hq (k + a) s
              have e : k + a - s = k - s + a := by omega
              rw [e] at this; exact this
            have h6 := rst_bd p hq (k - s + a)
            omega
          · subst h; omega
        omega
      · -- b ahead of k
        right; left
        have hkb : k ≠ b := by intro h; subst h; omega
        have e1 : rst p q (k - b) = rst p q k + (q - rst p q b) := by
          have := rst_bd p hq (k - b)
          rcases rst_sub p q hq k b with h | h <;> omega
        have h2 := hnx (k - b) (by omega) (by omega) (by omega)
        have h3 : rst p q k + (q - rst p q b) ≤ rst p q s := by
          apply Int.not_lt.1
          intro hlt2
          rcases (show k < s ∨ s < k ∨ s = k by omega) with h | h | h
          · -- s - k + b
            have h4 := hB (s - k + b) (by omega) (by omega)
            have h5 : rst p q (s - k + b) = rst p q s - rst p q (k - b) ∨ rst p q (s - k + b) = rst p q s - rst p q (k - b) + q := by
              have := rst_sub p q hq s (k - b)
              have e : s - (k - b) = s - k + b := by omega
              rw [e] at this; exact this
            have h6 := rst_bd p hq (s - k + b)
            omega
          · have h4 := hB (k - s) (by omega) (by omega)
            have h6 := rst_bd p hq (k - s)
            rcases rst_sub p q hq k s with h | h <;> omega
          · subst h; omega
        omega
      · right; right
        have e1 : rst p q (k + a - b) = rst p q k + rst p q a + (q - rst p q b) := by
          have h6 := rst_bd p hq (k + a - b)
          have h7 : rst p q (k + a - b) = rst p q k + rst p q a - rst p q b ∨ rst p q (k + a - b) = rst p q k + rst p q a - rst p q b + q ∨ rst p q (k + a - b) = rst p q k + rst p q a - rst p q b - q := by
            rcases rst_sub p q hq (k + a) b with h | h <;> rcases rst_add p q hq k a with h' | h' <;> omega
          rcases h7 with h | h | h
          · exfalso
            have h4 := hA (k + a - b) (by omega) (by omega)
            omega
          · omega
          · omega
        have h2 := hnx (k + a - b) (by omega) (by omega) (by omega)
        have h3 : rst p q k + rst p q a + (q - rst p q b) ≤ rst p q s := by
          apply Int.not_lt.1
          intro hlt2
          rcases (show k < s ∨ s < k ∨ s = k by omega) with h | h | h
          · have h4 := hA (s - k) (by omega) (by omega)
            have h6 := rst_bd p hq (s - k)
            have h5 : rst p q (s - k) = rst p q s - rst p q k := by
              rcases rst_sub p q hq s k with h | h <;> omega
            have hne : s - k ≠ a := by omega
            have h8 : rst p q (s - k) ≠ rst p q a := fun h => hne (hinj _ _ (by omega) (by omega) ma.1 ma.2 h)
            have h9 := hB (a - (s - k)) (by omega) (by omega)
            have h10 := rst_bd p hq (a - (s - k))
            rcases rst_sub p q hq a (s - k) with h | h <;> omega
          · have h4 := hB (k - s) (by omega) (by omega)
            have h6 := rst_bd p hq (k - s)
            have h5 : rst p q (k - s) = rst p q k - rst p q s + q := by
              rcases rst_sub p q hq k s with h | h <;> omega
            have hne : k - s ≠ b := by omega
            have h8 : rst p q (k - s) ≠ rst p q b := fun h => hne (hinj _ _ (by omega) (by omega) mb.1 mb.2 h)
            have h9 := hA (b - (k - s)) (by omega) (by omega)
            have h10 := rst_bd p hq (b - (k - s))
            rcases rst_sub p q hq b (k - s) with h | h <;> omega
          · subst h; omega
        omega
end

/-- A rising list of such numbers has at most three of them; the third is the sum of the others. -/
theorem asc_three {D : List Int} {A B : Int} (hA : 0 < A) (hB : 0 < B) (h : Asc D) (hm : ∀ x ∈ D, x = A ∨ x = B ∨ x = A + B) : D.length ≤ 3 ∧ (D.length = 3 → D.getD 0 0 + D.getD 1 0 = D.getD 2 0) := by
  match D, h, hm with
  | [], _, _ => simp
  | [a], _, _ => simp
  | [a, b], _, _ => simp
  | [a, b, c], h, hm =>
    have h1 := List.pairwise_cons.1 h
    have h2 := List.pairwise_cons.1 h1.2
    have m1 := hm a (by simp)
    have m2 := hm b (by simp)
    have m3 := hm c (by simp)
    have l1 := h1.1 b (by simp)
    have l2 := h2.1 c (by simp)
    refine ⟨by simp, fun _ => ?_⟩
    simp
    omega
  | a :: b :: c :: d :: L, h, hm =>
    exfalso
    have h1 := List.pairwise_cons.1 h
    have h2 := List.pairwise_cons.1 h1.2
    have h3 := List.pairwise_cons.1 h2.2
    have m1 := hm a (by simp)
    have m2 := hm b (by simp)
    have m3 := hm c (by simp)
    have m4 := hm d (by simp)
    have l1 := h1.1 b (by simp)
    have l2 := h2.1 c (by simp)
    have l3 := h3.1 d (by simp)
    omega

end Go.Proofs.Ytpagfikhcmeciaa
