/- The order of multiples by what they leave, and the gaps: plain facts. -/
import Derived.Test.YtpagfikhcmeciaaBase
namespace Go.Proofs.Ytpagfikhcmeciaa

/-- What a multiple leaves. -/
def rst (p q k : Int) : Int := k * p % q

/-- Where a number goes in an ordered list, found from the list's first k places. -/
def insK (r : Int → Int) (L : List Int) (n : Int) : Nat → Nat
  | 0 => 0
  | k + 1 => if r n < r (L.getD k 0) then insK r L n k else k + 1
/-- The numbers from 0 on, n of them, in the order of what r makes of them. -/
def ord (r : Int → Int) : Nat → List Int
  | 0 => []
  | n + 1 => (ord r n).take (insK r (ord r n) n (ord r n).length) ++ (n : Int) :: (ord r n).drop (insK r (ord r n) n (ord r n).length)

theorem insK_le (r : Int → Int) (L : List Int) (n : Int) : ∀ k, insK r L n k ≤ k
  | 0 => Nat.le_refl _
  | k + 1 => by
    unfold insK
    have := insK_le r L n k
    split <;> omega
theorem insK_hi (r : Int → Int) (L : List Int) (n : Int) : ∀ k j, insK r L n k ≤ j → j < k → r n < r (L.getD j 0)
  | 0, j, _, h => by omega
  | k + 1, j, h1, h2 => by
    unfold insK at h1
    by_cases h : r n < r (L.getD k 0)
    · rw [if_pos h] at h1
      by_cases hj : j = k
      · subst hj; exact h
      · exact insK_hi r L n k j h1 (by omega)
    · rw [if_neg h] at h1; omega
theorem insK_lo (r : Int → Int) (L : List Int) (n : Int) : ∀ k, 0 < insK r L n k → r (L.getD (insK r L n k - 1) 0) ≤ r n
  | 0, h => by simp [insK] at h
  | k + 1, h => by
    by_cases hc : r n < r (L.getD k 0)
    · have e : insK r L n (k + 1) = insK r L n k := by rw [insK, if_pos hc]
      rw [e] at h ⊢
      exact insK_lo r L n k h
    · have e : insK r L n (k + 1) = k + 1 := by rw [insK, if_neg hc]
      rw [e]
      simp only [Nat.add_sub_cancel]
      omega

def rng (n : Nat) : List Int := (List.range n).map fun i : Nat => (i : Int)
theorem rng_succ (n : Nat) : rng (n + 1) = rng n ++ [(n : Int)] := by simp [rng, List.range_succ]
theorem mem_rng {n : Nat} {x : Int} : x ∈ rng n ↔ 0 ≤ x ∧ x < n := by
  simp only [rng, List.mem_map, List.mem_range]
  constructor
  · rintro ⟨i, hi, rfl⟩; omega
  · rintro ⟨h1, h2⟩; exact ⟨x.toNat, by omega, by omega⟩
theorem rng_nodup (n : Nat) : (rng n).Nodup := by
  unfold rng
  rw [List.nodup_iff_pairwise_ne, List.pairwise_map]
  exact (List.nodup_iff_pairwise_ne.1 List.nodup_range).imp (fun h e => h (by omega))

theorem ord_perm (r : Int → Int) : ∀ n, (ord r n).Perm (rng n)
  | 0 => List.Perm.refl _
  | n + 1 => by
    rw [ord, rng_succ]
    have h := ord_perm r n
    have h2 : ((ord r n).take (insK r (ord r n) n (ord r n).length) ++ (n : Int) :: (ord r n).drop (insK r (ord r n) n (ord r n).length)).Perm ((n : Int) :: ord r n) := by
      refine List.perm_middle.trans ?_
      rw [List.take_append_drop]
    refine h2.trans ?_
    refine (List.Perm.cons _ h).trans ?_
    exact (List.perm_append_singleton _ _).symm
theorem ord_len (r : Int → Int) (n : Nat) : (ord r n).length = n := by
  rw [(ord_perm r n).length_eq]; simp [rng]
theorem mem_ord {r : Int → Int} {n : Nat} {x : Int} : x ∈ ord r n ↔ 0 ≤ x ∧ x < n := by rw [(ord_perm r n).mem_iff, mem_rng]
theorem ord_nodup (r : Int → Int) (n : Nat) : (ord r n).Nodup := (ord_perm r n).nodup_iff.2 (rng_nodup n)

theorem getD_mem {L : List Int} {j : Nat} (h : j < L.length) : L.getD j 0 ∈ L := by
  rw [List.getD_eq_getElem?_getD, List.getElem?_eq_getElem h]; simp

theorem ord_sorted (r : Int → Int) : ∀ n, (ord r n).Pairwise fun a b => r a ≤ r b
  | 0 => List.Pairwise.nil
  | n + 1 => by
    have hs := ord_sorted r n
    rw [ord]
    have hk := insK_le r (ord r n) n (ord r n).length
    have hhi := insK_hi r (ord r n) n (ord r n).length
    have hlo := insK_lo r (ord r n) n (ord r n).length
    generalize insK r (ord r n) n (ord r n).length = k at *
    generalize ord r n = L at *
    have hidx := List.pairwise_iff_getElem.1 hs
    rw [List.pairwise_append]
    refine ⟨hs.sublist (List.take_sublist _ _), ?_, ?_⟩
    · rw [List.pairwise_cons]
      refine ⟨fun b hb => ?_, hs.sublist (List.drop_sublist _ _)⟩
      obtain ⟨j, hj, rfl⟩ := List.mem_iff_getElem.1 hb
      rw [List.length_drop] at hj
      have := hhi (k + j) (by omega) (by omega)
      rw [List.getD_eq_getElem?_getD, List.getElem?_eq_getElem (by omega)] at this
      rw [List.getElem_drop]
      simp at this
      omega
    · intro a ha b hb
      have hab : ∀ b, (b = (n : Int) ∨ b ∈ L.drop k) → r a ≤ r b := by
        obtain ⟨i, hi, rfl⟩ := List.mem_iff_getElem.1 ha
        rw [List.length_take] at hi
        intro b hb
        rw [List.getElem_take]
        rcases hb with rfl | hb
        · have h1 := hlo (by omega)
          rw [List.getD_eq_getElem?_getD, List.getElem?_eq_getElem (by omega)] at h1
          simp at h1
          by_cases he : i = k - 1
          · subst he; exact h1
          · exact Int.le_trans (hidx i (k - 1) (by omega) (by omega) (by omega)) h1
        · obtain ⟨j, hj, rfl⟩ := List.mem_iff_getElem.1 hb
          rw [List.length_drop] at hj
          rw [List.getElem_drop]
          exact hidx i (k + j) (by omega) (by omega) (by omega)
      exact hab b (List.mem_cons.1 hb)

/-- Any list in order of the same numbers is this one, where r parts them. -/
theorem ord_unique {r : Int → Int} {n : Nat} {L : List Int} (hinj : ∀ a b, 0 ≤ a → a < (n : Int) → 0 ≤ b → b < (n : Int) → r a = r b → a = b) (hp : L.Perm (rng n)) (hs : L.Pairwise fun a b => r a ≤ r b) : L = ord r n := by
  refine List.Perm.eq_of_pairwise (le := fun a b => r a ≤ r b) ?_ hs (ord_sorted r n) (hp.trans (ord_perm r n).symm)
  intro a b ha hb h1 h2
  have ha := mem_rng.1 (hp.mem_iff.1 ha)
  have hb := mem_ord.1 hb
  exact hinj a b ha.1 ha.2 hb.1 hb.2 (by omega)

/-- Multiples of a plain fraction leave different numbers, as long as they are fewer than its denominator. -/
theorem rst_inj {p q : Int} (hq : 0 < q) (hg : Int.gcd p q = 1) {a b : Int} (ha : 0 ≤ a) (ha2 : a < q) (hb : 0 ≤ b) (hb2 : b < q) (h : rst p q a = rst p q b) : a = b := by
  unfold rst at h
  have h1 : q ∣ a * p - b * p := Int.dvd_of_emod_eq_zero (Int.emod_eq_emod_iff_emod_sub_eq_zero.1 h)
  rw [← Int.sub_mul] at h1
  have h2 : q ∣ a - b := by
    have h3 := Int.natAbs_dvd_natAbs.2 h1
    rw [Int.natAbs_mul] at h3
    exact Int.natAbs_dvd_natAbs.1 (Nat.Coprime.dvd_of_dvd_mul_right (by rw [Nat.Coprime, Nat.gcd_comm]; exact hg) h3)
  obtain ⟨c, hc⟩ := h2
  by_cases h0 : c = 0
  · subst h0; omega
  · exfalso
    rcases Int.lt_or_lt_of_ne h0 with h0 | h0
    · have : q * c ≤ q * (-1) := Int.mul_le_mul_of_nonneg_left (by omega) (by omega)
      omega
    · have : q * 1 ≤ q * c := Int.mul_le_mul_of_nonneg_left (by omega) (by omega)
      omega
theorem rst_bd (p : Int) {q : Int} (hq : 0 < q) (k : Int) : 0 ≤ rst p q k ∧ rst p q k < q := ⟨Int.emod_nonneg _ (by omega), Int.emod_lt_of_pos _ hq⟩

end Go.Proofs.Ytpagfikhcmeciaa
