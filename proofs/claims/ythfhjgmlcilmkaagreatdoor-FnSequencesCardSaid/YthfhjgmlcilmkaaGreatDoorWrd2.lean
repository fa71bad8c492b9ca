/- Words of slopes are balanced, symmetrical, and consist of the words of their bounds. -/
import Derived.Test.YthfhjgmlcilmkaaGreatDoorWrd
namespace Go.Proofs.YthfhjgmlcilmkaaGreatDoor
open Go.RowKit

theorem chl_num {p q k : Nat} (hp : 0 < p) : (if chl p q k = 49 then 1 else 0) + k * p / (p + q) = (k + 1) * p / (p + q) := by
  have hN : 0 < p + q := by omega
  have e1 := Nat.div_add_mod (k * p) (p + q)
  have e2 := Nat.div_add_mod ((k + 1) * p) (p + q)
  have r1 := Nat.mod_lt (k * p) hN
  have r2 := Nat.mod_lt ((k + 1) * p) hN
  have e3 : (k + 1) * p = k * p + p := by rw [Nat.add_mul, Nat.one_mul]
  obtain ⟨s1, s2⟩ := cut_step (p := p) (q := p + q) (k := k) hN (by omega)
  unfold chl
  generalize k * p / (p + q) = a at *
  generalize (k + 1) * p / (p + q) = b at *
  generalize k * p % (p + q) = c at *
  generalize (k + 1) * p % (p + q) = d at *
  rcases Nat.lt_or_ge a b with h | h
  · have hb : b = a + 1 := by omega
    subst hb
    rw [Nat.mul_add, Nat.mul_one] at e2
    have : ¬ c < d := by omega
    rw [if_neg this]; simp; omega
  · have hb : b = a := by omega
    subst hb
    have : c < d := by omega
    rw [if_pos this]; simp
theorem ones_chr {p q : Nat} (hp : 0 < p) : ∀ {k : Nat}, k ≤ p + q → ones ((chr p q).take k) = k * p / (p + q)
  | 0, _ => by simp [ones]
  | k + 1, h => by
    rw [chr_succ (by omega), ones_snoc, ones_chr hp (by omega), ← chl_num hp]
    omega
theorem ones_chr_all {p q : Nat} (hp : 0 < p) : ones (chr p q) = p := by
  have := ones_chr (p := p) (q := q) hp (Nat.le_refl _)
  rw [chr_all] at this
  rw [this, Nat.mul_div_cancel_left _ (by omega)]
theorem letter_chr (p q : Nat) : (chr p q).all letter = true := by
  rw [List.all_eq_true]
  intro c hc
  obtain ⟨k, _, rfl⟩ := List.mem_map.1 hc
  unfold chl letter
  split <;> rfl
theorem div_win {a b N : Nat} (hN : 0 < N) : a / N + b / N ≤ (a + b) / N ∧ (a + b) / N ≤ a / N + b / N + 1 := by
  have e1 := Nat.div_add_mod a N
  have e2 := Nat.div_add_mod b N
  have r1 := Nat.mod_lt a hN
  have r2 := Nat.mod_lt b hN
  constructor
  · rw [Nat.le_div_iff_mul_le hN, Nat.add_mul, Nat.mul_comm (a / N), Nat.mul_comm (b / N)]
    omega
  · rw [← Nat.lt_succ_iff, Nat.div_lt_iff_lt_mul hN]
    have : (a / N + b / N + 1).succ * N = N * (a / N) + N * (b / N) + 2 * N := by
      rw [Nat.succ_eq_add_one]; simp only [Nat.add_mul, Nat.mul_comm N]; omega
    rw [this]
    omega
theorem win_chr {p q : Nat} (hp : 0 < p) {n i : Nat} (h : i + n ≤ p + q) : ((n * p / (p + q) : Nat) : Int) ≤ win (chr p q) n i ∧ win (chr p q) n i ≤ ((n * p / (p + q) : Nat) : Int) + 1 := by
  unfold win
  rw [ones_chr hp h, ones_chr hp (by omega)]
  have := div_win (a := i * p) (b := n * p) (N := p + q) (by omega)
  rw [← Nat.add_mul] at this
  omega
theorem lo_ge {l : List UInt8} {n : Nat} {m : Int} : ∀ {i}, (∀ j, j ≤ i → m ≤ win l n j) → m ≤ lo l n i
  | 0, h => h 0 (Nat.le_refl _)
  | i + 1, h => by
    have h1 := lo_ge (i := i) (fun j hj => h j (by omega))
    have h2 := h (i + 1) (Nat.le_refl _)
    unfold lo; omega
theorem hi_le {l : List UInt8} {n : Nat} {m : Int} : ∀ {i}, (∀ j, j ≤ i → win l n j ≤ m) → hi l n i ≤ m
  | 0, h => h 0 (Nat.le_refl _)
  | i + 1, h => by
    have h1 := hi_le (i := i) (fun j hj => h j (by omega))
    have h2 := h (i + 1) (Nat.le_refl _)
    unfold hi; omega
theorem bal_chr {p q : Nat} (hp : 0 < p) (hN : p + q ≤ 400) : bal (chr p q) = true := by
  refine bal_yes ?_ (fun n h1 h2 => ?_)
  · unfold okW; rw [letter_chr, chr_len]; simp; omega
  · rw [chr_len] at h2
    unfold fine
    rw [chr_len]
    have h3 := lo_ge (l := chr p q) (n := n) (i := p + q - n) (fun j hj => (win_chr (p := p) (q := q) (n := n) (i := j) hp (by omega)).1)
    have h4 := hi_le (l := chr p q) (n := n) (i := p + q - n) (fun j hj => (win_chr (p := p) (q := q) (n := n) (i := j) hp (by omega)).2)
    exact decide_eq_true (by omega)
theorem div_anti {k p N : Nat} (hN : 0 < N) (hk : k ≤ N) (hd : k * p % N ≠ 0) : (N - k) * p / N + k * p / N + 1 = p := by
  have e1 := Nat.div_add_mod (k * p) N
  have r1 := Nat.mod_lt (k * p) hN
  have e3 : (N - k) * p + k * p = N * p := by rw [← Nat.add_mul, Nat.sub_add_cancel hk]
  have hle : N * (k * p / N + 1) ≤ N * p := by
    refine Nat.mul_le_mul_left _ ?_
    rw [Nat.succ_le_iff, Nat.div_lt_iff_lt_mul hN, Nat.mul_comm p N]
    rcases Nat.lt_or_ge (k * p) (N * p) with h | h
    · exact h
    · have : k * p = N * p := Nat.le_antisymm (Nat.mul_le_mul_right _ hk) h
      rw [this, Nat.mul_mod_right] at hd
      exact absurd rfl hd
  have hp : k * p / N + 1 ≤ p := Nat.le_of_mul_le_mul_left hle hN
  have : (N - k) * p / N = p - (k * p / N + 1) := by
    refine Nat.div_eq_of_lt_le ?_ ?_
    · rw [Nat.sub_mul, Nat.add_mul, Nat.one_mul, Nat.mul_comm p, Nat.mul_comm (k * p / N)]
      omega
    · rw [Nat.add_mul, Nat.one_mul, Nat.sub_mul, Nat.sub_mul, Nat.add_mul, Nat.one_mul, Nat.mul_comm p, Nat.mul_comm (k * p / N)]
      have h4 : N * (k * p / N) + N ≤ N * p := by have := hle; rw [Nat.mul_add, Nat.mul_one] at this; exact this
      omega
  omega
theorem mod_ne {k p N : Nat} (hg : Nat.gcd p N = 1) (h0 : 0 < k) (h1 : k < N) : k * p % N ≠ 0 := by
  intro h
  have hd : N ∣ k * p := Nat.dvd_of_mod_eq_zero h
  have : N ∣ k := Nat.Coprime.dvd_of_dvd_mul_right (by rw [Nat.Coprime, Nat.gcd_comm]; exact hg) hd
  exact absurd (Nat.le_of_dvd h0 this) (by omega)
theorem chl_eq {p q r t k j : Nat} (hp : 0 < p) (hr : 0 < r) (h : (k + 1) * p / (p + q) + j * r / (r + t) = (j + 1) * r / (r + t) + k * p / (p + q)) : chl p q k = chl r t j := by
  have e1 := chl_num (p := p) (q := q) (k := k) hp
  have e2 := chl_num (p := r) (q := t) (k := j) hr
  have : (if chl p q k = 49 then 1 else 0) = (if chl r t j = 49 then 1 else 0) := by omega
  unfold chl at this ⊢
  by_cases h1 : k * p % (p + q) < (k + 1) * p % (p + q) <;> by_cases h2 : j * r % (r + t) < (j + 1) * r % (r + t)
  · rw [if_pos h1, if_pos h2]
  · rw [if_pos h1, if_neg h2] at this; cases this
  · rw [if_neg h1, if_pos h2] at this; cases this
  · rw [if_neg h1, if_neg h2]
/-- The letters between the first and the last one read the same in both directions. -/
theorem chl_sym {p q k : Nat} (hp : 0 < p) (hg : Nat.gcd p (p + q) = 1) (h0 : 0 < k) (h1 : k + 1 < p + q) : chl p q k = chl p q (p + q - 1 - k) := by
  have a1 := div_anti (k := k) (p := p) (N := p + q) (by omega) (by omega) (mod_ne hg h0 (by omega))
  have a2 := div_anti (k := k + 1) (p := p) (N := p + q) (by omega) (by omega) (mod_ne hg (by omega) (by omega))
  refine chl_eq hp hp ?_
  have e1 : p + q - 1 - k + 1 = p + q - k := by omega
  have e2 : p + q - 1 - k = p + q - (k + 1) := by omega
  rw [e1, e2]
  omega
theorem floor_low {p r n1 n2 k : Nat} (h1 : 0 < n1) (hd : r * n1 = p * n2 + 1) (hk : k ≤ n1) (h2 : 0 < n2) : k * (p + r) / (n1 + n2) = k * p / n1 := by
  have e1 := Nat.div_add_mod (k * p) n1
  have r1 := Nat.mod_lt (k * p) h1
  generalize k * p / n1 = a at *
  generalize k * p % n1 = c at *
  have key : k * (p + r) * n1 = (n1 * a + c) * (n1 + n2) + k := by
    rw [e1]
    have : k * (p + r) * n1 = k * p * n1 + k * (r * n1) := by grind
    rw [this, hd]; grind
  refine Nat.div_eq_of_lt_le ?_ ?_
  · refine Nat.le_of_mul_le_mul_right (c := n1) ?_ h1
    rw [key]
    have : a * (n1 + n2) * n1 = n1 * a * (n1 + n2) := by grind
    rw [this, Nat.add_mul]; omega
  · refine Nat.lt_of_mul_lt_mul_right (a := n1) ?_
    rw [key]
    have : (a + 1) * (n1 + n2) * n1 = n1 * a * (n1 + n2) + n1 * (n1 + n2) := by grind
    rw [this, Nat.add_mul]
    have : c * (n1 + n2) + (n1 + n2) ≤ n1 * (n1 + n2) := by
      have : (c + 1) * (n1 + n2) ≤ n1 * (n1 + n2) := Nat.mul_le_mul_right _ (by omega)
      rw [Nat.add_mul, Nat.one_mul] at this; exact this
    omega
theorem floor_high {p r n1 n2 j : Nat} (h1 : 0 < n1) (hd : r * n1 = p * n2 + 1) (hj : j ≤ n2) (h2 : 0 < n2) : (n1 + j) * (p + r) / (n1 + n2) = p + j * r / n2 := by
  have e1 := Nat.div_add_mod (j * r) n2
  have r1 := Nat.mod_lt (j * r) h2
  generalize j * r / n2 = a at *
  generalize j * r % n2 = c at *
  have key : (n1 + j) * (p + r) * n2 + j = (p * n2 + (n2 * a + c)) * (n1 + n2) + n2 := by
    rw [e1]
    have e2 : (n1 + j) * (p + r) * n2 + j = n1 * p * n2 + (r * n1) * n2 + j * r * n2 + j * (p * n2 + 1) := by grind
    rw [e2, ← hd]
    have e3 : (p * n2 + j * r) * (n1 + n2) + n2 = n1 * p * n2 + (p * n2 + 1) * n2 + j * r * n2 + j * (r * n1) := by grind
    rw [e3, ← hd]
  refine Nat.div_eq_of_lt_le ?_ ?_
  · refine Nat.le_of_mul_le_mul_right (c := n2) ?_ h2
    have : (p + a) * (n1 + n2) * n2 = (p * n2 + n2 * a) * (n1 + n2) := by grind
    rw [this]
    have : (p * n2 + (n2 * a + c)) * (n1 + n2) = (p * n2 + n2 * a) * (n1 + n2) + c * (n1 + n2) := by grind
    omega
  · refine Nat.lt_of_mul_lt_mul_right (a := n2) ?_
    have e2 : (p + a + 1) * (n1 + n2) * n2 = (p * n2 + n2 * a) * (n1 + n2) + n2 * (n1 + n2) := by grind
    rw [e2]
    have e3 : (p * n2 + (n2 * a + c)) * (n1 + n2) = (p * n2 + n2 * a) * (n1 + n2) + c * (n1 + n2) := by grind
    have : c * (n1 + n2) + (n1 + n2) ≤ n2 * (n1 + n2) := by
      have : (c + 1) * (n1 + n2) ≤ n2 * (n1 + n2) := Nat.mul_le_mul_right _ (by omega)
      rw [Nat.add_mul, Nat.one_mul] at this; exact this
    omega
/-- A word consists of the words of its bounds. -/
theorem chr_split {p q r t : Nat} (hd : r * q = p * t + 1) (hq : p = 0 → q = 1) (hn : 0 < p + q) (hm : 0 < r + t) : chr (p + r) (q + t) = wrd p q ++ wrd r t := by
  have hr : 0 < r := by rcases Nat.eq_zero_or_pos r with h | h; · subst h; omega
                        · exact h
  have hdet : r * (p + q) = p * (r + t) + 1 := by
    have : r * (p + q) = r * q + p * r := by grind
    rw [this, hd]; grind
  have hw : wrd r t = chr r t := by unfold wrd; rw [if_neg (by omega)]
  have hl : (wrd p q).length = p + q := by
    unfold wrd; split
    · have := hq ‹_›; subst p; simp; omega
    · exact chr_len p q
  have hN : p + r + (q + t) = (p + q) + (r + t) := by omega
  rw [hw]
  refine List.ext_getElem (by rw [List.length_append, hl, chr_len, chr_len]; omega) (fun i h1 h2 => ?_)
  rw [chr_len] at h1
  have eL : (chr (p + r) (q + t))[i]'(by rw [chr_len]; exact h1) = chl (p + r) (q + t) i := by simp [chr]
  rw [eL]
  rcases Nat.lt_or_ge i (p + q) with hi | hi
  · rw [List.getElem_append_left (by omega)]
    have f1 := floor_low (p := p) (r := r) (n1 := p + q) (n2 := r + t) (k := i) hn hdet (by omega) hm
    have f2 := floor_low (p := p) (r := r) (n1 := p + q) (n2 := r + t) (k := i + 1) hn hdet (by omega) hm
    rw [← hN] at f1 f2
    rcases Nat.eq_zero_or_pos p with hp | hp
    · have hq1 := hq hp
      subst hp hq1
      have hi0 : i = 0 := by omega
      subst hi0
      have e1 := chl_num (p := 0 + r) (q := 1 + t) (k := 0) (by omega)
      rw [f1, f2] at e1
      simp [wrd]
      simp at e1
      unfold chl at e1 ⊢
      split <;> simp_all
    · have eR : (wrd p q)[i]'(by omega) = chl p q i := by simp [wrd, Nat.ne_of_gt hp, chr]
      rw [eR]
      exact chl_eq (by omega) hp (by rw [f1, f2, Nat.add_comm])
  · rw [List.getElem_append_right (by omega)]
    obtain ⟨j, rfl⟩ : ∃ j, i = (p + q) + j := ⟨i - (p + q), by omega⟩
    have f1 := floor_high (p := p) (r := r) (n1 := p + q) (n2 := r + t) (j := j) hn hdet (by omega) hm
    have f2 := floor_high (p := p) (r := r) (n1 := p + q) (n2 := r + t) (j := j + 1) hn hdet (by omega) hm
    rw [← hN] at f1 f2
    have eR : (chr r t)[p + q + j - (wrd p q).length]'(by rw [chr_len]; omega) = chl r t j := by simp [chr, hl]
    rw [eR]
    refine chl_eq (by omega) hr ?_
    rw [f1, Nat.add_assoc, f2]; omega

end Go.Proofs.YthfhjgmlcilmkaaGreatDoor
