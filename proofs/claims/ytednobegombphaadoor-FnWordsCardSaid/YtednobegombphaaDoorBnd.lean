/- The path of a fraction in the tree, and its bounds. -/
import Derived.Test.YtednobegombphaaDoorCf
namespace Go.Proofs.YtednobegombphaaDoor

/-- One run of a path: the bounds p / q and r / t. -/
def bst (ev : Bool) (n : Int) (s : Int × Int × Int × Int) : Int × Int × Int × Int :=
  if ev then (s.1 + n * s.2.2.1, s.2.1 + n * s.2.2.2, s.2.2.1, s.2.2.2) else (s.1, s.2.1, s.2.2.1 + n * s.1, s.2.2.2 + n * s.2.1)
def bnd : List Int → Bool → Int × Int × Int × Int → Int × Int × Int × Int
  | [], _, s => s
  | n :: l, ev, s => bnd l (!ev) (bst ev n s)
/-- The last run is one less than the last term. -/
def dec : List Int → List Int
  | [] => []
  | [n] => [n - 1]
  | n :: m :: l => n :: dec (m :: l)
def pos4 (s : Int × Int × Int × Int) : Prop := 0 ≤ s.1 ∧ 0 ≤ s.2.1 ∧ 0 ≤ s.2.2.1 ∧ 0 ≤ s.2.2.2
def le4 (s u : Int × Int × Int × Int) : Prop := s.1 ≤ u.1 ∧ s.2.1 ≤ u.2.1 ∧ s.2.2.1 ≤ u.2.2.1 ∧ s.2.2.2 ≤ u.2.2.2
theorem bst_le {ev : Bool} {n : Int} {s : Int × Int × Int × Int} (hn : 0 ≤ n) (h : pos4 s) : pos4 (bst ev n s) ∧ le4 s (bst ev n s) := by
  obtain ⟨h1, h2, h3, h4⟩ := h
  have m1 := Int.mul_nonneg hn h1
  have m2 := Int.mul_nonneg hn h2
  have m3 := Int.mul_nonneg hn h3
  have m4 := Int.mul_nonneg hn h4
  unfold bst pos4 le4
  cases ev <;> simp <;> omega
theorem bnd_le : ∀ {l : List Int} {ev : Bool} {s : Int × Int × Int × Int}, (∀ n ∈ l, 0 ≤ n) → pos4 s → pos4 (bnd l ev s) ∧ le4 s (bnd l ev s)
  | [], _, s, _, h => ⟨h, by unfold bnd le4; omega⟩
  | n :: l, ev, s, hl, h => by
    obtain ⟨h1, h2⟩ := bst_le (ev := ev) (hl n List.mem_cons_self) h
    obtain ⟨h3, h4⟩ := bnd_le (l := l) (ev := !ev) (fun m hm => hl m (List.mem_cons_of_mem _ hm)) h1
    refine ⟨h3, ?_⟩
    unfold le4 at *
    unfold bnd
    omega
def det4 (s : Int × Int × Int × Int) : Int := s.2.2.1 * s.2.1 - s.1 * s.2.2.2
theorem bst_det (ev : Bool) (n : Int) (s : Int × Int × Int × Int) : det4 (bst ev n s) = det4 s := by
  unfold det4 bst
  cases ev <;> simp <;> grind
theorem bnd_det : ∀ (l : List Int) (ev : Bool) (s : Int × Int × Int × Int), det4 (bnd l ev s) = det4 s
  | [], _, _ => rfl
  | n :: l, ev, s => by unfold bnd; rw [bnd_det l, bst_det]
/-- What the bounds come to, if a / b (even) or b / a (odd) is left. -/
def com (ev : Bool) (a b : Int) (s : Int × Int × Int × Int) : Int × Int := if ev then (a * s.2.2.1 + b * s.1, a * s.2.2.2 + b * s.2.1) else (b * s.2.2.1 + a * s.1, b * s.2.2.2 + a * s.2.1)
theorem com_step {ev : Bool} {a b n c : Int} {s : Int × Int × Int × Int} (h : a = n * b + c) : com (!ev) b c (bst ev n s) = com ev a b s := by
  subst h
  unfold com bst
  cases ev <;> simp <;> constructor <;> grind
theorem terms_ne (a : Int) {b : Nat} (h : b ≠ 0) : terms a b ≠ [] := by rw [terms_cons a h]; exact List.cons_ne_nil _ _
theorem dec_cons {n : Int} {l : List Int} (h : l ≠ []) : dec (n :: l) = n :: dec l := by
  cases l with
  | nil => exact absurd rfl h
  | cons m l => rfl
/-- The bounds at the end of the path of a / b, from bounds s on. -/
theorem bnd_path : ∀ (b : Nat) (a : Nat) (ev : Bool) (s : Int × Int × Int × Int), b ≠ 0 → Nat.gcd a b = 1 →
    ((bnd (dec (terms a b)) ev s).1 + (bnd (dec (terms a b)) ev s).2.2.1, (bnd (dec (terms a b)) ev s).2.1 + (bnd (dec (terms a b)) ev s).2.2.2) = com ev a b s := by
  intro b
  induction b using Nat.strongRecOn with
  | _ b ih =>
    intro a ev s hb hg
    rw [terms_cons _ hb]
    have e1 : ((a : Int) % (b : Int)).toNat = a % b := by rw [← Int.natCast_emod]; rfl
    rw [e1]
    have hdm := Nat.div_add_mod a b
    by_cases h0 : a % b = 0
    · rw [h0, terms_nil]
      have hb1 : b = 1 := by
        have : Nat.gcd a b = b := by rw [Nat.gcd_comm, Nat.gcd_rec, h0]; simp
        omega
      subst hb1
      show ((bnd [(a : Int) / ((1 : Nat) : Int) - 1] ev s).1 + _, _) = _
      unfold dec bnd bnd bst com
      cases ev <;> simp <;> constructor <;> grind
    · rw [dec_cons (terms_ne _ h0)]
      have hlt := Nat.mod_lt a (show 0 < b by omega)
      have := ih (a % b) hlt b (!ev) (bst ev ((a : Int) / b) s) h0 (by rw [Nat.gcd_comm, ← Nat.gcd_rec, Nat.gcd_comm]; exact hg)
      unfold bnd
      rw [this]
      refine com_step ?_
      rw [← Int.natCast_ediv, Int.mul_comm]
      exact_mod_cast hdm.symm
theorem dec_set : ∀ {l : List Int} (h : l ≠ []), dec l = l.set (l.length - 1) (l[l.length - 1]'(by have := List.length_pos_iff.2 h; omega) - 1)
  | [], h => absurd rfl h
  | [n], _ => rfl
  | n :: m :: l, _ => by
    have := dec_set (l := m :: l) (List.cons_ne_nil _ _)
    show n :: dec (m :: l) = _
    rw [this]
    simp
theorem dec_len : ∀ (l : List Int), (dec l).length = l.length
  | [] => rfl
  | [_] => rfl
  | n :: m :: l => by show (n :: dec (m :: l)).length = _; rw [List.length_cons, dec_len (m :: l)]; rfl
/-- All runs but the first one are at least 1, and the first one is not negative. -/
theorem dec_big : ∀ (b a : Nat), b ≠ 0 → b < a → Nat.gcd a b = 1 → ∀ n ∈ dec (terms a b), (1 : Int) ≤ n := by
  intro b
  induction b using Nat.strongRecOn with
  | _ b ih =>
    intro a hb hlt hg
    rw [terms_cons _ hb]
    have e1 : ((a : Int) % (b : Int)).toNat = a % b := by rw [← Int.natCast_emod]; rfl
    rw [e1, ← Int.natCast_ediv]
    have hq : 1 ≤ a / b := Nat.div_pos (by omega) (by omega)
    by_cases h0 : a % b = 0
    · rw [h0, terms_nil]
      have hb1 : b = 1 := by
        have : Nat.gcd a b = b := by rw [Nat.gcd_comm, Nat.gcd_rec, h0]; simp
        omega
      subst hb1
      intro n hn
      simp [dec] at hn
      omega
    · rw [dec_cons (terms_ne _ h0)]
      intro n hn
      rcases List.mem_cons.1 hn with rfl | hn
      · omega
      · exact ih (a % b) (Nat.mod_lt a (by omega)) b h0 (Nat.mod_lt a (by omega)) (by rw [Nat.gcd_comm, ← Nat.gcd_rec, Nat.gcd_comm]; exact hg) n hn
theorem dec_pos {a b : Nat} (ha : 0 < a) (hb : b ≠ 0) (hg : Nat.gcd a b = 1) : ∀ n ∈ dec (terms a b), (0 : Int) ≤ n := by
  by_cases hlt : b < a
  · intro n hn; have := dec_big b a hb hlt hg n hn; omega
  · by_cases he : a = b
    · subst he
      have h1 : a = 1 := by rw [Nat.gcd_self] at hg; exact hg
      subst h1
      rw [terms_cons _ hb]
      intro n hn
      have : ((1 : Nat) : Int) % ((1 : Nat) : Int) = 0 := by decide
      rw [this] at hn
      simp [terms_nil, dec] at hn
      omega
    · rw [terms_cons _ hb]
      have e1 : ((a : Int) % (b : Int)).toNat = a := by rw [← Int.natCast_emod, Nat.mod_eq_of_lt (by omega)]; rfl
      rw [e1, dec_cons (terms_ne _ (by omega)), ← Int.natCast_ediv, Nat.div_eq_of_lt (by omega)]
      intro n hn
      rcases List.mem_cons.1 hn with rfl | hn
      · simp
      · have := dec_big a b (by omega) (by omega) (by rw [Nat.gcd_comm]; exact hg) n hn; omega
theorem dec_last {a b : Nat} (ha : 0 < a) (hb : b ≠ 0) (hg : Nat.gcd a b = 1) (hne : ¬ (a = 1 ∧ b = 1)) (h : dec (terms a b) ≠ []) : (1 : Int) ≤ (dec (terms a b)).getLast h := by
  by_cases hlt : b < a
  · exact dec_big b a hb hlt hg _ (List.getLast_mem h)
  · have he : a ≠ b := fun he => by subst he; rw [Nat.gcd_self] at hg; exact hne ⟨hg, hg⟩
    have e0 : terms a b = 0 :: terms b a := by
      rw [terms_cons _ hb]
      have e1 : ((a : Int) % (b : Int)).toNat = a := by rw [← Int.natCast_emod, Nat.mod_eq_of_lt (by omega)]; rfl
      rw [e1, ← Int.natCast_ediv, Nat.div_eq_of_lt (by omega)]; rfl
    have e2 : dec (terms a b) = 0 :: dec (terms b a) := by rw [e0, dec_cons (terms_ne _ (by omega))]
    have hne2 : dec (terms b a) ≠ [] := by
      intro h2
      have := dec_len (terms (b : Int) a)
      rw [h2] at this
      exact terms_ne (b : Int) (show a ≠ 0 by omega) (List.length_eq_zero_iff.1 this.symm)
    have e3 : (dec (terms a b)).getLast h = (dec (terms b a)).getLast hne2 := by
      simp only [e2]
      exact List.getLast_cons hne2
    rw [e3]
    exact dec_big a b (by omega) (by omega) (by rw [Nat.gcd_comm]; exact hg) _ (List.getLast_mem hne2)
/-- The path of a / b. -/
def pth (a b : Nat) : List Int := if a = 1 ∧ b = 1 then [] else dec (terms a b)
theorem pth_pos {a b : Nat} (ha : 0 < a) (hb : b ≠ 0) (hg : Nat.gcd a b = 1) : ∀ n ∈ pth a b, (0 : Int) ≤ n := by
  unfold pth; split
  · intro n hn; cases hn
  · exact dec_pos ha hb hg
/-- The bounds of a / b. -/
def bds (a b : Nat) : Int × Int × Int × Int := bnd (pth a b) true (0, 1, 1, 0)
theorem bds_facts {a b : Nat} (ha : 0 < a) (hb : b ≠ 0) (hg : Nat.gcd a b = 1) : ∃ p q r t : Nat, bds a b = (((p : Int), (q : Int), (r : Int), (t : Int)) : Int × Int × Int × Int) ∧ p + r = a ∧ q + t = b ∧ r * q = p * t + 1 ∧ (p = 0 → q = 1) ∧ 0 < p + q ∧ 0 < r + t := by
  have h1 := bnd_le (l := pth a b) (ev := true) (s := (0, 1, 1, 0)) (pth_pos ha hb hg) (by unfold pos4; decide)
  have h2 := bnd_det (pth a b) true (0, 1, 1, 0)
  have h3 : (bds a b).1 + (bds a b).2.2.1 = a ∧ (bds a b).2.1 + (bds a b).2.2.2 = b := by
    have := bnd_path b a true (0, 1, 1, 0) hb hg
    by_cases he : a = 1 ∧ b = 1
    · obtain ⟨rfl, rfl⟩ := he
      unfold bds pth; rw [if_pos ⟨rfl, rfl⟩]
      unfold bnd; decide
    · unfold bds pth; rw [if_neg he]
      have e := Prod.mk.inj this
      unfold com at e
      simp at e
      exact e
  unfold bds at h3
  obtain ⟨⟨x, y, z, u⟩, hs⟩ : ∃ s, bnd (pth a b) true (0, 1, 1, 0) = s := ⟨_, rfl⟩
  rw [hs] at h1 h2 h3
  unfold pos4 le4 at h1
  unfold det4 at h2
  simp at h1 h2 h3
  obtain ⟨⟨p1, p2, p3, p4⟩, _, _, _⟩ := h1
  obtain ⟨p, rfl⟩ := Int.eq_ofNat_of_zero_le p1
  obtain ⟨q, rfl⟩ := Int.eq_ofNat_of_zero_le p2
  obtain ⟨r, rfl⟩ := Int.eq_ofNat_of_zero_le p3
  obtain ⟨t, rfl⟩ := Int.eq_ofNat_of_zero_le p4
  have hd : r * q = p * t + 1 := by
    have : (r : Int) * q = p * t + 1 := by omega
    exact_mod_cast this
  refine ⟨p, q, r, t, hs, by omega, by omega, hd, fun h0 => ?_, ?_, ?_⟩
  · subst h0
    rw [Nat.zero_mul, Nat.zero_add] at hd
    exact Nat.dvd_one.1 ⟨r, by rw [Nat.mul_comm]; exact hd.symm⟩
  · rcases Nat.eq_zero_or_pos q with h | h
    · subst h; simp at hd
    · omega
  · rcases Nat.eq_zero_or_pos r with h | h
    · subst h; simp at hd
    · omega

end Go.Proofs.YtednobegombphaaDoor
