/- Contracts that the laws use: the length of the code, lists of numbers compared. Lists of strings as the laws compare them. What the law on sequences asks, in plain words: conjugates of a word of a slope, standard words, cutting sequences. Draws of the arguments of the law on words. Draws of the arguments of the law on sequences. -/
import Derived.Test.YthfhjgmlcilmkaaGreatDoorHeld
import Derived.Test.YthfhjgmlcilmkaaGreatDoorStrL
import Derived.Test.YthfhjgmlcilmkaaGreatDoorWrd2
import Derived.Test.YthfhjgmlcilmkaaGreatDoorConP
import Derived.Test.YthfhjgmlcilmkaaGreatDoorStdP
import Derived.Test.YthfhjgmlcilmkaaGreatDoorDrwW
import Derived.Test.YthfhjgmlcilmkaaGreatDoorDrwF
import Derived.Deep.RegionWith
namespace Go.Proofs.YthfhjgmlcilmkaaGreatDoor
open Go.RowKit

theorem bch {w w1 w2 : World} (h : Below w.heap.size w w1) (h2 : Below w1.heap.size w1 w2) : Below w.heap.size w w2 := bstep h h2 h.size
theorem Blk.bel {w w' : World} {g : Nat} {t : TypeId} {cs : Array Value} (h : Blk w g t cs) (hb : Below w.heap.size w w') : Blk w' g t cs := (hb.block g h.lt).trans h
theorem f6big_any (A : Option Addr) (n c : Nat) (w : World) (hn : n ≤ 9223372036854775807) :
    Calls Tryz.prog 4 #[.slice A n c] w fun e w' => e = .returned (.bool (decide (4096 < n))) ∧ w = w' := by
  have e : decide ((4096 : Int) < (n : Int)) = decide (4096 < n) := by
    by_cases h : 4096 < n
    · rw [decide_eq_true h, decide_eq_true (by omega)]
    · rw [decide_eq_false h, decide_eq_false (by omega)]
  go_enter Tryz.func4, Tryz.ntmps4
  go_wp2
  go_ret
  exact ⟨by rw [← e]; rfl, rfl⟩

theorem u8_rng {xs : List Int} (hw : ∀ z ∈ xs, (Lit.int .u8 z).wf = true) : ∀ x ∈ xs, 0 ≤ x ∧ x ≤ 255 := fun x hx => by
  have := hw x hx
  simp only [Lit.wf, Bool.and_eq_true, decide_eq_true_eq] at this
  exact this

theorem f6texts_any (A1 A2 : Option Addr) (n c1 c2 B : Nat) (xs : List ByteArray) (w : World) (hn : n ≤ 9223372036854775807) (h1 : Rd w B 1 A1 n (ssl xs)) (h2 : Rd w B 1 A2 n (ssl xs)) :
    Calls Tryz.prog 14 #[.slice A1 n c1, .slice A2 n c2] w fun e w' => e = .returned (.bool true) ∧ ∃ m, w' = w.drewN m := by
  have hl : xs.length = n := by have := h1.1; rw [ssl_len] at this; omega
  go_enter Tryz.func14, Tryz.ntmps14
  go_wp2
  go_loopw [5] (fun i wr => ∃ k m : Nat, i = .int .i64 k ∧ k ≤ n ∧ wr = w.drewN m) (fun i _ => n - (intOf i).toNat)
  case atStart => exact ⟨0, 0, rfl, by omega, rfl⟩
  case round =>
    obtain ⟨k, m, rfl, hk, rfl⟩ := hrel
    by_cases hlt : k < n
    · obtain ⟨b1, o1, rfl, _, e1⟩ := h1.cell hlt
      obtain ⟨b2, o2, rfl, _, e2⟩ := h2.cell hlt
      rw [ssl_at (by omega)] at e1 e2
      generalize xs[k] = x at *
      have hkz : (k : Int) < (n : Int) := by omega
      have hx := bn_self x
      clear h1 h2 hl
      go_wp2
      go_quiet (fail)
      go_wp2
      go_roundw
      case rel => exact ⟨k + 1, _, by go_num, by omega, rfl⟩
      case measure => simp [intOf]; omega
    · go_wp2
      go_ret
      exact ⟨rfl, _, rfl⟩
theorem f6textsL_any (v1 v2 : Value) (B1 B2 : Nat) (xs : List ByteArray) (w : World) (h1 : LstS w B1 v1 xs) (h2 : LstS w B2 v2 xs) :
    Calls Tryz.prog 14 #[v1, v2] w fun e w' => e = .returned (.bool true) ∧ Below w.heap.size w w' := by
  obtain ⟨A1, n, c1, rfl, hn, hb, h1⟩ := h1
  obtain ⟨A2, n2, c2, rfl, hn2, _, h2⟩ := h2
  obtain rfl : n2 = n := by omega
  refine (f6texts_any A1 A2 n2 c1 c2 _ xs w (by omega) (LstS.rd hn h1) (LstS.rd hn2 h2)).mono ?_
  rintro e w' ⟨rfl, m, rfl⟩
  exact ⟨rfl, belowN (Below.refl _ _) m⟩

theorem ones_app (a b : List UInt8) : ones (a ++ b) = ones a + ones b := by unfold ones; exact List.countP_append
theorem div_full {p N j : Nat} (hN : 0 < N) : (N + j) * p / N = p + j * p / N := by
  rw [Nat.add_mul, Nat.mul_add_div hN]
theorem ones_rot {p q k m : Nat} (hp : 0 < p) (hk : k < p + q) (hm : m ≤ p + q) : ones ((rot (chr p q) k).take m) + k * p / (p + q) = (k + m) * p / (p + q) := by
  have hl := chr_len p q
  have hsplit : ones ((chr p q).take k) + ones ((chr p q).drop k) = p := by
    rw [← ones_app, List.take_append_drop, ones_chr_all hp]
  have h0 := ones_chr (p := p) (q := q) hp (show k ≤ p + q by omega)
  unfold rot
  rw [List.take_append, ones_app, List.length_drop, hl]
  by_cases h : m ≤ p + q - k
  · have e : m - (p + q - k) = 0 := by omega
    rw [e, List.take_zero]
    have h1 := ones_chr (p := p) (q := q) hp (show k + m ≤ p + q by omega)
    rw [List.take_add, ones_app, h0] at h1
    simp only [ones, List.countP_nil] at *
    omega
  · have e1 : ((chr p q).drop k).take m = (chr p q).drop k := List.take_of_length_le (by rw [List.length_drop, hl]; omega)
    have e2 : ((chr p q).take k).take (m - (p + q - k)) = (chr p q).take (m - (p + q - k)) := by rw [List.take_take, Nat.min_eq_left (by omega)]
    rw [e1, e2, ones_chr hp (by omega)]
    have e3 : k + m = (p + q) + (m - (p + q - k)) := by omega
    rw [e3, div_full (by omega)]
    omega
theorem letter_cases {c : UInt8} (h : letter c = true) : c = 48 ∨ c = 49 := by
  unfold letter at h
  simpa using h
theorem lex_ones : ∀ {a b : List UInt8}, a.length = b.length → a.all letter = true → b.all letter = true → (∀ i, ones (a.take i) ≤ ones (b.take i)) → a ≤ b
  | [], [], _, _, _, _ => Std.le_refl _
  | [], _ :: _, h, _, _, _ => by simp at h
  | _ :: _, [], h, _, _, _ => by simp at h
  | x :: a, y :: b, hl, ha, hb, h => by
    simp only [List.all_cons, Bool.and_eq_true] at ha hb
    have h1 := h 1
    simp only [List.take_succ_cons, List.take_zero] at h1
    rw [List.cons_le_cons_iff]
    rcases letter_cases ha.1 with rfl | rfl <;> rcases letter_cases hb.1 with rfl | rfl
    · exact .inr ⟨rfl, lex_ones (by simpa using hl) ha.2 hb.2 (fun i => by
        have := h (i + 1)
        simpa [ones, List.take_succ_cons] using this)⟩
    · exact .inl (by decide)
    · simp [ones] at h1
    · exact .inr ⟨rfl, lex_ones (by simpa using hl) ha.2 hb.2 (fun i => by
        have := h (i + 1)
        simpa [ones, List.take_succ_cons] using this)⟩
theorem rot_letter {l : List UInt8} (h : l.all letter = true) (k : Nat) : (rot l k).all letter = true := by
  unfold rot
  rw [List.all_append, Bool.and_eq_true]
  rw [List.all_eq_true] at h
  exact ⟨List.all_eq_true.2 (fun c hc => h c (List.mem_of_mem_drop hc)), List.all_eq_true.2 (fun c hc => h c (List.mem_of_mem_take hc))⟩
theorem chr_least {p q k : Nat} (hp : 0 < p) (hg : Nat.gcd p (p + q) = 1) (h0 : 0 < k) (h1 : k < p + q) : chr p q < rot (chr p q) k := by
  have hl := chr_len p q
  have hle : chr p q ≤ rot (chr p q) k := by
    refine lex_ones (by rw [rot_len]) (letter_chr p q) (rot_letter (letter_chr p q) k) (fun i => ?_)
    have key : ∀ i, i ≤ p + q → ones ((chr p q).take i) ≤ ones ((rot (chr p q) k).take i) := by
      intro i hi
      have a1 := ones_rot (m := i) hp h1 hi
      have a2 := div_win (a := k * p) (b := i * p) (N := p + q) (by omega)
      rw [← Nat.add_mul] at a2
      rw [ones_chr hp hi]
      omega
    rcases Nat.lt_or_ge (p + q) i with h | h
    · have := key (p + q) (Nat.le_refl _)
      rw [List.take_of_length_le (by omega), List.take_of_length_le (by rw [rot_len]; omega)] at this
      rw [List.take_of_length_le (by omega), List.take_of_length_le (by rw [rot_len]; omega)]
      exact this
    · exact key i h
  refine Std.lt_of_le_of_ne hle (fun e => ?_)
  have a1 := ones_rot (m := p + q - k) hp h1 (by omega)
  rw [← e, ones_chr hp (by omega)] at a1
  have a2 := div_anti (k := k) (p := p) (N := p + q) (by omega) (by omega) (mod_ne hg h0 h1)
  have e3 : k + (p + q - k) = p + q := by omega
  rw [e3, Nat.mul_div_cancel_left _ (by omega)] at a1
  omega
theorem rot_ne {p q i j : Nat} (hp : 0 < p) (hg : Nat.gcd p (p + q) = 1) (hij : i < j) (hj : j < p + q) : rot (chr p q) i ≠ rot (chr p q) j := by
  intro e
  have a1 := ones_rot (q := q) (k := i) (m := p + q - j) hp (by omega) (by omega)
  have a2 := ones_rot (q := q) (k := j) (m := p + q - j) hp (by omega) (by omega)
  have a3 := ones_rot (q := q) (k := i) (m := p + q - i) hp (by omega) (by omega)
  have a4 := ones_rot (q := q) (k := j) (m := p + q - i) hp (by omega) (by omega)
  rw [e] at a1 a3
  have a5 := div_anti (k := j - i) (p := p) (N := p + q) (by omega) (by omega) (mod_ne hg (by omega) (by omega))
  have e1 : i + (p + q - j) = p + q - (j - i) := by omega
  have e2 : j + (p + q - j) = p + q := by omega
  have e3 : i + (p + q - i) = p + q := by omega
  have e4 : j + (p + q - i) = p + q + (j - i) := by omega
  rw [e1] at a1
  rw [e2, Nat.mul_div_cancel_left _ (by omega)] at a2
  rw [e3, Nat.mul_div_cancel_left _ (by omega)] at a3
  rw [e4, div_full (by omega)] at a4
  omega

/-- The conjugates of a word of a slope are as many as its letters, and the word itself is the first. -/
theorem conj_chr {p q : Nat} (hp : 0 < p) (hg : Nat.gcd p (p + q) = 1) {out : List (List UInt8)} (h : CR (chr p q) (p + q) out) : out.length = p + q ∧ out[0]? = some (chr p q) := by
  have hnd : out.Nodup := h.1.imp (fun hlt e => by subst e; exact Std.lt_irrefl hlt)
  have hnd2 : ((List.range (p + q)).map (rot (chr p q))).Nodup := by
    unfold List.Nodup
    rw [List.pairwise_map]
    refine List.pairwise_iff_getElem.2 (fun i j hi hj hij => ?_)
    simp only [List.length_range] at hi hj
    rw [List.getElem_range, List.getElem_range]
    exact rot_ne hp hg hij hj
  have hperm : out.Perm ((List.range (p + q)).map (rot (chr p q))) := (List.perm_ext_iff_of_nodup hnd hnd2).2 (fun y => by
    rw [h.2]
    simp only [List.mem_map, List.mem_range]
    constructor
    · rintro ⟨j, hj, rfl⟩; exact ⟨j, hj, rfl⟩
    · rintro ⟨j, hj, rfl⟩; exact ⟨j, hj, rfl⟩)
  have hlen : out.length = p + q := by rw [hperm.length_eq]; simp
  refine ⟨hlen, ?_⟩
  have h0 : 0 < out.length := by omega
  rw [List.getElem?_eq_getElem h0]
  congr 1
  obtain ⟨j, hj, he⟩ := (h.2 _).1 (List.getElem_mem h0)
  have hz : rot (chr p q) 0 = chr p q := by simp [rot]
  by_cases hj0 : j = 0
  · subst hj0; rw [he, hz]
  · exfalso
    have hlt := chr_least hp hg (show 0 < j by omega) hj
    rw [← he] at hlt
    obtain ⟨i, hi, hi2⟩ := List.getElem_of_mem ((h.2 (chr p q)).2 ⟨0, by omega, hz.symm⟩)
    by_cases e : i = 0
    · subst e
      rw [hi2] at hlt
      exact Std.lt_irrefl hlt
    · have := List.pairwise_iff_getElem.1 h.1 0 i h0 hi (by omega)
      rw [hi2] at this
      exact Std.lt_irrefl (Std.lt_trans this hlt)

/-- The lengths of standard words. -/
def Chain (ts : List Int) (out : List ByteArray) : Prop := ∀ i (h : i < out.length), 2 ≤ i → ∃ (t : Nat), ts[i]? = some (t : Int) ∧ (out[i]).size = t * (out[i - 1]'(by omega)).size + (out[i - 2]'(by omega)).size
theorem swr_chain (ts : List Int) (hpos : ∀ i (h : i < ts.length), 0 ≤ ts[i]) : ∀ (n k : Nat), ts.length - k = n → ∀ (a b : ByteArray) (acc out : List ByteArray), acc.length = k → k ≤ ts.length → Chain ts acc → (∀ (h : 1 ≤ acc.length), acc[acc.length - 1] = b) → (∀ (h : 2 ≤ acc.length), acc[acc.length - 2] = a) → swr (ts.drop k) a b acc = some out → Chain ts out ∧ out.length = ts.length
  | 0, k, hn, a, b, acc, out, hk, hkl, hc, _, _, h => by
    rw [List.drop_eq_nil_of_le (by omega)] at h
    injection h with h
    subst h
    exact ⟨hc, by omega⟩
  | n + 1, k, hn, a, b, acc, out, hk, hkl, hc, hb, ha, h => by
    rw [swr_cons (show k < ts.length by omega)] at h
    split at h
    · cases h
    · have hp := hpos k (by omega)
      have hat : ts[k]? = some (ts[k].toNat : Int) := by rw [List.getElem?_eq_getElem (by omega), Int.toNat_of_nonneg hp]
      have hsz := rp_size b a ts[k].toNat
      generalize ts[k].toNat = t at *
      generalize rp b a t = z at *
      refine swr_chain ts hpos n (k + 1) (by omega) b z (acc ++ [z]) out (by simp; omega) (by omega) ?_ (fun _ => by simp) (fun h2 => ?_) h
      · intro i hi h2
        by_cases e : i = k
        · subst e
          refine ⟨t, hat, ?_⟩
          have e0 : (acc ++ [z])[i]'hi = z := by simp [← hk]
          have e1 : (acc ++ [z])[i - 1]'(by omega) = b := by
            rw [List.getElem_append_left (by omega), ← hb (by omega)]
            congr 1; omega
          have e2 : (acc ++ [z])[i - 2]'(by omega) = a := by
            rw [List.getElem_append_left (by omega), ← ha (by omega)]
            congr 1; omega
          rw [e0, e1, e2, hsz]
        · have hi2 : i < acc.length := by simp at hi; omega
          obtain ⟨t', h3, h4⟩ := hc i hi2 h2
          refine ⟨t', h3, ?_⟩
          rw [List.getElem_append_left hi2, List.getElem_append_left (by omega), List.getElem_append_left (by omega)]
          exact h4
      · have h1 : 1 ≤ acc.length := by simp at h2; omega
        have e1 : (acc ++ [z])[(acc ++ [z]).length - 2]'(by omega) = acc[acc.length - 1] := by
          rw [List.getElem_append_left (by simp; omega)]
          congr 1
          simp
        rw [e1, hb h1]
theorem std_chain {ts : List Int} {l : List ByteArray} (h : StdR ts 0 l) : Chain ts l ∧ l.length = ts.length := by
  rcases h with ⟨_, h, _⟩ | ⟨hv, t, h0, ⟨_, h, _⟩ | ⟨ht, ⟨_, h, _⟩ | ⟨hs, _⟩⟩⟩
  · omega
  · omega
  · omega
  · have hp := hv.pos h0 ht
    exact swr_chain ts (fun i hi => (hp i hi).1) ts.length 0 (by omega) _ _ [] l rfl (by omega) (fun i hi => by simp at hi) (fun h => by simp at h) (fun h => by simp at h) hs
theorem swr_small (ts : List Int) : ∀ (n k : Nat), ts.length - k = n → ∀ (a b : ByteArray) (acc out : List ByteArray), k ≤ ts.length → (∀ x ∈ acc, x.size ≤ 400) → swr (ts.drop k) a b acc = some out → ∀ x ∈ out, x.size ≤ 400
  | 0, k, hn, a, b, acc, out, hkl, hc, h => by
    rw [List.drop_eq_nil_of_le (by omega)] at h
    injection h with h
    subst h
    exact hc
  | n + 1, k, hn, a, b, acc, out, hkl, hc, h => by
    rw [swr_cons (show k < ts.length by omega)] at h
    split at h
    · cases h
    · rename_i hs
      refine swr_small ts n (k + 1) (by omega) _ _ _ out (by omega) (fun x hx => ?_) h
      rcases List.mem_append.1 hx with hx | hx
      · exact hc x hx
      · rw [List.mem_singleton.1 hx, rp_size]; omega
theorem std_small {ts : List Int} {l : List ByteArray} (h : StdR ts 0 l) : (∀ x ∈ l, x.size ≤ 400) ∧ ∀ t, t ∈ ts → 0 ≤ t ∧ t ≤ 1000000000 := by
  rcases h with ⟨_, h, _⟩ | ⟨hv, t, h0, ⟨_, h, _⟩ | ⟨ht, ⟨_, h, _⟩ | ⟨hs, _⟩⟩⟩
  · omega
  · omega
  · omega
  · refine ⟨swr_small ts ts.length 0 (by omega) _ _ [] l (by omega) (fun x hx => by simp at hx) hs, fun t ht2 => ?_⟩
    obtain ⟨i, hi, rfl⟩ := List.getElem_of_mem ht2
    exact hv.pos h0 ht i hi

/-- Cutting sequences are balanced. -/
theorem cul_num {p q k : Nat} (hq : 0 < q) (h : p ≤ q) : cul p q k = 48 ∧ (k + 1) * p / q = k * p / q ∨ cul p q k = 49 ∧ (k + 1) * p / q = k * p / q + 1 := by
  obtain ⟨h1, h2⟩ := cut_step (k := k) hq h
  unfold cul
  rcases (show (k + 1) * p / q - k * p / q = 0 ∨ (k + 1) * p / q - k * p / q = 1 by omega) with e | e
  · rw [e]; exact .inl ⟨rfl, by omega⟩
  · rw [e]; exact .inr ⟨rfl, by omega⟩
theorem ones_cut {p q n : Nat} (hq : 0 < q) (h : p ≤ q) : ∀ {k : Nat}, k ≤ n → ones ((cut p q n).take k) = k * p / q
  | 0, _ => by simp [ones]
  | k + 1, hk => by
    rw [cut_succ (by omega), ones_snoc, ones_cut hq h (by omega)]
    rcases cul_num (k := k) hq h with ⟨e1, e2⟩ | ⟨e1, e2⟩
    · rw [e1, e2, if_neg (by decide)]; rfl
    · rw [e1, e2, if_pos rfl]
theorem letter_cut {p q n : Nat} (hq : 0 < q) (h : p ≤ q) : (cut p q n).all letter = true := by
  rw [List.all_eq_true]
  intro c hc
  obtain ⟨k, _, rfl⟩ := List.mem_map.1 hc
  rcases cul_num (k := k) hq h with ⟨e1, _⟩ | ⟨e1, _⟩ <;> rw [e1] <;> rfl
theorem bal_cut {p q n : Nat} (hq : 0 < q) (h : p ≤ q) (hn : 1 ≤ n ∧ n ≤ 400) : bal (cut p q n) = true := by
  have hl := cut_len p q n
  refine bal_yes ?_ (fun m h1 h2 => ?_)
  · unfold okW; rw [letter_cut hq h, hl]; simp; omega
  · rw [hl] at h2
    unfold fine
    rw [hl]
    have hw : ∀ j, j ≤ n - m → ((m * p / q : Nat) : Int) ≤ win (cut p q n) m j ∧ win (cut p q n) m j ≤ ((m * p / q : Nat) : Int) + 1 := by
      intro j hj
      unfold win
      rw [ones_cut hq h (by omega), ones_cut hq h (by omega)]
      have := div_win (a := j * p) (b := m * p) (N := q) hq
      rw [← Nat.add_mul] at this
      omega
    have h3 := lo_ge (l := cut p q n) (n := m) (i := n - m) (fun j hj => (hw j hj).1)
    have h4 := hi_le (l := cut p q n) (n := m) (i := n - m) (fun j hj => (hw j hj).2)
    exact decide_eq_true (by omega)

theorem drawConjugatesOf_any (A : Option Addr) (n c : Nat) (xs : List Int) (w : World) (h : Rd w w.heap.size 1 A n (u8l xs)) (hn : n ≤ 9223372036854775807) (hx : ∀ x ∈ xs, 0 ≤ x ∧ x ≤ 255) :
    Calls Tryz.prog 8 #[.slice A n c] w fun e w' => ∃ s : ByteArray, e = .returned (.string s) ∧ s.size ≤ 1000 ∧ Below w.heap.size w w' := by
  go_enter Tryz.func8, Tryz.ntmps8
  go_wp2_with fail
  refine (l00From_any A n c xs _ h hn hx).mono ?_
  rintro e w1 ⟨g, rfl, hs1, hb1⟩
  go_wp2_with fail
  refine (l23Draw_any g _ 0 _ (hs1.less (by omega))).mono ?_
  rintro e w2 ⟨s, rfl, hs, hs2, hg2⟩
  have B2 : Below w.heap.size w w2 := belSrc hb1 hs1 (Nat.le_refl _) hg2
  go_wp2_with fail
  go_ret
  exact ⟨s, rfl, hs, B2⟩

/-- The source stays behind growth that writes to one row which is not its own. -/
theorem Src.grownX {w w' : World} {g B k : Nat} (h : Src w g B k) {row : Option Nat} (hg : w.grownBy w' row) (h1 : row ≠ some g) (h2 : ∀ b, row = some b → B ≤ b) : Src w' g B k := by
  obtain ⟨A, n, c, xs, i, seed, a1, a2, a3, a4, a5, a6⟩ := h
  refine ⟨A, n, c, xs, i, seed, a1, a2, (hg.block g a3.lt (fun e => h1 e.symm)).trans a3, a4, ⟨a5.1, fun hn => ?_⟩, a6⟩
  obtain ⟨b, o, e, hb, hc⟩ := a5.2 hn
  refine ⟨b, o, e, hb, fun j v hv => ?_⟩
  have h3 := hc j v hv
  have hlt : b < w.heap.size := World.block_lt_of_cell? w _ h3
  rw [← h3]
  exact World.cell?_of_block (w := w) (a := ⟨b, o + j, none⟩) (hg.block b hlt (fun e => by have := h2 b e.symm; omega))

set_option maxRecDepth 100000 in
set_option maxHeartbeats 4000000 in
theorem l06Draw_any (g B K : Nat) (w : World) (h : Src w g B (K + 100)) :
    Calls Tryz.prog 18 #[.pointer (some ⟨g, 0, none⟩)] w fun e w' => ∃ p q : Int, e = .returned (.agg #[.int .i64 p, .int .i64 q]) ∧ Src w' g B K ∧ w.grownBy w' (some g) := by
  have hgl := h.lt
  have hBg := h.base_
  go_enter Tryz.func18, Tryz.ntmps18
  have h0 : Src (w.alloc (.cells #[.int .i64 0, .int .i64 0] 25)) g B (K + 100) := h.alloc _
  have hR0 := Blk.new w 25 #[.int .i64 0, .int .i64 0]
  have hG0 : w.grownBy (w.alloc (.cells #[.int .i64 0, .int .i64 0] 25)) (some g) := World.grownBy_alloc _ _ _
  go_wp2_with fail
  refine (one_any g B (K + 98) _ _ h0).mono ?_
  rintro e w1 ⟨b, rfl, hs1, hg1⟩
  have hR1 := hR0.grown hg1 (fun e => by injection e; omega)
  have hG1 := gtrans hG0 hg1
  clear h h0 hR0 hG0 hg1
  cases b
  · go_wp2_with fail
    refine (pick_any g B (K + 90) _ _ (hs1.less (by omega))).mono ?_
    rintro e w2 ⟨v, rfl, v0, v1, hs2, hg2⟩
    have hR2 := hR1.grown hg2 (fun e => by injection e; omega)
    have hG2 := gtrans hG1 hg2
    have v2 : v < 40 := by omega
    clear hs1 hR1 hG1 hg2 v1
    go_wp2_with fail
    refine (one_any g B (K + 80) _ _ (hs2.less (by omega))).mono ?_
    rintro e w3 ⟨b, rfl, hs3, hg3⟩
    have hR3 := hR2.grown hg3 (fun e => by injection e; omega)
    have hG3 := gtrans hG2 hg3
    clear hs2 hR2 hG2 hg3
    go_upto_if 12 with fail
    go_cut [3] (fun x wc => ∃ d : Int, x = .int .i64 d ∧ 1 ≤ d ∧ d ≤ 1000 ∧ Src wc g B (K + 60) ∧ Blk wc w.heap.size 25 #[.int .i64 0, .int .i64 0] ∧ w.grownBy wc (some g))
    case first =>
      cases b
      · go_wp2_with fail
        go_meet
        case rel => exact ⟨_, rfl, by omega, by omega, hs3.less (by omega), hR3, hG3⟩
      · go_wp2_with fail
        refine (pick_any g B (K + 60) _ _ (hs3.less (by omega))).mono ?_
        rintro e w4 ⟨u, rfl, u0, u1, hs4, hg4⟩
        go_wp2_with fail
        go_meet
        case rel => exact ⟨_, rfl, by omega, by omega, hs4, hR3.grown hg4 (fun e => by injection e; omega), gtrans hG3 hg4⟩
    case rest =>
      clear hs3 hR3 hG3 v0 v2
      obtain ⟨d, rfl, d0, d1, hs3, hR3, hG3⟩ := hcut
      go_wp2_with fail
      refine (pick_any g B (K + 50) _ _ (hs3.less (by omega))).mono ?_
      rintro e w4 ⟨u, rfl, u0, u1, hs4, hg4⟩
      have hR4 := hR3.grown hg4 (fun e => by injection e; omega)
      have hG4 := gtrans hG3 hg4
      have u2 : u ≤ 1000 := by omega
      have hM := l02Make_any u d
      generalize u / ((Int.gcd u d : Nat) : Int) = x at *
      generalize d / ((Int.gcd u d : Nat) : Int) = y at *
      clear hs3 hR3 hG3 hg4 u1
      go_wp2_with fail
      refine (hM _ (by omega) (by omega) (by omega)).mono ?_
      rintro e w5 ⟨rfl, b5⟩
      obtain ⟨c1, c2, c3, HR⟩ := hR4.after b5 hR4.lt
      have hs5 := hs4.below_ b5
      have hG5 := gbel hG4 b5
      clear hs4 hR4 hG4 hM b5
      go_wp2_with fail
      have z3 := HR.out.set2 (x := .int .i64 x) (y := .int .i64 y)
      obtain ⟨z4, _, _, _⟩ := z3.after (Below.refl _ _) z3.lt
      refine bodyPost_ret (v := .agg #[.int .i64 x, .int .i64 y]) (by simp [results, Tryz.results18, go_sem, z4]) rfl ⟨_, _, rfl, ?_, gnew (gnew hG5 (Nat.le_refl _) _) (Nat.le_refl _) _⟩
      exact ((hs5.cells_ _ _ (by omega) (by omega) _).cells_ _ _ (by omega) (by omega) _).less (by omega)
  · go_wp2_with fail
    refine (l02Bent_any g B K _ (hs1.less (by omega))).mono ?_
    rintro e w2 ⟨x, y, rfl, hs2, hg2⟩
    have hR2 := hR1.grown hg2 (fun e => by injection e; omega)
    have hG2 := gtrans hG1 hg2
    clear hs1 hR1 hG1 hg2
    obtain ⟨c1, c2, c3, HR⟩ := hR2.after (Below.refl _ _) hR2.lt
    go_wp2_with fail
    have z3 := HR.out.set2 (x := .int .i64 x) (y := .int .i64 y)
    obtain ⟨z4, _, _, _⟩ := z3.after (Below.refl _ _) z3.lt
    refine bodyPost_ret (v := .agg #[.int .i64 x, .int .i64 y]) (by simp [results, Tryz.results18, go_sem, z4]) rfl ⟨_, _, rfl, ?_, gnew (gnew hG2 (Nat.le_refl _) _) (Nat.le_refl _) _⟩
    exact ((hs2.cells_ _ _ (by omega) (by omega) _).cells_ _ _ (by omega) (by omega) _).less (by omega)

set_option maxRecDepth 100000 in
set_option maxHeartbeats 4000000 in
theorem drawCuttingSequence_any (A : Option Addr) (n c : Nat) (xs : List Int) (w : World) (h : Rd w w.heap.size 1 A n (u8l xs)) (hn : n ≤ 9223372036854775807) (hx : ∀ x ∈ xs, 0 ≤ x ∧ x ≤ 255) :
    Calls Tryz.prog 5 #[.slice A n c] w fun e w' => ∃ p q k : Int, e = .returned (.tuple #[.agg #[.int .i64 p, .int .i64 q], .int .i64 k]) ∧ Below w.heap.size w w' := by
  go_enter Tryz.func5, Tryz.ntmps5
  have b0 : Below w.heap.size w (w.alloc (.cells #[.int .i64 0, .int .i64 0] 25)) := by go_grown
  have hR0 := Blk.new w 25 #[.int .i64 0, .int .i64 0]
  have h1 := (h.below b0).more b0.size
  go_wp2_with fail
  refine (l00From_any A n c xs _ h1 hn hx).mono ?_
  rintro e w1 ⟨g, rfl, hs1, hb1⟩
  have hR1 : Blk w1 w.heap.size 25 #[.int .i64 0, .int .i64 0] := (hb1.block w.heap.size (by simp)).trans hR0
  have hgg := hs1.base_
  simp at hgg
  have B1 := bstep b0 hb1 b0.size
  clear h1 hR0
  go_wp2_with fail
  refine (l06Draw_any g _ 200 _ (hs1.less (by omega))).mono ?_
  rintro e w2 ⟨p, q, rfl, hs2, hg2⟩
  have hR2 := (hR1.grown hg2 (fun e => by injection e; omega)).alloc (.cells #[.int .i64 p, .int .i64 q] 25)
  have hT2 := Blk.new w2 25 #[.int .i64 p, .int .i64 q]
  have B2 : Below w.heap.size w w2 := belSrc B1 hs1 (by simp) hg2
  have B2' : Below w.heap.size w (w2.alloc (.cells #[.int .i64 p, .int .i64 q] 25)) := B2.alloc B2.size _
  have hs2' : Src (w2.alloc (.cells #[.int .i64 p, .int .i64 q] 25)) g (w.alloc (.cells #[.int .i64 0, .int .i64 0] 25)).heap.size 200 := hs2.alloc _
  have hne : w2.heap.size ≠ g := by have := hs2.lt; omega
  have hne2 : w.heap.size < w2.heap.size := by have := hs2.lt; omega
  clear hR1 hs1 hg2 hs2 B2 B1 b0 hb1
  go_wp2_with fail
  generalize w2.heap.size = bt at *
  generalize w2.alloc (.cells #[.int .i64 p, .int .i64 q] 25) = w3 at *
  refine (one_any g _ 190 _ _ (hs2'.less (by omega))).mono ?_
  rintro e w4 ⟨b, rfl, hs4, hg4⟩
  have hR4 := hR2.grown hg4 (fun e => by injection e; omega)
  have hT4 := hT2.grown hg4 (fun e => by injection e; omega)
  have B4 := B2'.grown hg4 B2'.size (fun k hk => by injection hk; omega)
  clear hR2 hT2 B2' hs2' hg4
  obtain ⟨a1, a2, a3, HT⟩ := hT4.after (Below.refl _ _) hT4.lt
  obtain ⟨c1, c2, c3, HR⟩ := hR4.after (Below.refl _ _) hR4.lt
  have x0 := a1 0
  have x1 := a1 1
  clear a1 hR4 hT4
  cases b
  · have hsd : Src w4.drew g (w.alloc (.cells #[.int .i64 0, .int .i64 0] 25)).heap.size (100 + 2) := hs4.less (by omega)
    go_wp2_with fail
    go_region_with (first
      | (go_at_call 21; (with_reducible refine (pick_any g _ 100 _ w4.drew hsd).mono ?_); (rintro e w5 ⟨u, rfl, u0, u1, hs5, hg5'⟩); (have hg5 : w4.grownBy w5 (some g) := gtrans (gdrewN w4 1 _) hg5'); (have hR5 := HR.out.grown hg5 (fun e => by injection e <;> omega)); (have hT5 := HT.out.grown hg5 (fun e => by injection e <;> omega)); (obtain ⟨f1, _, _, HT5⟩ := hT5.after (Below.refl _ _) hT5.lt); (obtain ⟨k1, _, _, HR5⟩ := hR5.after (Below.refl _ _) hR5.lt); (have x2 := f1 0); (have x3 := f1 1); (have u2 : u < 60 := by omega); (clear f1 hT5 hR5 hg5')))
    all_goals
      have B5 := B4.grown hg5 B4.size (fun k hk => by injection hk; omega)
      go_wp2_with fail
      have z3 := HR5.out.set2 (x := .int .i64 p) (y := .int .i64 q)
      obtain ⟨z4, _, _, _⟩ := z3.after (Below.refl _ _) z3.lt
      exact bodyPost_ret (v := .tuple #[.agg #[.int .i64 p, .int .i64 q], .int .i64 u]) (by simp [results, Tryz.results5, go_sem, z4]) rfl ⟨_, _, _, rfl, (B5.setCell (Nat.le_refl _) _).setCell (Nat.le_refl _) _⟩
  · have hsd : Src w4.drew g (w.alloc (.cells #[.int .i64 0, .int .i64 0] 25)).heap.size (100 + 2) := hs4.less (by omega)
    go_wp2_with fail
    go_region_with (first
      | (go_at_call 20; (refine (among_new g _ 100 _ _ w4.drew hsd (by rfl) (by rfl) (by omega) (by omega)).mono ?_); (rintro e w5 ⟨u, rfl, hs5, hg5'⟩); (have hg5 : w4.grownBy w5 (some g) := gtrans (gdrewN w4 1 _) hg5'); (have hR5 := HR.out.grown hg5 (fun e => by injection e <;> omega)); (have hT5 := HT.out.grown hg5 (fun e => by injection e <;> omega)); (obtain ⟨f1, _, _, HT5⟩ := hT5.after (Below.refl _ _) hT5.lt); (obtain ⟨k1, _, _, HR5⟩ := hR5.after (Below.refl _ _) hR5.lt); (have x2 := f1 0); (have x3 := f1 1); (clear f1 hT5 hR5 hg5')))
    all_goals
      have B5 := B4.grown hg5 B4.size (fun k hk => by injection hk; omega)
      go_wp2_with fail
      have z3 := HR5.out.set2 (x := .int .i64 p) (y := .int .i64 q)
      obtain ⟨z4, _, _, _⟩ := z3.after (Below.refl _ _) z3.lt
      exact bodyPost_ret (v := .tuple #[.agg #[.int .i64 p, .int .i64 q], .int .i64 u]) (by simp [results, Tryz.results5, go_sem, z4]) rfl ⟨_, _, _, rfl, (B5.setCell (Nat.le_refl _) _).setCell (Nat.le_refl _) _⟩

theorem Src.rowS {w : World} {g B k : Nat} (h : Src w g B k) {b i : Nat} (h1 : g ≠ b) (h2 : B ≤ b) (u : Value) : Src (w.setCell ⟨b, i, none⟩ u) g B k := h.cells_ b i h1 h2 u

set_option maxRecDepth 100000 in
set_option maxHeartbeats 4000000 in
theorem drawStandardWords_any (A : Option Addr) (n c : Nat) (xs : List Int) (w : World) (h : Rd w w.heap.size 1 A n (u8l xs)) (hn : n ≤ 9223372036854775807) (hx : ∀ x ∈ xs, 0 ≤ x ∧ x ≤ 255) :
    Calls Tryz.prog 11 #[.slice A n c] w fun e w' => ∃ (g m cap : Nat) (ts : List Int), e = .returned (.slice (some ⟨g, 0, none⟩) m cap) ∧ m ≤ 100 ∧ Row w' g 2 1 m cap (il ts) ∧ Below w.heap.size w w' := by
  obtain ⟨i0, hi, hz0, hz1, hz2⟩ := info_parts info_i64
  go_enter Tryz.func11, Tryz.ntmps11
  go_wp2_with fail
  refine (l00From_any A n c xs _ h hn hx).mono ?_
  rintro e w1 ⟨g, rfl, hs1, hb1⟩
  have hgb := hs1.base_
  clear h hx
  go_wp2_with fail
  refine (pick_any g _ 400 _ _ (hs1.less (by omega))).mono ?_
  rintro e w2 ⟨a, rfl, a0, a1, hs2, hg2⟩
  have hb2 : Below w.heap.size w w2 := belSrc hb1 hs1 (Nat.le_refl _) hg2
  have hg2l := hs2.lt
  clear hs1 hb1 hg2 a0 a1
  go_wp2_with fail
  have hs2' : Src (w2.alloc (.cells #[.int .i64 a] 2)) g w.heap.size 400 := hs2.alloc _
  have hr2 : Row (w2.alloc (.cells #[.int .i64 a] 2)) w2.heap.size 2 1 1 1 (il [a]) := Row.lit rfl rfl (by simp only [maxLen]; omega)
  have hb2' := hb2.alloc hb2.size (.cells #[.int .i64 a] 2)
  have hbs := hb2.size
  generalize w2.alloc (.cells #[.int .i64 a] 2) = w3 at *
  have hne : w2.heap.size ≠ g := by omega
  generalize w2.heap.size = bb at *
  refine (pick_any g _ 390 _ _ (hs2'.less (by omega))).mono ?_
  rintro e w4 ⟨k, rfl, k0, k1, hs4, hg4⟩
  have hr4 := hr2.grown hg4 (fun e => by injection e; omega)
  have hb4 := hb2'.grown hg4 hb2'.size (fun k hk => by injection hk; omega)
  obtain ⟨k, rfl⟩ := Int.eq_ofNat_of_zero_le k0
  have k2 : k ≤ 4 := by omega
  clear hs2 hs2' hb2 hb2' hr2 hg4 k0 k1 hg2l
  go_wp2_with fail
  go_loopw [4, 5] (fun v iv wr => ∃ (j gg m cap : Nat) (ts : List Int), iv = .int .i64 j ∧ j ≤ 4 ∧ v = .slice (some ⟨gg, 0, none⟩) m cap ∧ 1 ≤ m ∧ m + j ≤ 10 ∧ w.heap.size ≤ gg ∧ gg ≠ g ∧ Row wr gg 2 1 m cap (il ts) ∧ Src wr g w.heap.size (100 + 10 * j) ∧ Below w.heap.size w wr) (fun _ iv _ => (intOf iv).toNat)
  case atStart => exact ⟨k, bb, 1, 1, [a], rfl, k2, rfl, by omega, by omega, hbs, hne, hr4, hs4.less (by omega), hb4⟩
  case round =>
    clear hr4 hs4 hb4 k2 hne hbs
    obtain ⟨j, gg, m, cap, ts, rfl, hj, rfl, hm1, hm, hgg, hne, hrow, hsr, hbel⟩ := hrel
    have hcap := hrow.cap_
    have HW := hide hrow
    have hgl := hrow.lt
    clear hrow
    by_cases hj0 : j = 0
    · subst hj0
      go_wp2_with fail
      refine (pick_any g _ 90 _ _ (hsr.less (by omega))).mono ?_
      rintro e w5 ⟨v, rfl, v0, v1, hs5, hg5⟩
      have HW5 := hide (HW.out.grown hg5 (fun e => by injection e; omega))
      have hb5 := hbel.grown hg5 hbel.size (fun k hk => by injection hk; omega)
      have s5 := hb5.size
      clear HW hg5 hsr hbel v1
      rcases (show v = 0 ∨ v = 1 ∨ 1 < v by omega) with rfl | rfl | h2
      · go_wp2_with fail
        refine (among_new g _ 80 _ 5 _ (hs5.less (by omega)) (by rfl) (by rfl) (by omega) (by omega)).mono ?_
        rintro e w6 ⟨y, rfl, hs6, hg6⟩
        have HW6 := hide (HW5.out.grown hg6 (fun e => by injection e; omega))
        have hb6 := hb5.grown hg6 hb5.size (fun k hk => by injection hk; omega)
        have hl6 : ts.length = m := by have := HW6.out.len; rw [il_len] at this; omega
        have c1 := HW6.out.cell (il_at (show 0 < ts.length by omega))
        have f1 := HW6.out.frozen 0
        have hst := HW6.out.store 0 (.int .i64 y)
        have hset : (il ts).set 0 (.int .i64 y) = il (ts.set 0 y) := by simp [il, List.map_set]
        rw [hset] at hst
        have HST := hide hst
        generalize ts[0]'(by omega) = x0 at c1
        clear hst hset hs6 hs5 hg6 hb5 HW5 HW6
        have i1 : (0 : Int) < (m : Int) := by omega
        go_wp2_with fail
        go_ret
        exact ⟨gg, m, cap, _, rfl, by omega, HST.out, hb6.setCell (by show w.heap.size ≤ gg; omega) _⟩
      · go_wp2_with fail
        refine (among_new g _ 80 _ 3 _ (hs5.less (by omega)) (by rfl) (by rfl) (by omega) (by omega)).mono ?_
        rintro e w6 ⟨y, rfl, hs6, hg6⟩
        have HW6 := hide (HW5.out.grown hg6 (fun e => by injection e; omega))
        have hb6 := hb5.grown hg6 hb5.size (fun k hk => by injection hk; omega)
        have s6 := hb6.size
        clear hs6 hs5 hg6 hb5 HW5
        go_wp2_with (at_builtin; refine wpList_append_lies _ rfl (.tmp 34) (.tmp 38) _ rfl w.heap.size 2 i0 _ 1 8 Tryz.underlying34 hi hz0 hz1 hz2 rfl (by omega) (.slice (some ⟨gg, 0, none⟩) m cap) m (il ts) (by rfl) ((HW6.out.alloc _).own hgg) ⟨w6.heap.size, 0, none⟩ 1 1 (il [y]) (by rfl) (by rfl) (news_new (by simp)) (one_il _) (by omega) (by simp only [maxLen]; omega) (by omega) (by simp; omega) (w6.heap.size + 1) (by simp) ?_; intro g1 c1 w7 hown1 hgrow1 hat1 hlt1)
        rw [← il_append] at hown1
        have hr7 := (Row.of_own hown1).1
        have hb7 : Below w.heap.size w w7 := (hb6.alloc s6 _).grown hgrow1 (by simp; omega) (fun k h => by simp [Value.ownBlock] at h; omega)
        clear hown1 hgrow1 hat1
        go_wp2_with fail
        go_ret
        exact ⟨g1, m + 1, c1, _, rfl, by omega, hr7, hb7⟩
      · have c0 : (v == 0) = false := by simp; omega
        have c1 : (v == 1) = false := by simp; omega
        go_wp2_with fail
        go_ret
        exact ⟨gg, m, cap, ts, rfl, by omega, HW5.out, hb5⟩
    · have i1 : (0 : Int) < (j : Int) := by omega
      obtain ⟨i, rfl⟩ : ∃ i, j = i + 1 := ⟨j - 1, by omega⟩
      go_wp2_with fail
      refine (pick_any g _ (100 + 10 * i) _ _ (hsr.less (by omega))).mono ?_
      rintro e w5 ⟨v, rfl, v0, v1, hs5, hg5⟩
      have HW5 := hide (HW.out.grown hg5 (fun e => by injection e; omega))
      have hb5 := hbel.grown hg5 hbel.size (fun k hk => by injection hk; omega)
      have s5 := hb5.size
      have v2 : v < 3 := by omega
      have hg5l := hs5.lt
      clear HW hg5 hsr hbel v1
      go_wp2_with (at_builtin; refine wpList_append_lies _ rfl (.tmp 17) (.tmp 21) _ rfl w.heap.size 2 i0 _ 1 8 Tryz.underlying34 hi hz0 hz1 hz2 rfl (by omega) (.slice (some ⟨gg, 0, none⟩) m cap) m (il ts) (by rfl) ((HW5.out.alloc _).own hgg) ⟨w5.heap.size, 0, none⟩ 1 1 (il [1 + v]) (by rfl) (by rfl) (news_new (by simp)) (one_il _) (by omega) (by simp only [maxLen]; omega) (by omega) (by simp; omega) (w5.heap.size + 1) (by simp) ?_; intro g1 c1 w7 hown1 hgrow1 hat1 hlt1)
      rw [← il_append] at hown1
      have hr7 := (Row.of_own hown1)
      have hb7 : Below w.heap.size w w7 := (hb5.alloc s5 _).grown hgrow1 (by simp; omega) (fun k h => by simp [Value.ownBlock] at h; omega)
      have hne1 : g1 ≠ g := by
        rcases hat1 with h | h
        · simp [Value.ownBlock] at h; omega
        · omega
      have hs7 : Src w7 g w.heap.size (100 + 10 * i) := (hs5.alloc _).grownX hgrow1 (by simp [Value.ownBlock]; omega) (by simp [Value.ownBlock]; omega)
      clear hown1 hgrow1 hat1
      go_wp2_with fail
      go_roundw
      case rel => exact ⟨i, g1, m + 1, c1, ts ++ [1 + v], by first | rfl | go_num, by omega, rfl, by omega, by omega, hr7.2, hne1, hr7.1, hs7, hb7⟩
      case measure => first | (simp [intOf]; done) | (simp [intOf]; omega)

end Go.Proofs.YthfhjgmlcilmkaaGreatDoor
