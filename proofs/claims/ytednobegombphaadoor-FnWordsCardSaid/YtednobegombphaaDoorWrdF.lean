/- What the law on words asks of them, in plain words. -/
import Derived.Test.YtednobegombphaaDoorWordSplitWord
import Derived.Test.YtednobegombphaaDoorWordCentralPart
import Derived.Test.YtednobegombphaaDoorWordTermsOfWord
import Derived.Test.YtednobegombphaaDoorWordIsBalanced
import Derived.Test.YtednobegombphaaDoorWordD
namespace Go.Proofs.YtednobegombphaaDoor
open Go.RowKit

theorem isC_chr {p q : Nat} (hp : 0 < p) (hq : 0 < q) (hg : Nat.gcd p q = 1) (hN : p + q ≤ 400) : isC (chr p q) = true ∧ okW (chr p q) = true ∧ ones (chr p q) = p ∧ zeros (chr p q) = q := by
  have h1 := ones_chr_all (p := p) (q := q) hp
  have h2 : zeros (chr p q) = q := by unfold zeros; rw [h1, chr_len]; omega
  have h3 : okW (chr p q) = true := by
    unfold okW
    rw [letter_chr, chr_len]
    simp
    omega
  refine ⟨?_, h3, h1, h2⟩
  unfold isC
  rw [h1, h2, h3]
  simp [hp, hq, hg]

/-- The word of a fraction has its slope, is balanced and is the word of a slope. -/
theorem chv_form (p q : Int) : ∃ (s : ByteArray) (c : Int), chv p q = .tuple #[.string s, .int .i64 c] ∧ (c = 0 → s.size ≤ 400 ∧ slp s.data.toList = .tuple #[.agg #[.int .i64 p, .int .i64 q], .int .i64 0] ∧ bal s.data.toList = true ∧ isC s.data.toList = true) := by
  unfold chv
  split
  · rename_i ho
    split
    · exact ⟨_, _, rfl, fun h => by cases h⟩
    · split
      · exact ⟨_, _, rfl, fun h => by cases h⟩
      · refine ⟨_, _, rfl, fun _ => ?_⟩
        obtain ⟨o1, o2, o3⟩ := okF_iff.1 ho
        obtain ⟨a, rfl⟩ : ∃ a : Nat, p = a := ⟨p.toNat, by omega⟩
        obtain ⟨b, rfl⟩ : ∃ b : Nat, q = b := ⟨q.toNat, by omega⟩
        have hg : Nat.gcd a b = 1 := o3
        obtain ⟨k1, k2, k3, k4⟩ := isC_chr (p := a) (q := b) (by omega) (by omega) hg (by omega)
        simp only [Int.toNat_natCast]
        refine ⟨?_, ?_, bal_chr (by omega) (by omega), k1⟩
        · show (chr a b).length ≤ 400
          rw [chr_len]; omega
        · show slp (chr a b) = _
          unfold slp
          rw [if_pos k2, k3, k4, if_neg (by omega)]
          have e : Int.gcd (a : Int) (b : Int) = 1 := hg
          rw [e]
          simp
  · exact ⟨_, _, rfl, fun h => by cases h⟩

/-- The two words of a word, one after the other, are the word. -/
theorem spv_form (s : ByteArray) : ∃ (x y : ByteArray) (c : Int), spv s.data.toList = .tuple #[.string x, .string y, .int .i64 c] ∧ (c = 0 → x ++ y = s ∧ x.size + y.size ≤ 400) := by
  unfold spv
  split
  · rename_i hc
    refine ⟨_, _, _, rfl, fun _ => ?_⟩
    obtain ⟨h1, h2, h3, h4, h5, h6, h7⟩ := isC_facts hc
    obtain ⟨p, q, r, t, eb, s1, s2, s3, s4, s5, s6⟩ := bds_facts h2 (show zeros s.data.toList ≠ 0 by omega) h4
    rw [eb]
    simp only [Int.toNat_natCast]
    have hs := chr_split s3 s4 s5 s6
    rw [s1, s2, h5] at hs
    have e : s = ⟨(wrd p q ++ wrd r t).toArray⟩ := ba_eq hs
    have e2 : (⟨(wrd p q).toArray⟩ ++ ⟨(wrd r t).toArray⟩ : ByteArray) = ⟨(wrd p q ++ wrd r t).toArray⟩ := ba_eq (by simp)
    refine ⟨e2.trans e.symm, ?_⟩
    have hl : s.data.toList.length ≤ 400 := h7
    rw [hs, List.length_append] at hl
    exact hl
  · exact ⟨_, _, _, rfl, fun h => by cases h⟩

/-- The central part of a word reads the same in both directions. -/
theorem ctp_form (s : ByteArray) : ∃ (t : ByteArray) (c : Int), ctp s = .tuple #[.string t, .int .i64 c] ∧ (c = 0 → t.size ≤ 400 ∧ ∀ (i : Nat) (h : i < t.size), t[i] = t[t.size - 1 - i]) := by
  unfold ctp
  split
  · split
    · rename_i hc
      refine ⟨_, _, rfl, fun _ => ?_⟩
      obtain ⟨h1, h2, h3, h4, h5, h6, h7⟩ := isC_facts hc
      have hlen : s.data.toList.length = s.size := by simp
      have hsz : (s.extract 1 (s.size - 1)).size = s.size - 1 - 1 := by simp
      refine ⟨by omega, fun i h => ?_⟩
      have hat : ∀ (k : Nat) (hk : k < s.size), s[k] = chl (ones s.data.toList) (zeros s.data.toList) k := by
        intro k hk
        have e : s[k] = s.data.toList[k]'(by omega) := by simp; rfl
        have e2 : ∀ (l : List UInt8) (hl : k < l.length), l = chr (ones s.data.toList) (zeros s.data.toList) → l[k] = chl (ones s.data.toList) (zeros s.data.toList) k := by
          intro l hl e
          subst e
          simp [chr]
        rw [e]
        exact e2 _ _ h5.symm
      rw [ByteArray.getElem_extract, ByteArray.getElem_extract, hat _ (by omega), hat _ (by omega)]
      have hg : Nat.gcd (ones s.data.toList) (ones s.data.toList + zeros s.data.toList) = 1 := by rw [Nat.gcd_self_add_right]; exact h4
      have := chl_sym (k := 1 + i) h2 hg (by omega) (by omega)
      rw [this]
      congr 1
      omega
    · exact ⟨_, _, rfl, fun h => by cases h⟩
  · exact ⟨_, _, rfl, fun h => by cases h⟩

end Go.Proofs.YtednobegombphaaDoor
