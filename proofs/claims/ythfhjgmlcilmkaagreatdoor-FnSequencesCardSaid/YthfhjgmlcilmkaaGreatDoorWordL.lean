/- Letters of a text: which texts are words, and how many of their letters are ones. -/
import Derived.Test.YthfhjgmlcilmkaaGreatDoorWrd
namespace Go.Proofs.YthfhjgmlcilmkaaGreatDoor
open Go.RowKit

theorem letter_iff {c : UInt8} : letter c = true ↔ (c.toNat : Int) = 48 ∨ (c.toNat : Int) = 49 := by
  unfold letter
  constructor
  · intro h
    simp at h
    rcases h with rfl | rfl
    · exact .inl rfl
    · exact .inr rfl
  · rintro (h | h)
    · have : c = 48 := UInt8.toNat_inj.1 (by show c.toNat = 48; omega)
      subst this; rfl
    · have : c = 49 := UInt8.toNat_inj.1 (by show c.toNat = 49; omega)
      subst this; rfl
theorem all_snoc {f : UInt8 → Bool} {l : List UInt8} {c : UInt8} : (l ++ [c]).all f = (l.all f && f c) := by simp
theorem all_take_no {s : ByteArray} {f : UInt8 → Bool} {k : Nat} (hk : k < s.size) (h : f s[k] = false) : s.data.toList.all f = false := by
  rw [← Bool.not_eq_true]
  intro ha
  rw [all_at ha k hk] at h
  cases h

set_option maxHeartbeats 1000000 in
theorem l23Ok_any (s : ByteArray) (w : World) (hs : s.size ≤ 9223372036854775807) :
    Calls Tryz.prog 31 #[.string s] w fun e w' => e = .returned (.bool (okW s.data.toList)) ∧ w = w' := by
  have hlen : s.data.toList.length = s.size := by simp
  go_enter Tryz.func31, Tryz.ntmps31
  go_wp2
  go_loopw [3] (fun i wr => ∃ k : Nat, i = .int .i64 k ∧ k ≤ s.size ∧ (s.data.toList.take k).all letter = true ∧ wr = w) (fun i _ => s.size - (intOf i).toNat)
  case atStart => exact ⟨0, rfl, Nat.zero_le _, rfl, rfl⟩
  case round =>
    obtain ⟨k, rfl, hk, ha, rfl⟩ := hrel
    have HA := hide ha
    clear ha
    by_cases hlt : k < s.size
    · by_cases hc : letter s[k] = true
      · have hs2 : (s.data.toList.take (k + 1)).all letter = true := by rw [take_snoc s k hlt, all_snoc, HA.out, hc]; rfl
        have HS := hide hs2
        rcases letter_iff.1 hc with h | h
        · clear hs2 hc
          go_wp2
          go_roundw
          case rel => exact ⟨k + 1, by go_num, by omega, HS.out, trivial⟩
          case measure => simp [intOf]; omega
        · clear hs2 hc
          go_wp2
          go_roundw
          case rel => exact ⟨k + 1, by go_num, by omega, HS.out, trivial⟩
          case measure => simp [intOf]; omega
      · have hf : letter s[k] = false := by simpa using hc
        have HR := hide (show okW s.data.toList = false by unfold okW; rw [all_take_no hlt hf]; rfl)
        have n1 : ¬ (s[k].toNat : Int) = 48 := fun h => hc (letter_iff.2 (.inl h))
        have n2 : ¬ (s[k].toNat : Int) = 49 := fun h => hc (letter_iff.2 (.inr h))
        have b1 : ((s[k].toNat : Int) != 48) = true := by simp [n1]
        have b2 : ((s[k].toNat : Int) != 49) = true := by simp [n2]
        clear hc hf n1 n2
        go_wp2
        go_ret
        exact ⟨by rw [HR.out]; rfl, rfl⟩
    · have e : s.data.toList.take k = s.data.toList := List.take_of_length_le (by rw [hlen]; omega)
      have ha := HA.out
      rw [e] at ha
      have HR := hide (show okW s.data.toList = inB (s.size : Int) 1 400 by
        unfold okW
        rw [ha, hlen, Bool.true_and]
        unfold inB
        rw [Bool.eq_iff_iff]; simp; omega)
      clear e ha
      go_wp2_with fail
      refine (l00In_any _ _ _ _).mono ?_
      rintro e w1 ⟨rfl, rfl⟩
      go_wp2
      go_ret
      exact ⟨by rw [HR.out]; rfl, rfl⟩

theorem ones_at {s : ByteArray} {k : Nat} (h : k < s.size) : ones (s.data.toList.take (k + 1)) = ones (s.data.toList.take k) + if (s[k].toNat : Int) = 49 then 1 else 0 := by
  rw [take_snoc s k h, ones_snoc]
  by_cases e : s[k] = 49
  · rw [if_pos e, if_pos (by rw [e]; rfl)]
  · rw [if_neg e, if_neg (fun h2 => e (UInt8.toNat_inj.1 (by show s[k].toNat = 49; omega)))]

theorem countLetters_any (s : ByteArray) (w : World) (hs : s.size ≤ 400) (ha : s.data.toList.all letter = true) :
    Calls Tryz.prog 37 #[.string s] w fun e w' => e = .returned (.tuple #[.int .i64 (ones s.data.toList), .int .i64 (zeros s.data.toList)]) ∧ w = w' := by
  have hlen : s.data.toList.length = s.size := by simp
  have HA := hide ha
  clear ha
  go_enter Tryz.func37, Tryz.ntmps37
  go_wp2
  go_loopw [4, 8] (fun n i wr => ∃ k m : Nat, n = .int .i64 m ∧ i = .int .i64 k ∧ k ≤ s.size ∧ m ≤ k ∧ ones (s.data.toList.take k) = m ∧ wr = w) (fun _ i _ => s.size - (intOf i).toNat)
  case atStart => exact ⟨0, 0, rfl, rfl, Nat.zero_le _, Nat.le_refl _, rfl, rfl⟩
  case round =>
    obtain ⟨k, m, rfl, rfl, hk, hm, ho, rfl⟩ := hrel
    have HO := hide ho
    clear ho
    by_cases hlt : k < s.size
    · have hn := ones_at hlt
      rw [HO.out] at hn
      rcases letter_iff.1 (all_at HA.out k hlt) with h | h
      · rw [if_neg (by omega)] at hn
        have HN := hide hn
        clear hn
        go_wp2
        go_roundw
        case rel => exact ⟨k + 1, m, by go_num, by go_num, by omega, by omega, HN.out, trivial⟩
        case measure => simp [intOf]; omega
      · rw [if_pos h] at hn
        have HN := hide hn
        clear hn
        go_wp2
        go_roundw
        case rel => exact ⟨k + 1, m + 1, by go_num, by go_num, by omega, by omega, HN.out, trivial⟩
        case measure => simp [intOf]; omega
    · have e : s.data.toList.take k = s.data.toList := List.take_of_length_le (by rw [hlen]; omega)
      have ho := HO.out
      rw [e] at ho
      have HR := hide (show (.tuple #[.int .i64 (ones s.data.toList), .int .i64 (zeros s.data.toList)] : Value) = .tuple #[.int .i64 m, .int .i64 ((s.size : Int) - m)] by
        unfold zeros; rw [ho, hlen]; simp; omega)
      clear e ho
      go_wp2
      go_returns
      exact ⟨by rw [HR.out]; first | done | rfl, rfl⟩

end Go.Proofs.YthfhjgmlcilmkaaGreatDoor
