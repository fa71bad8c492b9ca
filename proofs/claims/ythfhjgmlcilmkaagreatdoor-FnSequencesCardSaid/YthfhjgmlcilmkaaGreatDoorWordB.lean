/- IsBalanced in the program. -/
import Derived.Test.YthfhjgmlcilmkaaGreatDoorWordS
namespace Go.Proofs.YthfhjgmlcilmkaaGreatDoor
open Go.RowKit

theorem win_succ {s : ByteArray} (hl : s.data.toList.all letter = true) {n j k : Nat} (hk : k = n + j) (h : k < s.size) (hj : j < s.size) :
    win s.data.toList n (j + 1) = win s.data.toList n j + ((s[k].toNat : Int) - (s[j].toNat : Int)) := by
  subst hk
  have e1 := ones_take s h hl
  have e2 := ones_take s (show j < s.size by omega) hl
  unfold win
  have e3 : j + 1 + n = n + j + 1 := by omega
  have e4 : j + n = n + j := by omega
  rw [e3, e4]
  omega
theorem win_zero (l : List UInt8) (n : Nat) : win l n 0 = (ones (l.take n) : Int) := by
  unfold win
  rw [Nat.zero_add]
  simp [ones]
theorem letter_take {l : List UInt8} (h : l.all letter = true) (n : Nat) : (l.take n).all letter = true := by
  rw [List.all_eq_true] at h ⊢
  exact fun x hx => h x (List.mem_of_mem_take hx)

set_option maxRecDepth 100000 in
set_option maxHeartbeats 1000000 in
theorem implIsBalanced_any (s : ByteArray) (w : World) (hs : s.size ≤ 9223372036854775807) :
    Calls Tryz.prog 16 #[.string s] w fun e w' => e = .returned (.bool (bal s.data.toList)) ∧ Below w.heap.size w w' := by
  have hlen : s.data.toList.length = s.size := by simp
  have hW := isWord_any s
  by_cases ho : okW s.data.toList = true
  · rw [ho] at hW
    obtain ⟨ha, k1, k2⟩ := okW_all ho
    rw [hlen] at k1 k2
    have HA := hide ha
    have HO := hide ho
    have HL := hide hlen
    clear ha ho hlen
    go_enter Tryz.func16, Tryz.ntmps16
    go_wp2_with fail
    refine (hW _ hs).mono ?_
    rintro e w1 ⟨rfl, hb⟩
    clear hW
    go_wp2_with fail
    go_loopw [3] (fun i wr => ∃ n : Nat, i = .int .i64 n ∧ 1 ≤ n ∧ n ≤ s.size ∧ (∀ m, 1 ≤ m → m < n → fine s.data.toList m = true) ∧ Below w.heap.size w wr) (fun i _ => s.size - (intOf i).toNat)
    case atStart => exact ⟨1, rfl, by omega, by omega, fun m h1 h2 => by omega, hb⟩
    case round =>
      obtain ⟨n, rfl, n1, n2, hf, hb2⟩ := hrel
      have HF := hide hf
      clear hf
      by_cases hlt : n < s.size
      · have hx : (s.extract 0 n).data.toList = s.data.toList.take n := by
          simp [ByteArray.extract, ByteArray.copySlice]
        have hxs : (s.extract 0 n).size = n := by simp; omega
        have hC := countLetters_any (s.extract 0 n) wr (by omega) (by rw [hx]; exact letter_take HA.out n)
        rw [hx, ← win_zero] at hC
        clear hx
        have hz0 := win_bd s.data.toList n 0
        rw [HL.out] at hz0
        generalize hz : win s.data.toList n 0 = z at *
        have HZ := hide hz
        clear hz hxs
        go_wp2_with fail
        refine hC.mono ?_
        rintro e w2 ⟨rfl, rfl⟩
        clear hC
        go_wp2_with fail
        have hbw := hb2
        go_loopw [4, 6, 7, 8] (fun a b c i wq => ∃ k j : Nat, ∃ x y z : Int, i = .int .i64 (k : Int) ∧ k = n + j ∧ k ≤ s.size ∧ a = .int .i64 x ∧ b = .int .i64 y ∧ c = .int .i64 z ∧
          (win s.data.toList n j = x ∧ lo s.data.toList n j = y ∧ hi s.data.toList n j = z) ∧ Below w.heap.size w wq) (fun _ _ _ i _ => s.size - (intOf i).toNat)
        case atStart => exact ⟨n, 0, z, z, z, rfl, rfl, by omega, rfl, rfl, rfl, ⟨HZ.out, HZ.out, HZ.out⟩, hb2⟩
        case round =>
          obtain ⟨k, j, x, y, v, rfl, hkj, hk, rfl, rfl, rfl, hxyz, hb3⟩ := hrel
          obtain ⟨ex, ey, ev⟩ := hxyz
          have bx := win_bd s.data.toList n j
          have by1 := lo_bd s.data.toList n j
          have bv := hi_bd s.data.toList n j
          rw [HL.out, ex] at bx
          rw [HL.out, ey] at by1
          rw [HL.out, ev] at bv
          by_cases hlj : k < s.size
          · have hjs : j < s.size := by omega
            have hw := win_succ HA.out (k := k) hkj hlj hjs
            have hbx2 := win_bd s.data.toList n (j + 1)
            rw [HL.out] at hbx2
            have hlo : lo s.data.toList n (j + 1) = min y (win s.data.toList n (j + 1)) := by rw [← ey]; rfl
            have hhi : hi s.data.toList n (j + 1) = max v (win s.data.toList n (j + 1)) := by rw [← ev]; rfl
            rw [ex] at hw
            obtain ⟨x2, hx2⟩ : ∃ x2, win s.data.toList n (j + 1) = x2 := ⟨_, rfl⟩
            rw [hx2] at hw hbx2 hlo hhi
            have HE := hide (And.intro hx2 (And.intro hlo hhi))
            clear hx2 hlo hhi ex ey ev
            have p1 : (s[k].toNat : Int) ≤ 255 := by have := UInt8.toNat_lt s[k]; omega
            have p2 : (s[j].toNat : Int) ≤ 255 := by have := UInt8.toNat_lt s[j]; omega
            have p3 : 0 ≤ (s[k].toNat : Int) := Int.natCast_nonneg _
            have p4 : 0 ≤ (s[j].toNat : Int) := Int.natCast_nonneg _
            have hcan : (k : Int) - n = j := by omega
            have HKJ := hide hkj
            clear hkj
            have s1 : IntKind.i64.wrap ((s[k].toNat : Int) - (s[j].toNat : Int)) = (s[k].toNat : Int) - (s[j].toNat : Int) := IntWalk.i64_in _ (by omega)
            have s2 : IntKind.i64.wrap (x + ((s[k].toNat : Int) - (s[j].toNat : Int))) = x2 := by rw [← hw]; exact IntWalk.i64_in _ (by omega)
            have s3 : IntKind.i64.wrap ((k : Int) - n) = j := by rw [hcan]; exact IntWalk.i64_in _ (by omega)
            have s4 : IntKind.i64.wrap (s[k].toNat : Int) = s[k].toNat := IntWalk.i64_in _ (by omega)
            have s5 : IntKind.i64.wrap (s[j].toNat : Int) = s[j].toNat := IntWalk.i64_in _ (by omega)
            clear hw
            go_wp2_with fail
            go_quiet (fail)
            go_wp2_with fail
            refine ⟨⟨k + 1, j + 1, x2, min y x2, max v x2, by go_num, by have := HKJ.out; omega, by omega, rfl, rfl, rfl, ⟨HE.out.1, ?_, ?_⟩, belowN hb3 _⟩, by simp [intOf]; omega⟩
            · exact HE.out.2.1
            · exact HE.out.2.2
          · have hkn : k = s.size := by omega
            have hjn : s.data.toList.length - n = j := by rw [HL.out]; omega
            have hfin : fine s.data.toList n = decide (v - y ≤ 1) := by unfold fine; rw [hjn, ey, ev]
            clear hjn ex ey ev hkj
            by_cases hd : v - y ≤ 1
            · have HN := hide (show fine s.data.toList n = true by rw [hfin]; exact decide_eq_true hd)
              have d1 : decide (1 < v - y) = false := decide_eq_false (by omega)
              clear hfin
              go_wp2_with fail
              go_roundw
              case rel =>
                refine ⟨n + 1, by go_num, by omega, by omega, fun m h1 h2 => ?_, hb3⟩
                by_cases hm : m = n
                · rw [hm]; exact HN.out
                · exact HF.out m h1 (by omega)
              case measure => simp [intOf]; omega
            · have HR := hide (bal_no n1 (by rw [HL.out]; exact hlt) (show fine s.data.toList n = false by rw [hfin]; exact decide_eq_false hd))
              have d1 : decide (1 < v - y) = true := decide_eq_true (by omega)
              clear hfin
              go_wp2_with fail
              go_ret
              exact ⟨by rw [HR.out]; rfl, hb3⟩
      · have HR := hide (bal_yes HO.out (fun m h1 h2 => HF.out m h1 (by rw [HL.out] at h2; omega)))
        go_wp2_with fail
        go_ret
        exact ⟨by rw [HR.out]; rfl, hb2⟩
  · have hf : okW s.data.toList = false := by simpa using ho
    have HR := hide (bal_bad hf)
    rw [hf] at hW
    clear hlen
    go_enter Tryz.func16, Tryz.ntmps16
    go_wp2_with fail
    refine (hW _ hs).mono ?_
    rintro e w1 ⟨rfl, hb⟩
    go_wp2_with fail
    go_ret
    exact ⟨by rw [HR.out]; rfl, hb⟩

end Go.Proofs.YthfhjgmlcilmkaaGreatDoor
