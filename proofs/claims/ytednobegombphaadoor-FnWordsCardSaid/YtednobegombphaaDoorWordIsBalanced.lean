/- IsBalanced in the reference, and the law. -/
import Derived.Test.YtednobegombphaaDoorWordB
import Derived.Test.YtednobegombphaaDoorInts
import Derived.Test.YtednobegombphaaDoorFrac
import Derived.Deep.RegionLaw
namespace Go.Proofs.YtednobegombphaaDoor
open Go.RowKit

theorem Row.drew_ {w : World} {g k n cap : Nat} {e : TypeId} {xs : List Value} (h : Row w g e k n cap xs) : Row w.drew g e k n cap xs := h

theorem qS2 {P : Program} {f : Nat} {args : Array Value} {w : World} {v : Value} {r n : Nat} (h : Calls P f args (w.drewN (r + n)) fun e w' => e = .returned v ∧ w.drewN (r + n) = w') : Calls P f args (w.drewN (r + n)) fun e w' => e = .returned v ∧ ∃ m, w' = w.drewN (r + m) :=
  h.mono fun _ _ ⟨h1, h2⟩ => ⟨h1, n, h2.symm⟩

/-- How many ones stand ahead of each letter. -/
def pre (l : List UInt8) (k : Nat) : List Int := (List.range k).map fun i => (ones (l.take i) : Int)
theorem pre_len (l : List UInt8) (k : Nat) : (pre l k).length = k := by simp [pre]
theorem pre_succ (l : List UInt8) (k : Nat) : pre l (k + 1) = pre l k ++ [(ones (l.take k) : Int)] := by simp [pre, List.range_succ]
theorem pre_at {l : List UInt8} {k i : Nat} (h : i < k) : (il (pre l k))[i]? = some (.int .i64 (ones (l.take i))) := by
  rw [il_at (by rw [pre_len]; exact h)]
  simp [pre]

theorem l00Min_any (a b : Int) (w : World) :
    Calls Tryd.prog 48 #[.int .i64 a, .int .i64 b] w fun e w' => e = .returned (.int .i64 (min a b)) ∧ w = w' := by
  go_enter Tryd.func48, Tryd.ntmps48
  by_cases h : a < b
  · have e : min a b = a := by omega
    go_wp2
    go_ret
    exact ⟨by first | rfl | (rw [e]; rfl), rfl⟩
  · have e : min a b = b := by omega
    go_wp2
    go_ret
    exact ⟨by first | rfl | (rw [e]; rfl), rfl⟩
theorem l00Max_any (a b : Int) (w : World) :
    Calls Tryd.prog 49 #[.int .i64 a, .int .i64 b] w fun e w' => e = .returned (.int .i64 (max a b)) ∧ w = w' := by
  go_enter Tryd.func49, Tryd.ntmps49
  by_cases h : b < a
  · have e : max a b = a := by omega
    go_wp2
    go_ret
    exact ⟨by first | rfl | (rw [e]; rfl), rfl⟩
  · have e : max a b = b := by omega
    go_wp2
    go_ret
    exact ⟨by first | rfl | (rw [e]; rfl), rfl⟩

set_option maxRecDepth 100000 in
set_option maxHeartbeats 2000000 in
theorem specIsBalanced_any (s : ByteArray) (w : World) (hs : s.size ≤ 9223372036854775807) :
    Calls Tryd.prog 24 #[.string s] w fun e w' => e = .returned (.bool (bal s.data.toList)) ∧ Below w.heap.size w w' := by
  obtain ⟨i0, hinf, hz0, hz1, hz2⟩ := info_parts info_i64
  have hlen : s.data.toList.length = s.size := by simp
  have hW := l23Ok_any s
  by_cases ho : okW s.data.toList = true
  · rw [ho] at hW
    obtain ⟨ha, k1, k2⟩ := okW_all ho
    rw [hlen] at k1 k2
    have HA := hide ha
    have HO := hide ho
    have HL := hide hlen
    clear ha ho hlen
    go_enter Tryd.func24, Tryd.ntmps24
    go_wp2_with fail
    refine (hW _ hs).mono ?_
    rintro e w1 ⟨rfl, rfl⟩
    clear hW
    go_wp2_with fail
    go_loopw [3, 4] (fun v i wr => ∃ k g c : Nat, i = .int .i64 k ∧ k ≤ s.size ∧ v = .slice (some ⟨g, 0, none⟩) (k + 1) c ∧ w.heap.size ≤ g ∧ Row wr g 2 1 (k + 1) c (il (pre s.data.toList (k + 1))) ∧ Below w.heap.size w wr) (fun _ i _ => s.size - (intOf i).toNat)
    case atStart =>
      exact ⟨0, w.heap.size, 1, rfl, by omega, rfl, by omega, Row.lit (n := 1) (cs := #[.int .i64 0]) rfl (by rfl) (by simp [maxLen]), by go_grown⟩
    case round =>
      obtain ⟨k, g, c, rfl, hk, rfl, hg, hrow, hbel⟩ := hrel
      have sz := hbel.size
      by_cases hlt : k < s.size
      · have hc := hrow.cell (pre_at (l := s.data.toList) (k := k + 1) (i := k) (by omega))
        have hcap := hrow.cap_
        have hn := ones_at hlt
        have hm := ones_le (s.data.toList.take k)
        have hm2 : (s.data.toList.take k).length ≤ k := List.length_take_le _ _
        obtain ⟨m, hmm⟩ : ∃ m, ones (s.data.toList.take k) = m := ⟨_, rfl⟩
        rw [hmm] at hn hc hm
        have hkk : (k : Int) < (k : Int) + 1 := by omega
        have hkz : (k : Int) < (s.size : Int) := by omega
        have s1 : IntKind.i64.wrap (m : Int) = m := IntWalk.i64_in _ (by omega)
        have s2 : IntKind.i64.wrap ((m : Int) + 1) = m + 1 := IntWalk.i64_in _ (by omega)
        have HC0 := hide (show ∀ w', wr.grownBy w' none → w'.cell? ⟨g, k, none⟩ = some (.int .i64 m) from fun w' hw => (hrow.grown hw (by simp)).cell (by rw [pre_at (l := s.data.toList) (k := k + 1) (i := k) (by omega), hmm]))
        have HW := hide hrow
        clear hrow
        rcases letter_iff.1 (all_at HA.out k hlt) with h | h
        · rw [if_neg (by omega)] at hn
          have HP := hide (show pre s.data.toList (k + 1 + 1) = pre s.data.toList (k + 1) ++ [(m : Int)] by rw [pre_succ, hn]; rfl)
          have a1 : IntKind.u8.wrap 0 = 0 := by decide
          have a2 : IntKind.i64.wrap 0 = 0 := by decide
          clear hn hmm
          go_wp2_with fail
          go_region_law ((refine step_append_lies _ (by rfl) (.tmp 19) (.tmp 30) _ (by rfl) 0 2 i0 _ 1 8 Tryd.underlying35 hinf hz0 hz1 hz2 rfl (by omega) (.slice (some ⟨g, 0, none⟩) (k + 1) c) (k + 1) (il (pre s.data.toList (k + 1))) (by rfl) (((HW.out.alloc _).drew_).own (Nat.zero_le g)) ⟨wr.heap.size, 0, none⟩ 1 1 (il [(m : Int)]) (by rfl) (by rfl) (fun j u hu => news_new (w := wr) rfl j u hu) (one_il _) (by omega) (by simp only [maxLen]; omega) (by omega) (Nat.zero_le _) (wr.heap.size + 1) (by simp) ?_; intro g1 cc w2 hown1 hgrow1 hat1 hlt1))
          all_goals
            go_wp2
            go_roundw
            case rel =>
              have hg1 : w.heap.size ≤ g1 := by
                rcases at_old hat1 with h | h <;> omega
              refine ⟨k + 1, g1, cc, by go_num, by omega, rfl, hg1, ?_, ?_⟩
              · have := (Row.of_own hown1).1
                rw [HP.out, il_append]; simpa using this
              · exact ((belowN hbel 1).alloc (by simpa using sz) _).grown hgrow1 (by simp; omega) (fun k h => by simp [Value.ownBlock] at h; omega)
            case measure => simp [intOf]; omega
        · rw [if_pos h] at hn
          have HP := hide (show pre s.data.toList (k + 1 + 1) = pre s.data.toList (k + 1) ++ [(m : Int) + 1] by rw [pre_succ, hn]; rfl)
          have a1 : IntKind.u8.wrap 1 = 1 := by decide
          have a2 : IntKind.i64.wrap 1 = 1 := by decide
          clear hn hmm
          go_wp2_with fail
          go_region_law ((refine step_append_lies _ (by rfl) (.tmp 19) (.tmp 30) _ (by rfl) 0 2 i0 _ 1 8 Tryd.underlying35 hinf hz0 hz1 hz2 rfl (by omega) (.slice (some ⟨g, 0, none⟩) (k + 1) c) (k + 1) (il (pre s.data.toList (k + 1))) (by rfl) (((HW.out.alloc _).drew_).own (Nat.zero_le g)) ⟨wr.heap.size, 0, none⟩ 1 1 (il [(m : Int) + 1]) (by rfl) (by rfl) (fun j u hu => news_new (w := wr) rfl j u hu) (one_il _) (by omega) (by simp only [maxLen]; omega) (by omega) (Nat.zero_le _) (wr.heap.size + 1) (by simp) ?_; intro g1 cc w2 hown1 hgrow1 hat1 hlt1))
          all_goals
            go_wp2
            go_roundw
            case rel =>
              have hg1 : w.heap.size ≤ g1 := by
                rcases at_old hat1 with h | h <;> omega
              refine ⟨k + 1, g1, cc, by go_num, by omega, rfl, hg1, ?_, ?_⟩
              · have := (Row.of_own hown1).1
                rw [HP.out, il_append]; simpa using this
              · exact ((belowN hbel 1).alloc (by simpa using sz) _).grown hgrow1 (by simp; omega) (fun k h => by simp [Value.ownBlock] at h; omega)
            case measure => simp [intOf]; omega
      · have hks : k = s.size := by omega
        subst hks
        have hcell : ∀ i : Nat, i ≤ s.size → wr.cell? ⟨g, i, none⟩ = some (.int .i64 (ones (s.data.toList.take i))) := fun i h => hrow.cell (pre_at (by omega))
        have HC := hide hcell
        clear hcell hrow
        generalize wr = W0 at *
        go_wp2_with fail
        go_loopw [5] (fun i wq => ∃ n q : Nat, i = .int .i64 n ∧ 1 ≤ n ∧ n ≤ s.size ∧ (∀ m, 1 ≤ m → m < n → fine s.data.toList m = true) ∧ wq = W0.drewN q) (fun i _ => s.size - (intOf i).toNat)
        case atStart => exact ⟨1, 0, rfl, by omega, by omega, fun m h1 h2 => by omega, rfl⟩
        case round =>
          obtain ⟨n, q, rfl, n1, n2, hf, rfl⟩ := hrel
          have HF := hide hf
          clear hf
          by_cases hlt2 : n < s.size
          · have hz0 := win_bd s.data.toList n 0
            rw [HL.out] at hz0
            have hcn := HC.out n (by omega)
            rw [← win_zero] at hcn
            generalize hz : win s.data.toList n 0 = z at *
            have HZ := hide hz
            clear hz
            go_wp2_with fail
            go_loopw [6, 7, 8] (fun b c i wq => ∃ k r : Nat, ∃ y v : Int, i = .int .i64 (k : Int) ∧ 1 ≤ k ∧ k + n ≤ s.size + 1 ∧ b = .int .i64 y ∧ c = .int .i64 v ∧
              (lo s.data.toList n (k - 1) = y ∧ hi s.data.toList n (k - 1) = v) ∧ wq = W0.drewN r) (fun _ _ i _ => s.size + 1 - (intOf i).toNat)
            case atStart => exact ⟨1, q, z, z, rfl, by omega, by omega, rfl, rfl, ⟨HZ.out, HZ.out⟩, rfl⟩
            case round =>
              obtain ⟨k, r, y, v, rfl, hk1, hk2, rfl, rfl, hyv, rfl⟩ := hrel
              obtain ⟨ey, ev⟩ := hyv
              have by1 := lo_bd s.data.toList n (k - 1)
              have bv := hi_bd s.data.toList n (k - 1)
              rw [HL.out, ey] at by1
              rw [HL.out, ev] at bv
              by_cases hlk : k + n ≤ s.size
              · obtain ⟨j, rfl⟩ : ∃ j, k = j + 1 := ⟨k - 1, by omega⟩
                have hcA := HC.out (j + 1 + n) (by omega)
                have hcB := HC.out (j + 1) (by omega)
                have bA := ones_le (s.data.toList.take (j + 1 + n))
                have bB := ones_le (s.data.toList.take (j + 1))
                have lA : (s.data.toList.take (j + 1 + n)).length ≤ s.size := by rw [← HL.out]; simp; omega
                have lB : (s.data.toList.take (j + 1)).length ≤ s.size := by rw [← HL.out]; simp; omega
                have hbx2 := win_bd s.data.toList n (j + 1)
                have hlo : lo s.data.toList n (j + 1) = min y (win s.data.toList n (j + 1)) := by rw [← ey]; rfl
                have hhi : hi s.data.toList n (j + 1) = max v (win s.data.toList n (j + 1)) := by rw [← ev]; rfl
                have hw : win s.data.toList n (j + 1) = (ones (s.data.toList.take (j + 1 + n)) : Int) - ones (s.data.toList.take (j + 1)) := rfl
                rw [HL.out] at hbx2
                generalize ones (s.data.toList.take (j + 1 + n)) = A at *
                generalize ones (s.data.toList.take (j + 1)) = B at *
                generalize win s.data.toList n (j + 1) = x2 at *
                have HE := hide (And.intro hlo hhi)
                have q1 := l00Min_any y x2
                have q2 := l00Max_any v x2
                generalize min y x2 = y2 at *
                generalize max v x2 = v2 at *
                clear hlo hhi ey ev lA lB
                have s1 : IntKind.i64.wrap ((A : Int) - B) = x2 := by rw [← hw]; exact IntWalk.i64_in _ (by omega)
                have i1 : (j : Int) + 1 + n < (s.size : Int) + 1 := by omega
                have i2 : (j : Int) + 1 < (s.size : Int) + 1 := by omega
                have i3 : IntKind.i64.wrap ((j : Int) + 1 + n) = (j : Int) + 1 + n := IntWalk.i64_in _ (by omega)
                clear hw
                go_wp2_with fail
                go_quiet (first | (with_reducible exact qS2 (q1 _)) | (with_reducible exact qS2 (q2 _)))
                go_wp2_with fail
                go_quiet (first | (with_reducible exact qS2 (q1 _)) | (with_reducible exact qS2 (q2 _)))
                go_wp2_with fail
                refine ⟨⟨j + 1 + 1, _, y2, v2, by go_num, by omega, by omega, rfl, rfl, ⟨?_, ?_⟩, rfl⟩, by simp [intOf]; omega⟩
                · exact HE.out.1
                · exact HE.out.2
              · have hkn : s.data.toList.length - n = k - 1 := by rw [HL.out]; omega
                have hfin : fine s.data.toList n = decide (v - y ≤ 1) := by unfold fine; rw [hkn, ey, ev]
                clear hkn ey ev
                by_cases hd : v - y ≤ 1
                · have HN := hide (show fine s.data.toList n = true by rw [hfin]; exact decide_eq_true hd)
                  have d1 : decide (1 < v - y) = false := decide_eq_false (by omega)
                  clear hfin
                  go_wp2_with fail
                  go_roundw
                  case rel =>
                    refine ⟨n + 1, r, by go_num, by omega, by omega, fun m h1 h2 => ?_, rfl⟩
                    by_cases hm : m = n
                    · rw [hm]; exact HN.out
                    · exact HF.out m h1 (by omega)
                  case measure => simp [intOf]; omega
                · have HR := hide (bal_no n1 (by rw [HL.out]; exact hlt2) (show fine s.data.toList n = false by rw [hfin]; exact decide_eq_false hd))
                  have d1 : decide (1 < v - y) = true := decide_eq_true (by omega)
                  clear hfin
                  go_wp2_with fail
                  go_ret
                  exact ⟨by rw [HR.out]; rfl, belowN hbel _⟩
          · have HR := hide (bal_yes HO.out (fun m h1 h2 => HF.out m h1 (by rw [HL.out] at h2; omega)))
            go_wp2_with fail
            go_ret
            exact ⟨by rw [HR.out]; rfl, belowN hbel _⟩
  · have hf : okW s.data.toList = false := by simpa using ho
    have HR := hide (bal_bad hf)
    rw [hf] at hW
    clear hlen
    go_enter Tryd.func24, Tryd.ntmps24
    go_wp2_with fail
    refine (hW _ hs).mono ?_
    rintro e w1 ⟨rfl, rfl⟩
    go_wp2_with fail
    go_ret
    exact ⟨by rw [HR.out]; rfl, Below.refl _ _⟩

end Go.Proofs.YtednobegombphaaDoor
