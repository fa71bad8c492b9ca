/- slices.Sort at lists of numbers; numbers put to their places in rising lists, in the reference. -/
import Derived.Test.YtpagfikhcmeciaaSrt
import Derived.Test.YtpagfikhcmeciaaPut
import Derived.Test.YtpagfikhcmeciaaOwn
import Derived.Test.YtpagfikhcmeciaaShelfS
import Derived.Shelf.SortM.Plain
namespace Go.Proofs.Ytpagfikhcmeciaa
open Go.RowKit Go.Sort Go.Shelf

/-- A list of numbers in order. -/
def srt (L : List Int) : List Int := L.mergeSort fun x y => decide (x ≤ y)
theorem srt_perm (L : List Int) : (srt L).Perm L := List.mergeSort_perm _ _
theorem srt_len (L : List Int) : (srt L).length = L.length := (srt_perm L).length_eq
theorem srt_sorted (L : List Int) : (srt L).Pairwise (· ≤ ·) := by
  have := List.pairwise_mergeSort (le := fun x y : Int => decide (x ≤ y)) (fun a b c h1 h2 => by simp at *; omega) (fun a b => by simp; omega) L
  exact this.imp (fun h => by simpa using h)

theorem sortI_any (g n cap : Nat) (L : List Int) (w : World) (hn : n ≤ 1000000000) (h : Row w g 2 1 n cap (il L)) :
    Calls Try.prog 58 #[.slice (some ⟨g, 0, none⟩) n cap] w fun e w' => e = .returned (.tuple #[]) ∧ Row w' g 2 1 n cap (il (srt L)) ∧ w.grownBy w' (some g) := by
  have hl : L.length = n := by have := h.len; rw [il_len] at this; omega
  subst hl
  have hr : Row w g 2 1 L.length cap (L.toArray.toList.map (Value.int .i64)) := h
  have hcon := AnyM.slices_Sort_int Try.sortI g 0 cap L w hr.holds h.lt (by omega)
  refine Calls.mono (show Calls Try.prog 58 _ w _ from hcon) ?_
  rintro e w' ⟨rfl, m, os, rfl⟩
  obtain ⟨a1, a2⟩ := sort_row (d' := (srt L).toArray) hr (by simp [srt_len]) m os
  exact ⟨rfl, a1, a2⟩

theorem take_foldl {β : Type} (f : β → Int → β) (b : β) {L : List Int} {j : Nat} (h : j < L.length) : (L.take (j + 1)).foldl f b = f ((L.take j).foldl f b) (L.getD j 0) := by
  rw [List.take_succ_eq_append_getElem h, List.foldl_append, List.getD_eq_getElem?_getD, List.getElem?_eq_getElem h]; rfl

theorem putS_t (x a : Int) (o : List Int) : putS x (o, true) a = (o ++ [a], true) := by unfold putS; rw [if_neg (fun h => by cases h.1)]
theorem putS_lt {x a : Int} (h : x < a) (o : List Int) : putS x (o, false) a = (o ++ [x] ++ [a], true) := by unfold putS; rw [if_pos ⟨rfl, by omega⟩, if_pos h]
theorem putS_eq (x : Int) (o : List Int) : putS x (o, false) x = (o ++ [x], true) := by unfold putS; rw [if_pos ⟨rfl, by omega⟩, if_neg (by omega)]
theorem putS_gt {x a : Int} (h : a < x) (o : List Int) : putS x (o, false) a = (o ++ [a], false) := by unfold putS; rw [if_neg (fun h' => by omega)]

set_option maxHeartbeats 1000000 in
set_option maxRecDepth 100000 in
theorem l00Put_any (g n cap : Nat) (L : List Int) (x : Int) (w : World) (hn : n ≤ 2000000) (h : Row w g 2 1 n cap (il L)) :
    Calls Try.prog 59 #[.slice (some ⟨g, 0, none⟩) n cap, .int .i64 x] w fun e w' => ∃ g' cap', e = .returned (.slice (some ⟨g', 0, none⟩) (put L x).length cap') ∧ w.heap.size ≤ g' ∧ Row w' g' 2 1 (put L x).length cap' (il (put L x)) ∧ Below w.heap.size w w' := by
  obtain ⟨i0, hi, hz0, hz1, hz2⟩ := info_parts info_i64
  have hl : L.length = n := by have := h.len; rw [il_len] at this; omega
  have hglt := h.lt
  have HL := hide hl
  have HR := hide h
  clear h hl
  go_enter Try.func59, Try.ntmps59
  go_wp2_with fail
  go_loopw [5, 6, 7] (fun ov dv iv wr => ∃ (j m : Nat) (b : Bool) (o : List Int), iv = .int .i64 j ∧ dv = .bool b ∧ j ≤ n ∧ (L.take j).foldl (putS x) ([], false) = (o, b) ∧ o.length = m ∧ m ≤ j + 1 ∧ (b = false → m ≤ j) ∧ wr.ownsRow w.heap.size 2 1 ov m (il o) ∧ ov ≠ .slice none 0 0 ∧ Below w.heap.size w wr) (fun _ _ iv _ => n - (intOf iv).toNat)
  case atStart => exact ⟨0, 0, false, [], rfl, rfl, by omega, rfl, rfl, by omega, fun _ => by omega, (Row.lit (by simp) (by rfl) (by omega)).own (by simp), by simp, (Below.refl _ _).alloc (Nat.le_refl _) _⟩
  case round =>
    obtain ⟨j, m, b, o, rfl, rfl, hj, hf, hm, hmj, hmb, hown, hne, hbel⟩ := hrel
    have sr := hbel.size
    by_cases hlt : j < n
    · have hll : j < L.length := by rw [HL.out]; exact hlt
      have y1 := (HR.out.below hbel hglt).cell (il_getD (zs := L) (i := j) hll)
      have hstep := take_foldl (putS x) ([], false) hll
      rw [hf] at hstep
      have i1 : (j : Int) < (n : Int) := by omega
      have HNE := hide hne
      have HOW := hide hown
      have HM := hide hm
      generalize L.getD j 0 = a at *
      clear hown hne hf hll hm
      have c5 : (b = true) ∨ (b = false ∧ x < a) ∨ (b = false ∧ x = a) ∨ (b = false ∧ a < x) := by
        cases b
        · right; rcases (show x < a ∨ x = a ∨ a < x by omega) with h | h | h
          · exact .inl ⟨rfl, h⟩
          · exact .inr (.inl ⟨rfl, h⟩)
          · exact .inr (.inr ⟨rfl, h⟩)
        · left; rfl
      rcases c5 with rfl | ⟨rfl, hxa⟩ | ⟨rfl, rfl⟩ | ⟨rfl, hxa⟩
      · rw [putS_t] at hstep
        have HS := hide hstep
        clear hstep
        go_wp2_with (at_builtin; refine wpList_append_own _ rfl (.tmp 35) (.tmp 40) _ rfl w.heap.size 2 i0 _ 1 8 Try.underlying31 hi hz0 hz1 hz2 rfl (by omega) u5 m (il o) (by rfl) (own_below HOW.out ((Below.refl _ _).alloc (Nat.le_refl _) _)) ⟨wr.heap.size, 0, none⟩ 1 1 (il [a]) (by rfl) (by rfl) (news_new (by simp)) (one_il _) (by simp only [maxLen]; omega) (by omega) (by simp; omega) ?_; intro v8 w8 hown8 hgrow8 hnil8)
        rw [← il_append] at hown8
        have HO8 := hide hown8
        have HN8 := hide hnil8
        clear hown8 hnil8
        go_wp2_with fail
        go_roundw
        case rel => exact ⟨j + 1, m + 1, true, o ++ [a], by go_num, rfl, by omega, HS.out, by rw [List.length_append, HM.out]; rfl, by omega, (fun h => by cases h), HO8.out, fun h => HNE.out (HN8.out.1 h).1, (hbel.alloc sr _).grown hgrow8 (by simp; omega) (own_base HOW.out)⟩
        case measure => simp [intOf]; omega
      · rw [putS_lt hxa] at hstep
        have HS := hide hstep
        have d1 : decide (x ≤ a) = true := decide_eq_true (by omega)
        have d2 : decide (x < a) = true := decide_eq_true hxa
        clear hstep
        go_wp2_with (at_builtin; first
          | (refine wpList_append_own _ rfl (.tmp 31) (.tmp 33) _ rfl w.heap.size 2 i0 _ 1 8 Try.underlying31 hi hz0 hz1 hz2 rfl (by omega) u5 m (il o) (by rfl) (own_below HOW.out ((Below.refl _ _).alloc (Nat.le_refl _) _)) ⟨wr.heap.size, 0, none⟩ 1 1 (il [x]) (by rfl) (by rfl) (news_new (by simp)) (one_il _) (by simp only [maxLen]; omega) (by omega) (by simp; omega) ?_; intro v7 w7 hown7 hgrow7 hnil7; rw [← il_append] at hown7; have HO7 := hide hown7; have HN7 := hide hnil7; have hb7 := (hbel.alloc sr _).grown hgrow7 (by simp; omega) (own_base HOW.out); have s7 := hb7.size; have z1 := ((hb7.cell (p := ⟨g, j, none⟩) hglt).trans ((hbel.cell (p := ⟨g, j, none⟩) hglt).symm.trans y1)); clear hown7 hnil7)
          | (refine wpList_append_own _ rfl (.tmp 35) (.tmp 40) _ rfl w.heap.size 2 i0 _ 1 8 Try.underlying31 hi hz0 hz1 hz2 rfl (by omega) v7 (m + 1) (il (o ++ [x])) (by rfl) (own_below HO7.out ((Below.refl _ _).alloc (Nat.le_refl _) _)) ⟨w7.heap.size, 0, none⟩ 1 1 (il [a]) (by rfl) (by rfl) (news_new (by simp)) (one_il _) (by simp only [maxLen]; omega) (by omega) (by simp; omega) ?_; intro v8 w8 hown8 hgrow8 hnil8))
        rw [← il_append] at hown8
        have HO8 := hide hown8
        have HN8 := hide hnil8
        clear hown8 hnil8
        go_wp2_with fail
        go_roundw
        case rel => exact ⟨j + 1, m + 1 + 1, true, o ++ [x] ++ [a], by go_num, rfl, by omega, HS.out, by rw [List.length_append, List.length_append, HM.out]; rfl, by have := hmb rfl; omega, (fun h => by cases h), HO8.out, fun h => HNE.out (HN7.out.1 (HN8.out.1 h).1).1, (hb7.alloc s7 _).grown hgrow8 (by simp; omega) (own_base HO7.out)⟩
        case measure => simp [intOf]; omega
      · rw [putS_eq] at hstep
        have HS := hide hstep
        clear hstep
        go_wp2_with (at_builtin; refine wpList_append_own _ rfl (.tmp 35) (.tmp 40) _ rfl w.heap.size 2 i0 _ 1 8 Try.underlying31 hi hz0 hz1 hz2 rfl (by omega) u5 m (il o) (by rfl) (own_below HOW.out ((Below.refl _ _).alloc (Nat.le_refl _) _)) ⟨wr.heap.size, 0, none⟩ 1 1 (il [x]) (by rfl) (by rfl) (news_new (by simp)) (one_il _) (by simp only [maxLen]; omega) (by omega) (by simp; omega) ?_; intro v8 w8 hown8 hgrow8 hnil8)
        rw [← il_append] at hown8
        have HO8 := hide hown8
        have HN8 := hide hnil8
        clear hown8 hnil8
        go_wp2_with fail
        go_roundw
        case rel => exact ⟨j + 1, m + 1, true, o ++ [x], by go_num, rfl, by omega, HS.out, by rw [List.length_append, HM.out]; rfl, by omega, (fun h => by cases h), HO8.out, fun h => HNE.out (HN8.out.1 h).1, (hbel.alloc sr _).grown hgrow8 (by simp; omega) (own_base HOW.out)⟩
        case measure => simp [intOf]; omega
      · rw [putS_gt hxa] at hstep
        have HS := hide hstep
        have d1 : decide (x ≤ a) = false := decide_eq_false (by omega)
        clear hstep
        go_wp2_with (at_builtin; refine wpList_append_own _ rfl (.tmp 35) (.tmp 40) _ rfl w.heap.size 2 i0 _ 1 8 Try.underlying31 hi hz0 hz1 hz2 rfl (by omega) u5 m (il o) (by rfl) (own_below HOW.out ((Below.refl _ _).alloc (Nat.le_refl _) _)) ⟨wr.heap.size, 0, none⟩ 1 1 (il [a]) (by rfl) (by rfl) (news_new (by simp)) (one_il _) (by simp only [maxLen]; omega) (by omega) (by simp; omega) ?_; intro v8 w8 hown8 hgrow8 hnil8)
        rw [← il_append] at hown8
        have HO8 := hide hown8
        have HN8 := hide hnil8
        clear hown8 hnil8
        go_wp2_with fail
        go_roundw
        case rel => exact ⟨j + 1, m + 1, false, o ++ [a], by go_num, rfl, by omega, HS.out, by rw [List.length_append, HM.out]; rfl, by omega, (fun _ => by have := hmb rfl; omega), HO8.out, fun h => HNE.out (HN8.out.1 h).1, (hbel.alloc sr _).grown hgrow8 (by simp; omega) (own_base HOW.out)⟩
        case measure => simp [intOf]; omega
    · have hjc : j = n := by omega
      subst hjc
      rw [List.take_of_length_le (by rw [HL.out]; exact Nat.le_refl _)] at hf
      cases b
      · have hput : put L x = o ++ [x] := by unfold put; rw [hf]; rfl
        have HP := hide hput
        have HNE := hide hne
        have HOW := hide hown
        have HM := hide hm
        clear hown hne hf hput hm
        go_wp2_with (at_builtin; refine wpList_append_own _ rfl (.tmp 44) (.tmp 46) _ rfl w.heap.size 2 i0 _ 1 8 Try.underlying31 hi hz0 hz1 hz2 rfl (by omega) u5 m (il o) (by rfl) (own_below HOW.out ((Below.refl _ _).alloc (Nat.le_refl _) _)) ⟨wr.heap.size, 0, none⟩ 1 1 (il [x]) (by rfl) (by rfl) (news_new (by simp)) (one_il _) (by simp only [maxLen]; omega) (by omega) (by simp; omega) ?_; intro v8 w8 hown8 hgrow8 hnil8)
        rw [← il_append] at hown8
        obtain ⟨g9, cap9, rfl, hg9, hr9⟩ := own_pos hown8 (by omega)
        have HR9 := hide hr9
        clear hown8 hnil8 hr9
        go_wp2_with fail
        go_ret
        refine ⟨g9, cap9, ?_, hg9, ?_, (hbel.alloc sr _).grown hgrow8 (by simp; omega) (own_base HOW.out)⟩
        · rw [HP.out, List.length_append, HM.out]; rfl
        · rw [HP.out, List.length_append, HM.out]; exact HR9.out
      · have hput : put L x = o := by unfold put; rw [hf]; rfl
        obtain ⟨g9, cap9, rfl, hg9, hr9⟩ := own_some hown hne
        have HP := hide hput
        have HR9 := hide hr9
        have HM := hide hm
        clear hown hne hf hput hr9 hm
        go_wp2_with fail
        go_ret
        refine ⟨g9, cap9, ?_, hg9, ?_, hbel⟩
        · rw [HP.out, HM.out]; rfl
        · rw [HP.out, HM.out]; exact HR9.out

end Go.Proofs.Ytpagfikhcmeciaa
