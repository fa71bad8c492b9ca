/- Numerators over a denominator as plain fractions; GapsOf: the program's and the reference's walks, and the law's. -/
import Derived.Test.YtpagfikhcmeciaaGapA
import Derived.Test.YtpagfikhcmeciaaHeldF
import Derived.Deep.RegionWith
namespace Go.Proofs.Ytpagfikhcmeciaa
open Go.RowKit

theorem info_frac : (Try.prog.info? 25).map (fun i => (i.zero, i.size, i.bytes)) = some (some (.agg #[.int .i64 0, .int .i64 0]), 2, 16) := by kernel_rfl
theorem LstF.of_own {w : World} {base n : Nat} {v : Value} {xs : List (Int × Int)} (h : w.ownsRow base 25 2 v n (cs2 xs)) (hn : n ≤ 1000000000) : LstF w base v xs := by
  by_cases h0 : n = 0
  · subst h0
    have hx : xs = [] := by
      have := h.1
      rw [cs2_len] at this
      exact List.length_eq_zero_iff.1 (by omega)
    subst hx
    obtain ⟨_, ⟨rfl, _⟩ | ⟨g, cap, cur, rfl, hb, h1, h2, h3, h4, h5⟩⟩ := h
    · exact LstF.nil_ _ _
    · exact LstF.of_row (B := base) (g := g) (n := 0) (cap := cap) (xs := []) ⟨cur, h1, h2, h3, h4, h5, rfl⟩ hb hn
  · obtain ⟨g, cap, rfl, hb, hr⟩ := own_pos h (by omega)
    exact LstF.of_row hr hb hn

/-- A numerator over q as a plain fraction. -/
def red (q x : Int) : Int × Int := (x / (Int.gcd x q : Nat), q / (Int.gcd x q : Nat))
theorem red_take (q : Int) {L : List Int} {j : Nat} (h : j < L.length) : (L.map (red q)).take (j + 1) = (L.map (red q)).take j ++ [red q (L.getD j 0)] := by
  rw [List.take_succ_eq_append_getElem (by simpa using h), List.getElem_map, getD_getElem h]

set_option maxHeartbeats 1000000 in
set_option maxRecDepth 100000 in
theorem implParts_any (p q : Int) (g n cap : Nat) (L : List Int) (w : World) (hq : 1 ≤ q ∧ q ≤ 1000000000) (hn : n ≤ 1000) (hL : ∀ x ∈ L, 0 < x ∧ x ≤ q) (hr : Row w g 2 1 n cap (il L)) :
    Calls Try.prog 35 #[.agg #[.int .i64 p, .int .i64 q], .slice (some ⟨g, 0, none⟩) n cap] w fun e w' => ∃ v, e = .returned v ∧ LstF w' w.heap.size v (L.map (red q)) ∧ Below w.heap.size w w' := by
  obtain ⟨i0, hi, hz0, hz1, hz2⟩ := info_parts info_frac
  have hl : L.length = n := by have := hr.len; rw [il_len] at this; omega
  have hglt := hr.lt
  have HL := hide hL
  have HR := hide hr
  have HLN := hide hl
  clear hL hr hl
  have := p
  go_enter Try.func35, Try.ntmps35
  go_wp2_with fail
  go_loopw [5, 12] (fun lv i wr => ∃ j : Nat, i = .int .i64 j ∧ j ≤ n ∧ wr.ownsRow (w.heap.size + 1) 25 2 lv j (cs2 ((L.map (red q)).take j)) ∧ Blk wr w.heap.size 25 #[.int .i64 p, .int .i64 q] ∧ Below w.heap.size w wr) (fun _ i _ => n - (intOf i).toNat)
  case atStart => exact ⟨0, rfl, by omega, own_nil _ _ _ _, Blk.new _ _ _, by go_grown⟩
  case round =>
    obtain ⟨j, rfl, hj, hown, hblk, hbel⟩ := hrel
    have sr := hbel.size
    by_cases hlt : j < n
    · have hll : j < L.length := by rw [HLN.out]; exact hlt
      have hx := HL.out _ (getD_mem hll)
      have y1 := (HR.out.below hbel hglt).cell (il_getD (zs := L) (i := j) hll)
      have HT := hide (red_take q hll)
      have i1 : (j : Int) < (n : Int) := by omega
      generalize L.getD j 0 = x at *
      have hP := fun w => plainOf_any x q w (by omega) hq
      have HOW := hide hown
      obtain ⟨X, hX⟩ : ∃ X, x / (Int.gcd x q : Nat) = X := ⟨_, rfl⟩
      obtain ⟨Y, hY⟩ : ∃ Y, q / (Int.gcd x q : Nat) = Y := ⟨_, rfl⟩
      have hred : red q x = (X, Y) := by unfold red; rw [hX, hY]
      rw [hred] at HT
      rw [hX, hY] at hP
      clear hown hX hY hred hx hll
      obtain ⟨a1, _, a3, HB⟩ := hblk.after (Below.refl _ _) hblk.lt
      have x1 := a1 1
      clear a1 hblk
      go_wp2_with fail
      refine (hP _).mono ?_
      rintro e w6 ⟨rfl, hb6⟩
      have hown6 := own_below HOW.out hb6
      have HO6 := hide hown6
      have s6 := hb6.size
      clear hown6
      have hbx := HB.out.below_ hb6 a3
      have HBX := hide hbx
      clear hbx
      go_wp2_with (at_builtin; refine wpList_append_own _ rfl (.tmp 23) (.tmp 25) _ rfl (w.heap.size + 1) 25 i0 _ 2 16 Try.underlying28 hi hz0 hz1 hz2 rfl (by omega) u5 j (cs2 ((L.map (red q)).take j)) (by rfl) (own_below (own_below HO6.out ((Below.refl _ _).alloc (Nat.le_refl _) _)) ((Below.refl _ _).alloc (Nat.le_refl _) _)) ⟨w6.heap.size + 1, 0, none⟩ 1 1 (cs2 [(X, Y)]) (by rfl) (by rfl) (news_new (by simp)) (one2 _) (by simp only [maxLen]; omega) (by omega) (by simp; omega) ?_; intro v8 w8 hown8 hgrow8 hnil8)
      rw [← cs2_append] at hown8
      have HO8 := hide hown8
      clear hown8 hnil8
      go_wp2_with fail
      go_roundw
      case rel =>
        have hb7 : Below w.heap.size w w6 := hbel.trans (hb6.mono hbel.size)
        have s7 := hb7.size
        refine ⟨j + 1, by go_num, by omega, ?_, ((HBX.out.alloc _).alloc _).grown hgrow8 (fun h => by have := own_base HO6.out _ h.symm; omega), ?_⟩
        · rw [HT.out]; exact HO8.out
        · exact ((hb7.alloc s7 _).alloc (by simp; omega) _).grown hgrow8 (by simp; omega) (fun k hk => by have := own_base HO6.out k hk; omega)
      case measure => simp [intOf]; omega
    · have hjc : j = n := by omega
      subst hjc
      rw [List.take_of_length_le (by rw [List.length_map, HLN.out]; exact Nat.le_refl _)] at hown
      have HF := hide ((LstF.of_own hown (by omega)).base (B' := w.heap.size) (by omega))
      clear hown
      go_wp2_with fail
      go_ret
      exact ⟨u5, by first | rfl | simp, HF.out, hbel⟩

set_option maxHeartbeats 1000000 in
set_option maxRecDepth 100000 in
theorem specMade_any (p q : Int) (g n cap : Nat) (L : List Int) (w : World) (hq : 1 ≤ q ∧ q ≤ 1000000000) (hn : n ≤ 1000) (hL : ∀ x ∈ L, 0 < x ∧ x ≤ q) (hr : Row w g 2 1 n cap (il L)) :
    Calls Try.prog 37 #[.slice (some ⟨g, 0, none⟩) n cap, .int .i64 q] w fun e w' => ∃ v, e = .returned v ∧ LstF w' w.heap.size v (L.map (red q)) ∧ Below w.heap.size w w' := by
  obtain ⟨i0, hi, hz0, hz1, hz2⟩ := info_parts info_frac
  have hl : L.length = n := by have := hr.len; rw [il_len] at this; omega
  have hglt := hr.lt
  have HL := hide hL
  have HR := hide hr
  have HLN := hide hl
  clear hL hr hl
  have := p
  go_enter Try.func37, Try.ntmps37
  go_wp2_with fail
  go_loopw [5, 6] (fun lv i wr => ∃ j : Nat, i = .int .i64 j ∧ j ≤ n ∧ wr.ownsRow w.heap.size 25 2 lv j (cs2 ((L.map (red q)).take j)) ∧ Below w.heap.size w wr) (fun _ i _ => n - (intOf i).toNat)
  case atStart => exact ⟨0, rfl, by omega, (Row.lit (by simp) (by rfl) (by omega)).own (by simp), (Below.refl _ _).alloc (Nat.le_refl _) _⟩
  case round =>
    obtain ⟨j, rfl, hj, hown, hbel⟩ := hrel
    have sr := hbel.size
    by_cases hlt : j < n
    · have hll : j < L.length := by rw [HLN.out]; exact hlt
      have hx := HL.out _ (getD_mem hll)
      have y1 := (HR.out.below hbel hglt).cell (il_getD (zs := L) (i := j) hll)
      have HT := hide (red_take q hll)
      have i1 : (j : Int) < (n : Int) := by omega
      generalize L.getD j 0 = x at *
      have hP := fun w => l02Make_any x q w (by omega) (by omega) (by omega)
      have HOW := hide hown
      obtain ⟨X, hX⟩ : ∃ X, x / (Int.gcd x q : Nat) = X := ⟨_, rfl⟩
      obtain ⟨Y, hY⟩ : ∃ Y, q / (Int.gcd x q : Nat) = Y := ⟨_, rfl⟩
      have hred : red q x = (X, Y) := by unfold red; rw [hX, hY]
      rw [hred] at HT
      rw [hX, hY] at hP
      clear hown hX hY hred hx hll
      go_wp2_with fail
      refine (hP _).mono ?_
      rintro e w6 ⟨rfl, hb6⟩
      have hown6 := own_below HOW.out hb6
      have HO6 := hide hown6
      have s6 := hb6.size
      clear hown6
      go_wp2_with (at_builtin; refine wpList_append_own _ rfl (.tmp 14) (.tmp 21) _ rfl w.heap.size 25 i0 _ 2 16 Try.underlying28 hi hz0 hz1 hz2 rfl (by omega) u5 j (cs2 ((L.map (red q)).take j)) (by rfl) (own_below HO6.out ((Below.refl _ _).alloc (Nat.le_refl _) _)) ⟨w6.heap.size, 0, none⟩ 1 1 (cs2 [(X, Y)]) (by rfl) (by rfl) (news_new (by simp)) (one2 _) (by simp only [maxLen]; omega) (by omega) (by simp; omega) ?_; intro v8 w8 hown8 hgrow8 hnil8)
      rw [← cs2_append] at hown8
      have HO8 := hide hown8
      clear hown8 hnil8
      go_wp2_with fail
      go_roundw
      case rel =>
        have hb7 : Below w.heap.size w w6 := hbel.trans (hb6.mono hbel.size)
        have s7 := hb7.size
        refine ⟨j + 1, by go_num, by omega, ?_, ?_⟩
        · rw [HT.out]; exact HO8.out
        · exact (hb7.alloc s7 _).grown hgrow8 (by simp; omega) (own_base HO6.out)
      case measure => simp [intOf]; omega
    · have hjc : j = n := by omega
      subst hjc
      rw [List.take_of_length_le (by rw [List.length_map, HLN.out]; exact Nat.le_refl _)] at hown
      have HF := hide (LstF.of_own hown (by omega))
      clear hown
      go_wp2_with fail
      go_ret
      exact ⟨u5, by first | rfl | simp, HF.out, hbel⟩

def gpx (p q c : Int) : List (Int × Int) := if gpc p q c = 0 then (gapl (rst p q) q (ord (rst p q) c.toNat)).map (red q) else []

set_option maxHeartbeats 4000000 in
set_option maxRecDepth 100000 in
theorem implGapsOf_any (p q c : Int) (w : World) :
    Calls Try.prog 9 #[.agg #[.int .i64 p, .int .i64 q], .int .i64 c] w fun e w' => ∃ v, e = .returned (.tuple #[v, .int .i64 (gpc p q c)]) ∧ LstF w' w.heap.size v (gpx p q c) ∧ Below w.heap.size w w' := by
  have hC := checkPoints_any p q c
  by_cases h0 : gpc p q c = 0
  · obtain ⟨ho, hc, hcq⟩ := gpc_ok h0
    obtain ⟨o1, o2, o3⟩ := okF_iff.1 ho
    have hx : gpx p q c = (gapl (rst p q) q (ord (rst p q) c.toNat)).map (red q) := by unfold gpx; rw [if_pos h0]
    obtain ⟨m, rfl⟩ : ∃ m : Nat, c = m := ⟨c.toNat, by omega⟩
    rw [Int.toNat_natCast] at hx
    have hL := fun w => implGaps_any p q m w ho ⟨by omega, by omega⟩ hcq
    have hG := gap_bd (p := p) (q := q) (n := m) (by omega) o3 hcq
    have hP := fun g cap w hr => implParts_any p q g m cap _ w o1 (by omega) hG hr
    generalize gapl (rst p q) q (ord (rst p q) m) = G at *
    rw [h0] at hC
    rw [h0, hx]
    clear hx h0 ho hcq hG
    go_enter Try.func9, Try.ntmps9
    go_wp2_with fail
    refine (hC _).mono ?_
    rintro e w1 ⟨rfl, hb1⟩
    obtain ⟨a1, _, k3, HK⟩ := (Blk.new w 25 #[.int .i64 p, .int .i64 q]).after hb1 (by simp)
    have x0 := a1 0
    have x1 := a1 1
    have hB := bstep (show Below w.heap.size w _ by go_grown) hb1 (by simp)
    clear a1 hb1
    go_wp2_with fail
    go_region_with (first
      | (go_at_call 39; refine (hL _).mono ?_; rintro e w2 ⟨g, cap, rfl, hg, hr, hb2'⟩; have hb2 : Below w1.heap.size w1 w2 := (Below.refl _ w1).drew.trans hb2'; obtain ⟨a1, _, _, _⟩ := HK.out.after hb2 k3; have x2 := a1 0; have x3 := a1 1; have hP2 := hP g cap w2 hr; clear hr a1 hb2')
      | (go_at_call 35; refine hP2.mono ?_; rintro e w3 ⟨v, rfl, hl3, hb3⟩))
    all_goals as_aux_lemma =>
      have hB2 := bstep hB hb2 hB.size
      have hl4 := hl3.base hB2.size
      have HL := hide hl4
      clear hl3 hl4 hP2 hP
      go_wp2_with fail
      go_returns
      exact ⟨_, rfl, HL.out, bstep hB2 hb3 hB2.size⟩
  · have hx : gpx p q c = [] := by unfold gpx; rw [if_neg h0]
    rw [hx]
    generalize gpc p q c = d at *
    have hb : (d != 0) = true := by simp [h0]
    clear hx
    go_enter Try.func9, Try.ntmps9
    go_wp2_with fail
    refine (hC _).mono ?_
    rintro e w1 ⟨rfl, hb1⟩
    have hB := bstep (show Below w.heap.size w _ by go_grown) hb1 (by simp)
    go_wp2_with fail
    go_returns
    exact ⟨_, rfl, LstF.nil_ _ _, hB⟩

set_option maxHeartbeats 4000000 in
set_option maxRecDepth 100000 in
theorem specGapsOf_any (p q c : Int) (w : World) :
    Calls Try.prog 10 #[.agg #[.int .i64 p, .int .i64 q], .int .i64 c] w fun e w' => ∃ v, e = .returned (.tuple #[v, .int .i64 (gpc p q c)]) ∧ LstF w' w.heap.size v (gpx p q c) ∧ Below w.heap.size w w' := by
  have hC := l20Code_any p q c
  by_cases h0 : gpc p q c = 0
  · obtain ⟨ho, hc, hcq⟩ := gpc_ok h0
    obtain ⟨o1, o2, o3⟩ := okF_iff.1 ho
    have hx : gpx p q c = (gapl (rst p q) q (ord (rst p q) c.toNat)).map (red q) := by unfold gpx; rw [if_pos h0]
    obtain ⟨m, rfl⟩ : ∃ m : Nat, c = m := ⟨c.toNat, by omega⟩
    rw [Int.toNat_natCast] at hx
    have hL := fun w => specGaps_any p q m w ho ⟨by omega, by omega⟩ hcq
    have hG := gap_bd (p := p) (q := q) (n := m) (by omega) o3 hcq
    have hP := fun g cap w hr => specMade_any p q g m cap _ w o1 (by omega) hG hr
    generalize gapl (rst p q) q (ord (rst p q) m) = G at *
    rw [h0] at hC
    rw [h0, hx]
    clear hx h0 ho hcq hG
    go_enter Try.func10, Try.ntmps10
    go_wp2_with fail
    refine (hC _).mono ?_
    rintro e w1 ⟨rfl, hb1⟩
    obtain ⟨a1, _, k3, HK⟩ := (Blk.new w 25 #[.int .i64 p, .int .i64 q]).after hb1 (by simp)
    have x0 := a1 0
    have x1 := a1 1
    have hB := bstep (show Below w.heap.size w _ by go_grown) hb1 (by simp)
    clear a1 hb1
    go_wp2_with fail
    go_region_with (first
      | (go_at_call 40; refine (hL _).mono ?_; rintro e w2 ⟨g, cap, rfl, hg, hr, hb2'⟩; have hb2 : Below w1.heap.size w1 w2 := (Below.refl _ w1).drew.trans hb2'; obtain ⟨a1, _, _, _⟩ := HK.out.after hb2 k3; have x2 := a1 0; have x3 := a1 1; have hP2 := hP g cap w2 hr; clear hr a1 hb2')
      | (go_at_call 37; refine hP2.mono ?_; rintro e w3 ⟨v, rfl, hl3, hb3⟩))
    all_goals as_aux_lemma =>
      have hB2 := bstep hB hb2 hB.size
      have hl4 := hl3.base hB2.size
      have HL := hide hl4
      clear hl3 hl4 hP2 hP
      go_wp2_with fail
      go_returns
      exact ⟨_, rfl, HL.out, bstep hB2 hb3 hB2.size⟩
  · have hx : gpx p q c = [] := by unfold gpx; rw [if_neg h0]
    rw [hx]
    generalize gpc p q c = d at *
    have hb : (d != 0) = true := by simp [h0]
    clear hx
    go_enter Try.func10, Try.ntmps10
    go_wp2_with fail
    refine (hC _).mono ?_
    rintro e w1 ⟨rfl, hb1⟩
    have hB := bstep (show Below w.heap.size w _ by go_grown) hb1 (by simp)
    go_wp2_with fail
    go_returns
    exact ⟨_, rfl, LstF.nil_ _ _, hB⟩

end Go.Proofs.Ytpagfikhcmeciaa
