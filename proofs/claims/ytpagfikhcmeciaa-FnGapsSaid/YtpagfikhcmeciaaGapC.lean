/- The different lengths of gaps and their counts: the program's and the reference's walks. -/
import Derived.Test.YtpagfikhcmeciaaGapB
import Derived.Test.YtpagfikhcmeciaaSrtI
namespace Go.Proofs.Ytpagfikhcmeciaa
open Go.RowKit Go.Sort

theorem take_snoc_I {L : List Int} {j : Nat} (h : j < L.length) : L.take (j + 1) = L.take j ++ [L.getD j 0] := by
  rw [List.take_succ_eq_append_getElem h, List.getD_eq_getElem?_getD, List.getElem?_eq_getElem h]; rfl

set_option maxHeartbeats 1000000 in
set_option maxRecDepth 100000 in
theorem specLengths_any (p q : Int) (c : Nat) (w : World) (ho : okF p q = true) (hc : 1 ≤ c ∧ c ≤ 200) (hcq : (c : Int) ≤ q) :
    Calls Try.prog 38 #[.agg #[.int .i64 p, .int .i64 q], .int .i64 (c : Int)] w fun e w' => ∃ g cap, e = .returned (.slice (some ⟨g, 0, none⟩) (puts (gapl (rst p q) q (ord (rst p q) c))).length cap) ∧ w.heap.size ≤ g ∧ Row w' g 2 1 (puts (gapl (rst p q) q (ord (rst p q) c))).length cap (il (puts (gapl (rst p q) q (ord (rst p q) c)))) ∧ Below w.heap.size w w' := by
  have hL := fun w => specGaps_any p q c w ho hc hcq
  have hl : (gapl (rst p q) q (ord (rst p q) c)).length = c := by rw [gapl_len, ord_len]
  have hlen := fun j => (puts_asc_mem ((gapl (rst p q) q (ord (rst p q) c)).take j)).2.2
  generalize gapl (rst p q) q (ord (rst p q) c) = G at *
  clear ho
  go_enter Try.func38, Try.ntmps38
  go_wp2_with fail
  refine (hL _).mono ?_
  rintro e w2 ⟨g, cap, rfl, hg, hr, hb2⟩
  have hB := bstep (show Below w.heap.size w _ by go_grown) hb2 (by simp)
  have hglt := hr.lt
  have HR := hide hr
  have HL := hide hl
  have HLEN := hide hlen
  have hsz := hB.size
  clear hr hL hl hlen
  go_wp2_with fail
  go_loopw [6, 7] (fun ov iv wr => ∃ (j m g2 cap2 : Nat), iv = .int .i64 j ∧ j ≤ c ∧ (puts (G.take j)).length = m ∧ ov = .slice (some ⟨g2, 0, none⟩) m cap2 ∧ w2.heap.size ≤ g2 ∧ Row wr g2 2 1 m cap2 (il (puts (G.take j))) ∧ Below w2.heap.size w2 wr) (fun _ iv _ => c - (intOf iv).toNat)
  case atStart => exact ⟨0, 0, w2.heap.size, 0, rfl, by omega, rfl, rfl, Nat.le_refl _, Row.lit rfl (by rfl) (by omega), (Below.refl _ _).alloc (Nat.le_refl _) _⟩
  case round =>
    obtain ⟨j, m, g2, cap2, rfl, hj, hm, rfl, hg2, hrow, hbel⟩ := hrel
    have sr := hbel.size
    have hmj := HLEN.out j
    rw [hm, List.length_take, HL.out] at hmj
    by_cases hlt : j < c
    · have hll : j < G.length := by rw [HL.out]; exact hlt
      have y1 := (HR.out.below hbel hglt).cell (il_getD (zs := G) (i := j) hll)
      have hstep := take_snoc_I hll
      generalize G.getD j 0 = a at *
      have hput : puts (G.take (j + 1)) = put (puts (G.take j)) a := by rw [hstep, puts_snoc]
      have hP := l00Put_any g2 m cap2 (puts (G.take j)) a wr (by omega) hrow
      rw [← hput] at hP
      have i1 : (j : Int) < (c : Int) := by omega
      have HP := hide hP
      clear hstep hput hll hrow hm hP
      go_wp2_with fail
      refine HP.out.mono ?_
      rintro e w3 ⟨g3, cap3, rfl, hg3, hr3, hb3⟩
      have HR3 := hide hr3
      clear hr3 HP
      obtain ⟨m3, hm3⟩ : ∃ m3, (puts (G.take (j + 1))).length = m3 := ⟨_, rfl⟩
      rw [hm3] at HR3 ⊢
      have HM3 := hide hm3
      clear hm3
      go_wp2_with fail
      go_roundw
      case rel => exact ⟨j + 1, m3, g3, cap3, by go_num, by omega, HM3.out, rfl, by omega, HR3.out, hbel.trans (hb3.mono sr)⟩
      case measure => simp [intOf]; omega
    · have hjc : j = c := by omega
      subst hjc
      rw [List.take_of_length_le (by rw [HL.out]; exact Nat.le_refl _)] at hrow hm
      have HR9 := hide hrow
      have HM := hide hm
      clear hrow hm
      go_wp2_with fail
      go_ret
      refine ⟨g2, cap2, ?_, by omega, ?_, bstep hB hbel hsz⟩
      · rw [HM.out]; rfl
      · rw [HM.out]; exact HR9.out

/-- How often each of the different numbers stands in a list. -/
def cnt (G : List Int) : List Int := (puts G).map fun x => (G.count x : Int)
theorem dd_bd {S : List Int} (hs : S.Pairwise (· ≤ ·)) (j : Nat) : (dd (S.take j)).2.length = (dd (S.take j)).1.length ∧ (dd (S.take j)).1.length ≤ j ∧ (0 < j → S ≠ [] → 0 < (dd (S.take j)).1.length) ∧ ∀ x ∈ (dd (S.take j)).2, 0 ≤ x ∧ x ≤ j := by
  obtain ⟨_, _, h3, h4, h5⟩ := dd_facts (S.take j) (hs.sublist (List.take_sublist _ _))
  rw [List.length_take] at h4
  refine ⟨by rw [h3]; simp, by omega, fun h0 hne => ?_, fun x hx => ?_⟩
  · apply Nat.pos_of_ne_zero
    intro h
    have := h5 (List.length_eq_zero_iff.1 h)
    have h6 : (S.take j).length = 0 := by rw [this]; rfl
    rw [List.length_take] at h6
    have : 0 < S.length := List.length_pos_iff.2 hne
    omega
  · rw [h3] at hx
    obtain ⟨y, _, rfl⟩ := List.mem_map.1 hx
    have := List.count_le_length (a := y) (l := S.take j)
    rw [List.length_take] at this
    omega
theorem last_getD {D : List Int} {m : Nat} (h : D.length = m + 1) : D.getLast? = some (D.getD m 0) := by
  have hne : D ≠ [] := by intro h'; rw [h'] at h; cases h
  rw [List.getLast?_eq_some_getLast hne, List.getLast_eq_getElem, getD_getElem (by omega)]
  congr 2
  omega
theorem ddS_same {D C : List Int} {m : Nat} {x : Int} (h : D.length = m + 1) (h2 : C.length = m + 1) (hx : D.getD m 0 = x) : ddS (D, C) x = (D, C.set m (C.getD m 0 + 1)) := by
  unfold ddS ddA
  rw [if_pos (by rw [last_getD h, hx])]
  simp only [h2, Nat.add_sub_cancel]
theorem ddS_new {D C : List Int} {x : Int} (hx : D.getLast? ≠ some x) : ddS (D, C) x = (D ++ [x], C ++ [1]) := by
  unfold ddS ddA
  rw [if_neg hx]
  have hg : (C ++ [(0 : Int)]).getD C.length 0 = 0 := by
    rw [List.getD_eq_getElem?_getD, List.getElem?_append_right (Nat.le_refl _)]; simp
  simp only [List.length_append, List.length_cons, List.length_nil, Nat.zero_add, Nat.add_sub_cancel]
  rw [hg, List.set_append_right _ _ (Nat.le_refl _), Nat.sub_self]
  rfl
theorem set_last (C : List Int) (m : Nat) (h : C.length = m) : (il (C ++ [0])).set m (.int .i64 1) = il (C ++ [1]) := by
  simp only [il, List.map_append]
  rw [List.set_append_right _ _ (by simp [h])]
  simp [h]
theorem getD_last0 (C : List Int) (m : Nat) (h : C.length = m) : (C ++ [0]).getD m 0 = 0 := by
  subst h
  rw [List.getD_eq_getElem?_getD, List.getElem?_append_right (Nat.le_refl _)]; simp
theorem il_set (C : List Int) (m : Nat) (x : Int) : (il C).set m (.int .i64 x) = il (C.set m x) := by simp [il, List.map_set]

theorem size_alloc_ (w : World) (o : Obj) : (w.alloc o).heap.size = w.heap.size + 1 := by simp
theorem at_nil {g H n c : Nat} (h : (Value.slice none n c).ownBlock = some g ∨ g = H) : g = H := by
  rcases h with h | h
  · simp [Value.ownBlock] at h
  · exact h

set_option maxHeartbeats 2000000 in
set_option maxRecDepth 100000 in
theorem implLengths_any (p q : Int) (c : Nat) (w : World) (ho : okF p q = true) (hc : 1 ≤ c ∧ c ≤ 200) (hcq : (c : Int) ≤ q) :
    Calls Try.prog 34 #[.agg #[.int .i64 p, .int .i64 q], .int .i64 (c : Int)] w fun e w' => ∃ g cap g2 cap2 m, e = .returned (.tuple #[.slice (some ⟨g, 0, none⟩) (m + 1) cap, .slice (some ⟨g2, 0, none⟩) (m + 1) cap2]) ∧ (puts (gapl (rst p q) q (ord (rst p q) c))).length = m + 1 ∧ w.heap.size ≤ g ∧ w.heap.size ≤ g2 ∧ Row w' g 2 1 (m + 1) cap (il (puts (gapl (rst p q) q (ord (rst p q) c)))) ∧ Row w' g2 2 1 (m + 1) cap2 (il (cnt (gapl (rst p q) q (ord (rst p q) c)))) ∧ Below w.heap.size w w' := by
  obtain ⟨i0, hi, hz0, hz1, hz2⟩ := info_parts info_i64
  have hL := fun w => implGaps_any p q c w ho hc hcq
  have hl : (gapl (rst p q) q (ord (rst p q) c)).length = c := by rw [gapl_len, ord_len]
  generalize gapl (rst p q) q (ord (rst p q) c) = G at *
  have hS := srt_sorted G
  have hlS : (srt G).length = c := by rw [srt_len, hl]
  have hdd := dd_puts (srt_perm G) hS
  have hbd := dd_bd hS
  have hSne : srt G ≠ [] := by intro h; rw [h] at hlS; simp at hlS; omega
  clear ho hl
  go_enter Try.func34, Try.ntmps34
  go_wp2_with fail
  refine (hL _).mono ?_
  rintro e w2 ⟨g, cap, rfl, hg, hr, hb2⟩
  have hB := bstep (show Below w.heap.size w _ by go_grown) hb2 (by simp)
  have hsz := hB.size
  have hgw : w.heap.size ≤ g := by have := hg; rw [size_alloc_] at this; omega
  have hT := sortI_any g c cap G w2 (by omega) hr
  clear hr hL
  go_wp2_with fail
  refine hT.mono ?_
  rintro e w3 ⟨rfl, hr3, hg3⟩
  generalize srt G = S at *
  have hB3 : Below w.heap.size w w3 := hB.grown hg3 hsz (fun k h => by injection h; omega)
  have hsz3 := hB3.size
  have hglt := hr3.lt
  have HR := hide hr3
  have HL := hide hlS
  have HBD := hide hbd
  have HDD := hide hdd
  have HSN := hide hSne
  clear hr3 hlS hT hbd hdd hS hSne hB hb2 hg3 hsz
  go_wp2_with fail
  go_loopw [7, 8, 19] (fun dv cv iv wr => ∃ (j : Nat) (D C : List Int), iv = .int .i64 j ∧ j ≤ c ∧ dd (S.take j) = (D, C) ∧ Below w3.heap.size w3 wr ∧ ((j = 0 ∧ dv = .slice none 0 0 ∧ cv = .slice none 0 0) ∨ ∃ m gd cd gc cc, 0 < j ∧ D.length = m + 1 ∧ C.length = m + 1 ∧ dv = .slice (some ⟨gd, 0, none⟩) (m + 1) cd ∧ cv = .slice (some ⟨gc, 0, none⟩) (m + 1) cc ∧ gd ≠ gc ∧ w3.heap.size ≤ gd ∧ w3.heap.size ≤ gc ∧ Row wr gd 2 1 (m + 1) cd (il D) ∧ Row wr gc 2 1 (m + 1) cc (il C))) (fun _ _ iv _ => c - (intOf iv).toNat)
  case atStart => exact ⟨0, [], [], rfl, by omega, rfl, Below.refl _ _, .inl ⟨rfl, rfl, rfl⟩⟩
  case round =>
    obtain ⟨j, D, C, rfl, hj, hd, hbel, hcase⟩ := hrel
    have sr := hbel.size
    obtain ⟨b1, b2, b3, b4⟩ := HBD.out j
    rw [hd] at b1 b2 b3 b4
    by_cases hlt : j < c
    · have hll : j < S.length := by rw [HL.out]; exact hlt
      have y1 := (HR.out.below hbel hglt).cell (il_getD (zs := S) (i := j) hll)
      have hstep : dd (S.take (j + 1)) = ddS (D, C) (S.getD j 0) := by rw [take_snoc_I hll, dd_snoc, hd]
      generalize S.getD j 0 = x at *
      have i1 : (j : Int) < (c : Int) := by omega
      clear hd hll
      rcases hcase with ⟨rfl, rfl, rfl⟩ | ⟨m, gd, cd, gc, cc, hj0, hD, hC, rfl, rfl, hne, hgd, hgc, hrd, hrc⟩
      · -- the first number
        have hD0 : D = [] := List.length_eq_zero_iff.1 (by simp only at b2; omega)
        have hC0 : C = [] := List.length_eq_zero_iff.1 (by simp only at b1 b2; omega)
        subst hD0 hC0
        rw [ddS_new (by simp)] at hstep
        have HS := hide hstep
        clear hstep b1 b2 b3 b4
        go_wp2_with (at_builtin; first
          | (refine wpList_append_lies _ rfl (.tmp 36) (.tmp 38) _ rfl w3.heap.size 2 i0 _ 1 8 Try.underlying31 hi hz0 hz1 hz2 rfl (by omega) (.slice none 0 0) 0 (il ([] : List Int)) (by rfl) (own_nil _ _ _ _) ⟨wr.heap.size, 0, none⟩ 1 1 (il [x]) (by rfl) (by rfl) (news_new (by simp)) (one_il _) (by omega) (by simp only [maxLen]; omega) (by omega) (by simp; omega) (wr.heap.size + 1) (by simp) ?_; intro g7 c7 w7 hown7 hgrow7 hat7 hlt7; rw [← il_append] at hown7; have HO7 := hide hown7; have hg7 := own_base hown7 g7 rfl; have hb7 : Below w3.heap.size w3 w7 := (hbel.alloc sr _).grown hgrow7 (by simp; omega) (fun k h => by simp [Value.ownBlock] at h; try omega); have s7 := hb7.size; have s77 := hgrow7.size; rw [size_alloc_] at s77; clear hown7)
          | (refine wpList_append_lies _ rfl (.tmp 40) (.tmp 41) _ rfl w3.heap.size 2 i0 _ 1 8 Try.underlying31 hi hz0 hz1 hz2 rfl (by omega) (.slice none 0 0) 0 (il ([] : List Int)) (by rfl) (own_nil _ _ _ _) ⟨w7.heap.size, 0, none⟩ 1 1 (il [0]) (by rfl) (by rfl) (news_new (by simp)) (one_il _) (by omega) (by simp only [maxLen]; omega) (by omega) (by simp; omega) (w7.heap.size + 1) (by simp) ?_; intro g8 c8 w8 hown8 hgrow8 hat8 hlt8; rw [← il_append] at hown8; have hr8 := (Row.of_own hown8).1; have hg8 := own_base hown8 g8 rfl; have hst := hr8.store 0 (.int .i64 1); rw [set_last ([] : List Int) 0 (show ([] : List Int).length = 0 from rfl)] at hst; have hfz := hr8.frozen 0; have yz := hr8.cell (il_getD (zs := ([] : List Int) ++ [0]) (i := 0) (by rw [List.length_append, (show ([] : List Int).length = 0 from rfl)]; simp)); rw [getD_last0 ([] : List Int) 0 (show ([] : List Int).length = 0 from rfl)] at yz; have HST := hide hst; have hne78 : g7 ≠ g8 := (by have e7 := at_nil hat7; have e8 := at_nil hat8; omega); have hb8 : Below w3.heap.size w3 w8 := (hb7.alloc s7 _).grown hgrow8 (by simp; omega) (fun k h => by simp [Value.ownBlock] at h; try omega); have hr7 := (((Row.of_own HO7.out).1.alloc _).grown hgrow8 (fun h => by simp [Value.ownBlock] at h)).far hne78 (.int .i64 1) (p := ⟨g8, 0, none⟩); have HR7 := hide hr7; clear hr7 hown8 hr8 hst))
        go_wp2_with fail
        go_roundw
        case rel => exact ⟨0 + 1, ([] : List Int) ++ [x], ([] : List Int) ++ [1], by first | rfl | go_num, by omega, HS.out, hb8.setCell (by simp; omega) _, .inr ⟨0, g7, c7, g8, c8, by omega, by rw [List.length_append, (show ([] : List Int).length = 0 from rfl)]; rfl, by rw [List.length_append, (show ([] : List Int).length = 0 from rfl)]; rfl, by first | rfl | simp, by first | rfl | simp, hne78, hg7, hg8, HR7.out, HST.out⟩⟩
        case measure => simp [intOf]; omega
      · simp only at b1 b2 b3 b4
        have hcl := b4 (C.getD m 0) (getD_mem (by omega))
        have yd := hrd.cell (il_getD (zs := D) (i := m) (by omega))
        have yc := hrc.cell (il_getD (zs := C) (i := m) (by omega))
        have n1 : (m : Int) < (m : Int) + 1 := by omega
        have n2 : m < m + 1 := by omega
        have n3 : IntKind.i64.wrap (m : Int) = (m : Int) := IntWalk.i64_in _ (by omega)
        have n4 : ((m : Int) + 1 == 0) = false := beq_eq_false_iff_ne.2 (by omega)
        by_cases hx : D.getD m 0 = x
        · rw [ddS_same hD hC hx] at hstep
          rw [hx] at yd
          have hst := hrc.store m (.int .i64 (C.getD m 0 + 1))
          rw [il_set] at hst
          have hfz := hrc.frozen m
          generalize C.getD m 0 = v at *
          have HST := hide hst
          have HRD := hide hrd
          have HS := hide hstep
          have HCL := hide hC
          have HDL := hide hD
          have q1 : (x != x) = false := by simp
          have n5 : IntKind.i64.wrap (v + 1) = v + 1 := IntWalk.i64_in _ (by omega)
          clear hst hrd hrc hstep b1 b2 b3 b4 hcl hx hC hD
          go_wp2_with fail
          go_roundw
          case rel => exact ⟨j + 1, D, C.set m (v + 1), by go_num, by omega, HS.out, hbel.setCell (by simp; omega) _, .inr ⟨m, gd, cd, gc, cc, by omega, HDL.out, by rw [List.length_set]; exact HCL.out, rfl, rfl, hne, hgd, hgc, HRD.out.far hne _, HST.out⟩⟩
          case measure => simp [intOf]; omega
        · have hlast : D.getLast? ≠ some x := by rw [last_getD hD]; intro h; injection h with h; exact hx h
          rw [ddS_new hlast] at hstep
          have HS := hide hstep
          have q1 : (D.getD m 0 != x) = true := by simpa using hx
          generalize D.getD m 0 = y at *
          have HRD := hide hrd
          have HRC := hide hrc
          have HCL := hide hC
          have HDL := hide hD
          have hgdl := hrd.lt
          have hgcl := hrc.lt
          have hm200 : m + 1 ≤ 200 := by omega
          clear hrd hrc hstep b1 b2 b3 b4 hcl hx hC hD hlast yc
          go_wp2_with (at_builtin; first
            | (refine wpList_append_lies _ rfl (.tmp 36) (.tmp 38) _ rfl w3.heap.size 2 i0 _ 1 8 Try.underlying31 hi hz0 hz1 hz2 rfl (by omega) (.slice (some ⟨gd, 0, none⟩) (m + 1) cd) (m + 1) (il D) (by rfl) ((HRD.out.alloc _).own hgd) ⟨wr.heap.size, 0, none⟩ 1 1 (il [x]) (by rfl) (by rfl) (news_new (by simp)) (one_il _) (by omega) (by simp only [maxLen]; omega) (by omega) (by simp; omega) (wr.heap.size + 1) (by simp) ?_; intro g7 c7 w7 hown7 hgrow7 hat7 hlt7; rw [← il_append] at hown7; have HO7 := hide hown7; have hg7 := own_base hown7 g7 rfl; have hb7 : Below w3.heap.size w3 w7 := (hbel.alloc sr _).grown hgrow7 (by simp; omega) (fun k h => by simp [Value.ownBlock] at h; try omega); have s7 := hb7.size; have s77 := hgrow7.size; rw [size_alloc_] at s77; clear hown7)
            | (refine wpList_append_lies _ rfl (.tmp 40) (.tmp 41) _ rfl w3.heap.size 2 i0 _ 1 8 Try.underlying31 hi hz0 hz1 hz2 rfl (by omega) (.slice (some ⟨gc, 0, none⟩) (m + 1) cc) (m + 1) (il C) (by rfl) (((HRC.out.alloc _).grown hgrow7 (fun h => by simp [Value.ownBlock] at h; omega)).alloc _ |>.own hgc) ⟨w7.heap.size, 0, none⟩ 1 1 (il [0]) (by rfl) (by rfl) (news_new (by simp)) (one_il _) (by omega) (by simp only [maxLen]; omega) (by omega) (by simp; omega) (w7.heap.size + 1) (by simp) ?_; intro g8 c8 w8 hown8 hgrow8 hat8 hlt8; rw [← il_append] at hown8; have hr8 := (Row.of_own hown8).1; have hg8 := own_base hown8 g8 rfl; have hst := hr8.store (m + 1) (.int .i64 1); rw [set_last C (m + 1) (show C.length = m + 1 from HCL.out)] at hst; have hfz := hr8.frozen (m + 1); have yz := hr8.cell (il_getD (zs := C ++ [0]) (i := (m + 1)) (by rw [List.length_append, (show C.length = m + 1 from HCL.out)]; simp)); rw [getD_last0 C (m + 1) (show C.length = m + 1 from HCL.out)] at yz; have HST := hide hst; have hne78 : g7 ≠ g8 := (by rcases at_old hat7 with h | h <;> rcases at_old hat8 with h2 | h2 <;> omega); have hb8 : Below w3.heap.size w3 w8 := (hb7.alloc s7 _).grown hgrow8 (by simp; omega) (fun k h => by simp [Value.ownBlock] at h; try omega); have hr7 := (((Row.of_own HO7.out).1.alloc _).grown hgrow8 (fun h => by simp [Value.ownBlock] at h; rcases at_old hat7 with h3 | h3 <;> omega)).far hne78 (.int .i64 1) (p := ⟨g8, (m + 1), none⟩); have HR7 := hide hr7; clear hr7 hown8 hr8 hst))
          go_wp2_with fail
          go_roundw
          case rel => exact ⟨j + 1, D ++ [x], C ++ [1], by first | rfl | go_num, by omega, HS.out, hb8.setCell (by simp; omega) _, .inr ⟨(m + 1), g7, c7, g8, c8, by omega, by rw [List.length_append, (show D.length = m + 1 from HDL.out)]; rfl, by rw [List.length_append, (show C.length = m + 1 from HCL.out)]; rfl, by first | rfl | simp, by first | rfl | simp, hne78, hg7, hg8, HR7.out, HST.out⟩⟩
          case measure => simp [intOf]; omega
    · have hjc : j = c := by omega
      subst hjc
      rw [List.take_of_length_le (by rw [HL.out]; exact Nat.le_refl _)] at hd
      obtain ⟨h1, h2⟩ := HDD.out
      rw [hd] at h1 h2
      rcases hcase with ⟨rfl, rfl, rfl⟩ | ⟨m, gd, cd, gc, cc, hj0, hD, hC, rfl, rfl, hne, hgd, hgc, hrd, hrc⟩
      · omega
      · simp only at h1 h2
        have HRD := hide hrd
        have HRC := hide hrc
        have H1 := hide h1
        have H2 := hide h2
        have HDL := hide hD
        clear hrd hrc h1 h2 hD hd
        go_wp2_with fail
        go_returns
        refine ⟨gd, cd, gc, cc, m, rfl, by rw [← H1.out]; exact HDL.out, by omega, by omega, ?_, ?_, hB3.trans (hbel.mono hsz3)⟩
        · rw [← H1.out]; exact HRD.out
        · unfold cnt; rw [← H2.out]; exact HRC.out

end Go.Proofs.Ytpagfikhcmeciaa
