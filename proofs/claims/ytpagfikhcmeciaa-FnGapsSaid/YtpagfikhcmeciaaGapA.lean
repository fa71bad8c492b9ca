/- The gaps behind multiples: the program's and the reference's walks. -/
import Derived.Test.YtpagfikhcmeciaaOrdE
import Derived.Deep.RegionLaw
namespace Go.Proofs.Ytpagfikhcmeciaa
open Go.RowKit Go.Sort

theorem gapl_at {r : Int → Int} {q : Int} {O : List Int} {j : Nat} : gapAt r q O j = (if j + 1 < O.length then r (O.getD (j + 1) 0) else q) - r (O.getD j 0) := rfl

set_option maxHeartbeats 1000000 in
set_option maxRecDepth 100000 in
theorem implGaps_any (p q : Int) (c : Nat) (w : World) (ho : okF p q = true) (hc : 1 ≤ c ∧ c ≤ 200) (hcq : (c : Int) ≤ q) :
    Calls Try.prog 39 #[.agg #[.int .i64 p, .int .i64 q], .int .i64 (c : Int)] w fun e w' => ∃ g cap, e = .returned (.slice (some ⟨g, 0, none⟩) c cap) ∧ w.heap.size ≤ g ∧ Row w' g 2 1 c cap (il (gapl (rst p q) q (ord (rst p q) c))) ∧ Below w.heap.size w w' := by
  obtain ⟨i0, hi, hz0, hz1, hz2⟩ := info_parts info_i64
  have mixed : Try.prog.follows .mixedOrders = true := by kernel_rfl
  obtain ⟨o1, o2, o3⟩ := okF_iff.1 ho
  have hL := fun w => implOrd_any p q c w ho ⟨by omega, by omega⟩ hcq
  have hR := fun x w' hx => leaves_any p q x w' hx o2 o1
  have hl := ord_len (rst p q) c
  have hM := fun (j : Nat) (hj : j < c) => ord_mem (n := c) hj (rst p q)
  generalize ord (rst p q) c = O at *
  have HM := hide hM
  clear hM ho
  go_enter Try.func39, Try.ntmps39
  go_wp2_with fail
  refine (hL _).mono ?_
  rintro e w2 ⟨g, cap, rfl, hg, hr, hb2⟩
  obtain ⟨a1, _, a3, HB⟩ := (Blk.new w 25 #[.int .i64 p, .int .i64 q]).after hb2 (by simp)
  have hB := bstep (show Below w.heap.size w _ by go_grown) hb2 (by simp)
  have HR2 := hide hr
  have hglt := hr.lt
  have hsz := hB.size
  clear hr hL a1 a3
  go_wp2_with fail
  go_loopw [5, 15] (fun lv i wr => ∃ j : Nat, i = .int .i64 j ∧ j ≤ c ∧ wr.ownsRow w2.heap.size 2 1 lv j (il ((gapl (rst p q) q O).take j)) ∧ Below w2.heap.size w2 wr) (fun _ i _ => c - (intOf i).toNat)
  case atStart => exact ⟨0, rfl, by omega, own_nil _ _ _ _, Below.refl _ _⟩
  case round =>
    obtain ⟨j, rfl, hj, hown, hbel⟩ := hrel
    have sr := hbel.size
    by_cases hlt : j < c
    · have HOW := hide hown
      obtain ⟨kk, _, a3, _⟩ := HB.out.after hbel HB.out.lt
      have l1 := cell_grown (a := ⟨w.heap.size, 0, none⟩) a3 (kk 0)
      have l2 := cell_grown (a := ⟨w.heap.size, 1, none⟩) a3 (kk 1)
      have x0 := kk 0
      have x1 := kk 1
      have y1 := (HR2.out.below hbel hglt).cell (il_getD (zs := O) (i := j) (by omega))
      have hmj := HM.out j hlt
      have i1 : (j : Int) < (c : Int) := by omega
      clear hown
      by_cases hj1 : j + 1 < c
      · clear kk

        have hmj2 := HM.out (j + 1) (by omega)
        have y2 := (HR2.out.below hbel hglt).cell (il_getD (zs := O) (i := j + 1) (by omega))
        have l3 := cell_grown (a := ⟨g, j + 1, none⟩) (show g < wr.heap.size by omega) y2
        have c1 := fun w' => hR (O.getD (j + 1) 0) w' (by omega)
        have hval : gapAt (rst p q) q O j = rst p q (O.getD (j + 1) 0) - rst p q (O.getD j 0) := by rw [gapl_at, if_pos (by omega)]
        have b2 := rst_bd p (show 0 < q by omega) (O.getD (j + 1) 0)
        generalize rst p q (O.getD (j + 1) 0) = u at *
        generalize O.getD (j + 1) 0 = x2 at *
        have c2 := fun w' => hR (O.getD j 0) w' (by omega)
        have b1 := rst_bd p (show 0 < q by omega) (O.getD j 0)
        generalize rst p q (O.getD j 0) = v at *
        generalize O.getD j 0 = x at *
        have HV := hide hval
        clear hval
        have i2 : (j : Int) + 1 < (c : Int) := by omega
        have i3 : j + 1 < c := by omega
        have i6 : (0 : Int) ≤ (j : Int) + 1 := by omega
        have i7 : ((j : Int) + 1).toNat = j + 1 := by omega
        have i4 : IntKind.i64.wrap ((j : Int) + 1) = (j : Int) + 1 := IntWalk.i64_in _ (by omega)
        have hd : decide ((j : Int) + 1 < (c : Int)) = true := decide_eq_true i2
        go_wp2_with fail
        go_quiet_grown (first | (with_reducible exact Calls.grown_of (c1 _)))
        have hw5 := (grow_below wr nq osq)
        have l4 := l1 nq osq
        have l5 := l2 nq osq
        have l6 := cell_grown (a := ⟨g, j, none⟩) (show g < wr.heap.size by omega) y1 nq osq
        generalize grow (wr.drewN nq) osq = w5 at *
        clear l1 l2 l3 c1
        have s5 := hw5.size
        have i5 : IntKind.i64.wrap (u - v) = (u - v) := IntWalk.i64_in _ (by omega)
        go_wp2_with fail
        refine (c2 _).mono ?_
        rintro e w6 ⟨rfl, mm, os, h6⟩
        have hw6 : Below w5.heap.size w5 w6 := by rw [h6]; exact grow_below _ _ _
        clear h6
        have hb6 := hw5.trans (hw6.mono s5)
        have hown6 := own_below HOW.out hb6
        have HO6 := hide hown6
        have s6 := hb6.size
        clear hown6
        go_wp2_with (at_builtin; refine wpList_append_own _ rfl (.tmp 34) (.tmp 40) _ rfl w2.heap.size 2 i0 _ 1 8 Try.underlying31 hi hz0 hz1 hz2 rfl (by omega) u5 j (il ((gapl (rst p q) q O).take j)) (by rfl) (own_below HO6.out ((Below.refl _ _).alloc (Nat.le_refl _) _)) ⟨w6.heap.size, 0, none⟩ 1 1 (il [(u - v)]) (by rfl) (by rfl) (news_new (by simp)) (one_il _) (by simp only [maxLen]; omega) (by omega) (by simp; omega) ?_; intro v8 w8 hown8 hgrow8 hnil8)
        rw [← il_append] at hown8
        have HO8 := hide hown8
        clear hown8 hnil8
        go_wp2_with fail
        go_roundw
        case rel =>
          refine ⟨j + 1, by go_num, by omega, ?_, ?_⟩
          · rw [gapl_take _ _ _ (by omega), HV.out]; exact HO8.out
          · have hb7 : Below w2.heap.size w2 w6 := hbel.trans (hb6.mono hbel.size)
            have s7 := hb7.size
            exact (hb7.alloc s7 _).grown hgrow8 (by simp; omega) (own_base HO6.out)
        case measure => simp [intOf]; omega

      · skip
        have hval : gapAt (rst p q) q O j = q - rst p q (O.getD j 0) := by rw [gapl_at, if_neg (by omega)]
        have c2 := fun w' => hR (O.getD j 0) w' (by omega)
        have b1 := rst_bd p (show 0 < q by omega) (O.getD j 0)
        generalize rst p q (O.getD j 0) = v at *
        generalize O.getD j 0 = x at *
        have HV := hide hval
        clear hval
        have i2 : ¬ (j : Int) + 1 < (c : Int) := by omega
        have hd : decide ((j : Int) + 1 < (c : Int)) = false := decide_eq_false i2
        have i4 : IntKind.i64.wrap ((j : Int) + 1) = (j : Int) + 1 := IntWalk.i64_in _ (by omega)
        obtain ⟨w5, hw5e⟩ : ∃ w5, w5 = wr := ⟨_, rfl⟩
        subst hw5e
        have hw5 := Below.refl w5.heap.size w5
        have l4 := (kk 0).trans (show (#[Value.int .i64 p, Value.int .i64 q] : Array Value)[0]? = some (.int .i64 p) from rfl)
        have l5 := (kk 1).trans (show (#[Value.int .i64 p, Value.int .i64 q] : Array Value)[1]? = some (.int .i64 q) from rfl)
        clear l1 l2
        have s5 := hw5.size
        have i5 : IntKind.i64.wrap (q - v) = (q - v) := IntWalk.i64_in _ (by omega)
        go_wp2_with fail
        refine (c2 _).mono ?_
        rintro e w6 ⟨rfl, mm, os, h6⟩
        have hw6 : Below w5.heap.size w5 w6 := by rw [h6]; exact grow_below _ _ _
        clear h6
        have hb6 := hw5.trans (hw6.mono s5)
        have hown6 := own_below HOW.out hb6
        have HO6 := hide hown6
        have s6 := hb6.size
        clear hown6
        go_wp2_with (at_builtin; refine wpList_append_own _ rfl (.tmp 34) (.tmp 40) _ rfl w2.heap.size 2 i0 _ 1 8 Try.underlying31 hi hz0 hz1 hz2 rfl (by omega) u5 j (il ((gapl (rst p q) q O).take j)) (by rfl) (own_below HO6.out ((Below.refl _ _).alloc (Nat.le_refl _) _)) ⟨w6.heap.size, 0, none⟩ 1 1 (il [(q - v)]) (by rfl) (by rfl) (news_new (by simp)) (one_il _) (by simp only [maxLen]; omega) (by omega) (by simp; omega) ?_; intro v8 w8 hown8 hgrow8 hnil8)
        rw [← il_append] at hown8
        have HO8 := hide hown8
        clear hown8 hnil8
        go_wp2_with fail
        go_roundw
        case rel =>
          refine ⟨j + 1, by go_num, by omega, ?_, ?_⟩
          · rw [gapl_take _ _ _ (by omega), HV.out]; exact HO8.out
          · have hb7 : Below w2.heap.size w2 w6 := hbel.trans (hb6.mono hbel.size)
            have s7 := hb7.size
            exact (hb7.alloc s7 _).grown hgrow8 (by simp; omega) (own_base HO6.out)
        case measure => simp [intOf]; omega

    · have hjc : j = c := by omega
      subst hjc
      rw [List.take_of_length_le (by rw [gapl_len]; omega)] at hown
      obtain ⟨g9, cap9, rfl, hg9, hr9⟩ := own_pos hown (by omega)
      have HR9 := hide hr9
      clear hown hr9
      go_wp2_with fail
      go_ret
      exact ⟨g9, cap9, rfl, by omega, HR9.out, bstep hB hbel hsz⟩

set_option maxHeartbeats 1000000 in
set_option maxRecDepth 100000 in
theorem specGaps_any (p q : Int) (c : Nat) (w : World) (ho : okF p q = true) (hc : 1 ≤ c ∧ c ≤ 200) (hcq : (c : Int) ≤ q) :
    Calls Try.prog 40 #[.agg #[.int .i64 p, .int .i64 q], .int .i64 (c : Int)] w fun e w' => ∃ g cap, e = .returned (.slice (some ⟨g, 0, none⟩) c cap) ∧ w.heap.size ≤ g ∧ Row w' g 2 1 c cap (il (gapl (rst p q) q (ord (rst p q) c))) ∧ Below w.heap.size w w' := by
  obtain ⟨i0, hi, hz0, hz1, hz2⟩ := info_parts info_i64
  have mixed : Try.prog.follows .mixedOrders = true := by kernel_rfl
  obtain ⟨o1, o2, o3⟩ := okF_iff.1 ho
  have hL := fun w => specOrd_any p q c w ho (by omega)
  have hR := fun x w' hx => l20Rest_any p q x w' hx o1
  have hl := ord_len (rst p q) c
  have hM := fun (j : Nat) (hj : j < c) => ord_mem (n := c) hj (rst p q)
  generalize ord (rst p q) c = O at *
  have HM := hide hM
  clear hM ho
  go_enter Try.func40, Try.ntmps40
  go_wp2_with fail
  refine (hL _).mono ?_
  rintro e w2 ⟨g, cap, rfl, hg, hr, hb2⟩
  obtain ⟨a1, _, a3, HB⟩ := (Blk.new w 25 #[.int .i64 p, .int .i64 q]).after hb2 (by simp)
  have hB := bstep (show Below w.heap.size w _ by go_grown) hb2 (by simp)
  have HR2 := hide hr
  have hglt := hr.lt
  have hsz := hB.size
  clear hr hL a1 a3
  go_wp2_with fail
  go_loopw [6, 7] (fun lv i wr => ∃ j : Nat, i = .int .i64 j ∧ j ≤ c ∧ wr.ownsRow w2.heap.size 2 1 lv j (il ((gapl (rst p q) q O).take j)) ∧ Below w2.heap.size w2 wr) (fun _ i _ => c - (intOf i).toNat)
  case atStart => exact ⟨0, rfl, by omega, (Row.lit (by simp) (by rfl) (by omega)).own (by simp), (Below.refl _ _).alloc (Nat.le_refl _) _⟩
  case round =>
    obtain ⟨j, rfl, hj, hown, hbel⟩ := hrel
    have sr := hbel.size
    by_cases hlt : j < c
    · have HOW := hide hown
      obtain ⟨kk, _, a3, _⟩ := HB.out.after hbel HB.out.lt
      have l1 := cell_grown (a := ⟨w.heap.size, 0, none⟩) a3 (kk 0)
      have l2 := cell_grown (a := ⟨w.heap.size, 1, none⟩) a3 (kk 1)
      have x0 := kk 0
      have x1 := kk 1
      have y1 := (HR2.out.below hbel hglt).cell (il_getD (zs := O) (i := j) (by omega))
      have hmj := HM.out j hlt
      have i1 : (j : Int) < (c : Int) := by omega
      clear hown
      by_cases hj1 : j + 1 < c
      · clear kk

        have hmj2 := HM.out (j + 1) (by omega)
        have y2 := (HR2.out.below hbel hglt).cell (il_getD (zs := O) (i := j + 1) (by omega))
        have l3 := cell_grown (a := ⟨g, j + 1, none⟩) (show g < wr.heap.size by omega) y2
        have c1 := fun w' => hR (O.getD (j + 1) 0) w' (by omega)
        have hval : gapAt (rst p q) q O j = rst p q (O.getD (j + 1) 0) - rst p q (O.getD j 0) := by rw [gapl_at, if_pos (by omega)]
        have b2 := rst_bd p (show 0 < q by omega) (O.getD (j + 1) 0)
        generalize rst p q (O.getD (j + 1) 0) = u at *
        generalize O.getD (j + 1) 0 = x2 at *
        have c2 := fun w' => hR (O.getD j 0) w' (by omega)
        have b1 := rst_bd p (show 0 < q by omega) (O.getD j 0)
        generalize rst p q (O.getD j 0) = v at *
        generalize O.getD j 0 = x at *
        have HV := hide hval
        clear hval
        have i2 : (j : Int) + 1 < (c : Int) := by omega
        have i3 : j + 1 < c := by omega
        have i6 : (0 : Int) ≤ (j : Int) + 1 := by omega
        have i7 : ((j : Int) + 1).toNat = j + 1 := by omega
        have i4 : IntKind.i64.wrap ((j : Int) + 1) = (j : Int) + 1 := IntWalk.i64_in _ (by omega)
        have hd : decide ((j : Int) + 1 < (c : Int)) = true := decide_eq_true i2
        go_wp2_with fail
        go_quiet_grown (first | (with_reducible exact Calls.grown_of (c1 _)))
        have hw5 := (grow_below wr nq osq)
        have l4 := l1 nq osq
        have l5 := l2 nq osq
        have l6 := cell_grown (a := ⟨g, j, none⟩) (show g < wr.heap.size by omega) y1 nq osq
        generalize grow (wr.drewN nq) osq = w5 at *
        clear l1 l2 l3 c1
        have s5 := hw5.size
        have i5 : IntKind.i64.wrap (u - v) = (u - v) := IntWalk.i64_in _ (by omega)
        go_wp2_with fail
        have hown5 := own_below HOW.out hw5
        have HO5 := hide hown5
        clear hown5
        go_region_law (first
          | (go_simp; go_at_call 55; refine (c2 _).mono ?_; rintro e w6 ⟨rfl, mm, os, h6⟩; have hw6 : Below w5.heap.size w5 w6 := (by rw [h6]; exact grow_drew _ _ _); clear h6; have s6 := hw6.size)
          | (refine step_append_lies _ (by rfl) (.tmp 33) (.tmp 42) _ (by rfl) w2.heap.size 2 i0 _ 1 8 Try.underlying31 hi hz0 hz1 hz2 rfl (by omega) u6 j (il ((gapl (rst p q) q O).take j)) (by rfl) (own_below (own_below HO5.out hw6) ((Below.refl _ _).alloc (Nat.le_refl _) _)) ⟨w6.heap.size, 0, none⟩ 1 1 (il [(u - v)]) (by rfl) (by rfl) (fun j u hu => news_new (w := w6) rfl j u hu) (one_il _) (by omega) (by simp only [maxLen]; omega) (by omega) (by simp; omega) (w6.heap.size + 1) (by simp) ?_; intro g8 cc8 w8 hown8 hgrow8 hat8 hlt8))
        all_goals
          rw [← il_append] at hown8
          have HO8 := hide hown8
          clear hown8 hat8
          go_wp2_with fail
          go_roundw
          case rel =>
            refine ⟨j + 1, by go_num, by omega, ?_, ?_⟩
            · rw [gapl_take _ _ _ (by omega), HV.out]; exact HO8.out
            · have hb7 : Below w2.heap.size w2 w6 := hbel.trans ((hw5.trans (hw6.mono s5)).mono hbel.size)
              have s7 := hb7.size
              exact (hb7.alloc s7 _).grown hgrow8 (by simp; omega) (own_base HO5.out)
          case measure => simp [intOf]; omega

      · skip
        have hval : gapAt (rst p q) q O j = q - rst p q (O.getD j 0) := by rw [gapl_at, if_neg (by omega)]
        have c2 := fun w' => hR (O.getD j 0) w' (by omega)
        have b1 := rst_bd p (show 0 < q by omega) (O.getD j 0)
        generalize rst p q (O.getD j 0) = v at *
        generalize O.getD j 0 = x at *
        have HV := hide hval
        clear hval
        have i2 : ¬ (j : Int) + 1 < (c : Int) := by omega
        have hd : decide ((j : Int) + 1 < (c : Int)) = false := decide_eq_false i2
        have i4 : IntKind.i64.wrap ((j : Int) + 1) = (j : Int) + 1 := IntWalk.i64_in _ (by omega)
        obtain ⟨w5, hw5e⟩ : ∃ w5, w5 = wr := ⟨_, rfl⟩
        subst hw5e
        have hw5 := Below.refl w5.heap.size w5
        have l4 := (kk 0).trans (show (#[Value.int .i64 p, Value.int .i64 q] : Array Value)[0]? = some (.int .i64 p) from rfl)
        have l5 := (kk 1).trans (show (#[Value.int .i64 p, Value.int .i64 q] : Array Value)[1]? = some (.int .i64 q) from rfl)
        clear l1 l2
        have s5 := hw5.size
        have i5 : IntKind.i64.wrap (q - v) = (q - v) := IntWalk.i64_in _ (by omega)
        go_wp2_with fail
        have hown5 := own_below HOW.out hw5
        have HO5 := hide hown5
        clear hown5
        go_region_law (first
          | (go_simp; go_at_call 55; refine (c2 _).mono ?_; rintro e w6 ⟨rfl, mm, os, h6⟩; have hw6 : Below w5.heap.size w5 w6 := (by rw [h6]; exact grow_drew _ _ _); clear h6; have s6 := hw6.size)
          | (refine step_append_lies _ (by rfl) (.tmp 33) (.tmp 42) _ (by rfl) w2.heap.size 2 i0 _ 1 8 Try.underlying31 hi hz0 hz1 hz2 rfl (by omega) u6 j (il ((gapl (rst p q) q O).take j)) (by rfl) (own_below (own_below HO5.out hw6) ((Below.refl _ _).alloc (Nat.le_refl _) _)) ⟨w6.heap.size, 0, none⟩ 1 1 (il [(q - v)]) (by rfl) (by rfl) (fun j u hu => news_new (w := w6) rfl j u hu) (one_il _) (by omega) (by simp only [maxLen]; omega) (by omega) (by simp; omega) (w6.heap.size + 1) (by simp) ?_; intro g8 cc8 w8 hown8 hgrow8 hat8 hlt8))
        all_goals
          rw [← il_append] at hown8
          have HO8 := hide hown8
          clear hown8 hat8
          go_wp2_with fail
          go_roundw
          case rel =>
            refine ⟨j + 1, by go_num, by omega, ?_, ?_⟩
            · rw [gapl_take _ _ _ (by omega), HV.out]; exact HO8.out
            · have hb7 : Below w2.heap.size w2 w6 := hbel.trans ((hw5.trans (hw6.mono s5)).mono hbel.size)
              have s7 := hb7.size
              exact (hb7.alloc s7 _).grown hgrow8 (by simp; omega) (own_base HO5.out)
          case measure => simp [intOf]; omega

    · have hjc : j = c := by omega
      subst hjc
      rw [List.take_of_length_le (by rw [gapl_len]; omega)] at hown
      obtain ⟨g9, cap9, rfl, hg9, hr9⟩ := own_pos hown (by omega)
      have HR9 := hide hr9
      clear hown hr9
      go_wp2_with fail
      go_ret
      exact ⟨g9, cap9, rfl, by omega, HR9.out, bstep hB hbel hsz⟩

end Go.Proofs.Ytpagfikhcmeciaa
