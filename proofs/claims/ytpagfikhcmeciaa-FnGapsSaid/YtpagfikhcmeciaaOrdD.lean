/- The reference's order of multiples: the walk. -/
import Derived.Test.YtpagfikhcmeciaaOrdA
import Derived.Test.YtpagfikhcmeciaaOwnL
namespace Go.Proofs.Ytpagfikhcmeciaa
open Go.RowKit Go.Sort

theorem il_take (l : List Int) (k : Nat) : (il l).take k = il (l.take k) := by simp [il, List.map_take]
theorem il_drop (l : List Int) (k : Nat) : (il l).drop k = il (l.drop k) := by simp [il, List.map_drop]
theorem Blk.below_ {w w' : World} {g : Nat} {t : TypeId} {cs : Array Value} {N : Nat} (h : Blk w g t cs) (hb : Below N w w') (hg : g < N) : Blk w' g t cs := (hb.block g hg).trans h

theorem Row.newsX {w : World} {g : Nat} {e : TypeId} {n cap : Nat} {L : List Int} (h : Row w g e 1 n cap (il L)) (i : Nat) : ∀ j u, (il (L.drop i))[j]? = some u → w.cell? ((if cap = i then (⟨g, 0, none⟩ : Addr) else ⟨g, i, none⟩).add j) = some u := by
  intro j u hu
  by_cases hc : cap = i
  · exfalso
    have h1 := h.len
    have h2 := h.cap_
    rw [il_len] at h1
    rw [List.getElem?_eq_none (by rw [il_len, List.length_drop]; omega)] at hu
    cases hu
  · rw [if_neg hc]
    have := h.news i j u
    rw [il_drop] at this
    exact this hu

set_option maxHeartbeats 1000000 in
set_option maxRecDepth 100000 in
theorem l20Order_any (p q : Int) (c : Nat) (w : World) (hq : 1 ≤ q ∧ q ≤ 1000000000) (hc : c ≤ 1000) :
    Calls Try.prog 42 #[.agg #[.int .i64 p, .int .i64 q], .int .i64 (c : Int)] w fun e w' => ∃ g cap, e = .returned (.slice (some ⟨g, 0, none⟩) c cap) ∧ w.heap.size ≤ g ∧ Row w' g 2 1 c cap (il (ord (rst p q) c)) ∧ Below w.heap.size w w' := by
  obtain ⟨i0, hi, hz0, hz1, hz2⟩ := info_parts info_i64
  have hR := fun x w' hx => l20Rest_any p q x w' hx hq
  have mixed : Try.prog.follows .mixedOrders = true := by kernel_rfl
  go_enter Try.func42, Try.ntmps42
  go_wp2_with fail
  go_loopw [5, 6] (fun v i wr => ∃ (j g cap : Nat), i = .int .i64 j ∧ j ≤ c ∧ v = .slice (some ⟨g, 0, none⟩) j cap ∧ w.heap.size < g ∧ Row wr g 2 1 j cap (il (ord (rst p q) j)) ∧ Blk wr w.heap.size 25 #[.int .i64 p, .int .i64 q] ∧ Below w.heap.size w wr) (fun _ i _ => c - (intOf i).toNat)
  case atStart => exact ⟨0, w.heap.size + 1, 0, rfl, by omega, rfl, by omega, Row.lit (by simp) (by rfl) (by omega), (Blk.new w _ _).alloc _, by go_grown⟩
  case round =>
    obtain ⟨j, g, cap, rfl, hj, rfl, hg, hrow, hblk, hbel⟩ := hrel
    by_cases hlt : j < c
    · have hglt := hrow.lt
      have HO1 := hide (show ord (rst p q) (j + 1) = (ord (rst p q) j).take (insK (rst p q) (ord (rst p q) j) j (ord (rst p q) j).length) ++ (j : Int) :: (ord (rst p q) j).drop (insK (rst p q) (ord (rst p q) j) j (ord (rst p q) j).length) from rfl)
      rw [ord_len] at HO1
      have HW := hide hrow
      have HB := hide hblk
      have i1 : (j : Int) < (c : Int) := by omega
      clear hrow hblk
      have szz := hbel.size
      obtain ⟨w1, hw1⟩ : ∃ w1, w1 = wr := ⟨_, rfl⟩
      subst hw1
      go_wp2_with fail
      go_loopw [7] (fun kk wi => ∃ k : Nat, kk = .int .i64 k ∧ k ≤ j ∧ insK (rst p q) (ord (rst p q) j) j j = insK (rst p q) (ord (rst p q) j) j k ∧ Below w1.heap.size w1 wi) (fun kk _ => (intOf kk).toNat)
      case atStart => exact ⟨j, rfl, Nat.le_refl _, rfl, Below.refl _ _⟩
      case round =>
        obtain ⟨k, rfl, hk, hins, hwi⟩ := hrel
        obtain ⟨a1, _, a3, _⟩ := HB.out.after hwi (by omega)
        have l1 := cell_grown (a := ⟨w.heap.size, 0, none⟩) a3 (a1 0)
        have l2 := cell_grown (a := ⟨w.heap.size, 1, none⟩) a3 (a1 1)
        have swi := hwi.size
        have c2 := fun w' => hR (j : Int) w' (by omega)
        clear a1 a3
        by_cases hk0 : k = 0
        · subst hk0
          rw [show insK (rst p q) (ord (rst p q) j) j 0 = 0 from rfl] at hins
          rw [hins] at HO1
          clear hins
          go_wp2_with fail
          go_quiet (fail)
          have hw5 := belowN hwi nq
          generalize wr.drewN nq = w5 at *
          clear l1 l2 c2

          obtain ⟨oc1, oc2⟩ := HW.out.cap_
          have hbr : Below w.heap.size w w5 := bstep hbel hw5 hbel.size
          have sw5 := hw5.size
          have sz := hbel.size
          have r5 := HW.out.below hw5 hglt
          have t5 := r5.newsT 0
          rw [il_take] at t5
          have hown := fun W hb h => l00Own_any g 0 0 cap ((ord (rst p q) j).take 0) W (by rw [List.length_take, ord_len]; omega) (by omega) h hb
          have HO := hide (hown w5 (by omega) t5)
          have HR5 := hide r5
          have HT := hide (HB.out.below_ hw5 (by omega))
          clear hown t5 r5
          go_wp2_with fail
          refine HO.out.mono ?_
          rintro e w6 ⟨g6, cap6, rfl, hg6, hr6, hb6⟩
          have s6 := hb6.size
          have r6g := HR5.out.below hb6 (by omega)
          have HR6 := hide hr6
          have hlt6 := hr6.lt
          clear hr6
          go_wp2_with (at_builtin; first
            | (refine wpList_append_own _ rfl (.tmp 37) (.tmp 39) _ rfl w5.heap.size 2 i0 _ 1 8 Try.underlying31 hi hz0 hz1 hz2 rfl (by omega) (.slice (some ⟨g6, 0, none⟩) 0 cap6) 0 (il ((ord (rst p q) j).take 0)) (by rfl) ((HR6.out.alloc _).own hg6) ⟨w6.heap.size, 0, none⟩ 1 1 (il [(j : Int)]) (by rfl) (by rfl) (news_new (by simp)) (one_il _) (by simp only [maxLen]; omega) (by omega) (by simp; omega) ?_; intro v7 w7 hown7 hgrow7 hnil7; obtain ⟨g7, cap7, rfl, hg7, hr7⟩ := own_some hown7 (fun h => by have := (hnil7.1 h).1; cases this); rw [← il_append] at hr7; have hgr7 : w6.grownBy w7 (some g6) := gtrans (World.grownBy_alloc _ _ _) hgrow7; have r7g := r6g.grown hgr7 (fun h => by injection h; omega); have t7 := r7g.newsX 0; have s7 := hgr7.size; have HT7 := hide t7; have HR7 := hide hr7; clear t7 hr7 hown7 hnil7 hgrow7 r6g)
            | (refine wpList_append_own _ rfl (.tmp 41) (.tmp 44) _ rfl w5.heap.size 2 i0 _ 1 8 Try.underlying31 hi hz0 hz1 hz2 rfl (by omega) (.slice (some ⟨g7, 0, none⟩) (0 + 1) cap7) (0 + 1) (il ((ord (rst p q) j).take 0 ++ [(j : Int)])) (by rfl) (HR7.out.own hg7) (if cap = 0 then (⟨g, 0, none⟩ : Addr) else ⟨g, 0, none⟩) (j - 0) (cap - 0) (il ((ord (rst p q) j).drop 0)) (by first | rfl | (rw [ite_self]; rfl) | (rw [← apply_ite some]; rfl)) (by rw [il_len, List.length_drop, ord_len]; omega) HT7.out (one_il _) (by simp only [maxLen]; omega) (by omega) (by omega) ?_; intro v8 w8 hown8 hgrow8 hnil8; obtain ⟨g8, cap8, rfl, hg8, hr8⟩ := own_some hown8 (fun h => by have := (hnil8.1 h).1; cases this); rw [← il_append] at hr8; have hgr8 : w7.grownBy w8 (some g7) := hgrow8))
          have HR8 := hide hr8
          clear hr8 hown8 hnil8 hgrow8
          go_wp2_with fail
          go_roundw
          case rel =>
            have hb7 : Below w5.heap.size w5 w7 := (hb6.trans (Below.refl _ _)).grown hgr7 s6 (fun kx h => by injection h; omega)
            have hb8 : Below w5.heap.size w5 w8 := hb7.grown hgr8 hb7.size (fun kx h => by injection h; omega)
            have hj : 0 + 1 + (j - 0) = j + 1 := by omega
            refine ⟨j + 1, g8, cap8, by simp, by omega, by first | rfl | (congr 1; omega) | congr 1, by omega, ?_, HT.out.below_ hb8 (by omega), bstep hbr hb8 (by omega)⟩
            have := HR8.out
            rw [hj] at this
            rw [HO1.out]
            simpa using this
          case measure => simp [intOf]; omega
        · obtain ⟨i, rfl⟩ : ∃ i, k = i + 1 := ⟨k - 1, by omega⟩
          have hgi := (HW.out.below hwi hglt).cell (il_getD (zs := ord (rst p q) j) (i := i) (by rw [ord_len]; omega))
          have l3 := cell_grown (a := ⟨g, i, none⟩) (show g < wr.heap.size by omega) hgi
          have hmi := ord_mem (n := j) (i := i) (by omega) (rst p q)
          have c1 := fun w' => hR ((ord (rst p q) j).getD i 0) w' (by omega)
          have hstep : insK (rst p q) (ord (rst p q) j) j (i + 1) = if rst p q j < rst p q ((ord (rst p q) j).getD i 0) then insK (rst p q) (ord (rst p q) j) j i else i + 1 := rfl
          rw [hstep] at hins
          generalize rst p q ((ord (rst p q) j).getD i 0) = u at *
          generalize rst p q (j : Int) = v at *
          generalize (ord (rst p q) j).getD i 0 = x at *
          have i2 : (i : Int) < (j : Int) := by omega
          have i3 : IntKind.i64.wrap (i : Int) = i := IntWalk.i64_in _ (by omega)
          have i4 : i < j := by omega
          clear hgi hstep
          by_cases hvu : v < u
          · rw [if_pos hvu] at hins
            have hd : decide (v < u) = true := decide_eq_true hvu
            have HINS := hide hins
            clear hins
            go_wp2_with fail
            go_quiet_grown (first | (with_reducible exact Calls.grown_of (c1 _)) | (with_reducible exact Calls.grown_of (c2 _)))
            have hw5 := hwi.trans ((grow_below wr nq osq).mono hwi.size)
            generalize grow (wr.drewN nq) osq = w5 at *
            clear l1 l2 l3 c1 c2
            go_wp2_with fail
            go_roundw
            case rel => exact ⟨i, by first | rfl | simp, by omega, HINS.out, hw5⟩
            case measure => simp [intOf]
          · rw [if_neg hvu] at hins
            have hd : decide (v < u) = false := decide_eq_false hvu
            rw [hins] at HO1
            have HINS := hide hins
            clear hins
            go_wp2_with fail
            go_quiet_grown (first | (with_reducible exact Calls.grown_of (c1 _)) | (with_reducible exact Calls.grown_of (c2 _)))
            have hw5 := hwi.trans ((grow_below wr nq osq).mono hwi.size)
            generalize grow (wr.drewN nq) osq = w5 at *
            clear l1 l2 l3 c1 c2

            obtain ⟨oc1, oc2⟩ := HW.out.cap_
            have hbr : Below w.heap.size w w5 := bstep hbel hw5 hbel.size
            have sw5 := hw5.size
            have sz := hbel.size
            have r5 := HW.out.below hw5 hglt
            have t5 := r5.newsT (i + 1)
            rw [il_take] at t5
            have hown := fun W hb h => l00Own_any g 0 (i + 1) cap ((ord (rst p q) j).take (i + 1)) W (by rw [List.length_take, ord_len]; omega) (by omega) h hb
            have HO := hide (hown w5 (by omega) t5)
            have HR5 := hide r5
            have HT := hide (HB.out.below_ hw5 (by omega))
            clear hown t5 r5
            go_wp2_with fail
            refine HO.out.mono ?_
            rintro e w6 ⟨g6, cap6, rfl, hg6, hr6, hb6⟩
            have s6 := hb6.size
            have r6g := HR5.out.below hb6 (by omega)
            have HR6 := hide hr6
            have hlt6 := hr6.lt
            clear hr6
            go_wp2_with (at_builtin; first
              | (refine wpList_append_own _ rfl (.tmp 37) (.tmp 39) _ rfl w5.heap.size 2 i0 _ 1 8 Try.underlying31 hi hz0 hz1 hz2 rfl (by omega) (.slice (some ⟨g6, 0, none⟩) (i + 1) cap6) (i + 1) (il ((ord (rst p q) j).take (i + 1))) (by rfl) ((HR6.out.alloc _).own hg6) ⟨w6.heap.size, 0, none⟩ 1 1 (il [(j : Int)]) (by rfl) (by rfl) (news_new (by simp)) (one_il _) (by simp only [maxLen]; omega) (by omega) (by simp; omega) ?_; intro v7 w7 hown7 hgrow7 hnil7; obtain ⟨g7, cap7, rfl, hg7, hr7⟩ := own_some hown7 (fun h => by have := (hnil7.1 h).1; cases this); rw [← il_append] at hr7; have hgr7 : w6.grownBy w7 (some g6) := gtrans (World.grownBy_alloc _ _ _) hgrow7; have r7g := r6g.grown hgr7 (fun h => by injection h; omega); have t7 := r7g.newsX (i + 1); have s7 := hgr7.size; have HT7 := hide t7; have HR7 := hide hr7; clear t7 hr7 hown7 hnil7 hgrow7 r6g)
              | (refine wpList_append_own _ rfl (.tmp 41) (.tmp 44) _ rfl w5.heap.size 2 i0 _ 1 8 Try.underlying31 hi hz0 hz1 hz2 rfl (by omega) (.slice (some ⟨g7, 0, none⟩) ((i + 1) + 1) cap7) ((i + 1) + 1) (il ((ord (rst p q) j).take (i + 1) ++ [(j : Int)])) (by rfl) (HR7.out.own hg7) (if cap = (i + 1) then (⟨g, 0, none⟩ : Addr) else ⟨g, (i + 1), none⟩) (j - (i + 1)) (cap - (i + 1)) (il ((ord (rst p q) j).drop (i + 1))) (by first | rfl | (rw [ite_self]; rfl) | (rw [← apply_ite some]; rfl)) (by rw [il_len, List.length_drop, ord_len]; omega) HT7.out (one_il _) (by simp only [maxLen]; omega) (by omega) (by omega) ?_; intro v8 w8 hown8 hgrow8 hnil8; obtain ⟨g8, cap8, rfl, hg8, hr8⟩ := own_some hown8 (fun h => by have := (hnil8.1 h).1; cases this); rw [← il_append] at hr8; have hgr8 : w7.grownBy w8 (some g7) := hgrow8))
            have HR8 := hide hr8
            clear hr8 hown8 hnil8 hgrow8
            go_wp2_with fail
            go_roundw
            case rel =>
              have hb7 : Below w5.heap.size w5 w7 := (hb6.trans (Below.refl _ _)).grown hgr7 s6 (fun kx h => by injection h; omega)
              have hb8 : Below w5.heap.size w5 w8 := hb7.grown hgr8 hb7.size (fun kx h => by injection h; omega)
              have hj : (i + 1) + 1 + (j - (i + 1)) = j + 1 := by omega
              refine ⟨j + 1, g8, cap8, by simp, by omega, by first | rfl | (congr 1; omega) | congr 1, by omega, ?_, HT.out.below_ hb8 (by omega), bstep hbr hb8 (by omega)⟩
              have := HR8.out
              rw [hj] at this
              rw [HO1.out]
              simpa using this
            case measure => simp [intOf]; omega
    · have hjc : j = c := by omega
      subst hjc
      have HW := hide hrow
      clear hrow
      go_wp2_with fail
      go_ret
      exact ⟨g, cap, rfl, by omega, HW.out, hbel⟩

end Go.Proofs.Ytpagfikhcmeciaa
