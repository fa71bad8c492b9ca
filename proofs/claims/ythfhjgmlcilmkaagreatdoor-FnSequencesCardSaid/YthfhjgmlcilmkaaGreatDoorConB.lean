/- ConjugatesOf: the reference's. -/
import Derived.Test.YthfhjgmlcilmkaaGreatDoorConP
import Derived.Test.YthfhjgmlcilmkaaGreatDoorWordL
import Derived.Test.YthfhjgmlcilmkaaGreatDoorOwn
import Derived.Sort.Walk0
import Derived.Laws.Cover1
import Derived.BigQuiet
import Derived.Deep.DeepCutAuto
namespace Go.Proofs.YthfhjgmlcilmkaaGreatDoor
open Go.RowKit Go.Sort

theorem info_strD : (Tryz.prog.info? 9).map (fun i => (i.zero, i.size, i.bytes)) = some (some (.string ⟨#[]⟩), 1, 16) := by kernel_rfl
theorem okW_len {l : List UInt8} (h : okW l = true) : 1 ≤ l.length ∧ l.length ≤ 400 := by
  unfold okW at h
  simp only [Bool.and_eq_true, decide_eq_true_eq] at h
  exact h.2
theorem Row.newsS {w : World} {g : Nat} {e : TypeId} {n cap : Nat} {xs : List Value} (h : Row w g e 1 n cap xs) (i : Nat) : ∀ j u, (xs.drop i)[j]? = some u → w.cell? ((if cap = i then (⟨g, 0, none⟩ : Addr) else ⟨g, i, none⟩).add j) = some u := by
  intro j u hu
  by_cases hc : cap = i
  · exfalso
    have h1 := h.len
    have h2 := h.cap_
    rw [List.getElem?_eq_none (by rw [List.length_drop]; omega)] at hu
    cases hu
  · rw [if_neg hc]
    exact h.news i j u hu
theorem bas_take (O : List (List UInt8)) (k : Nat) : (ssl (bas O)).take k = ssl (bas (O.take k)) := by simp [ssl, bas, List.map_take]
theorem bas_drop (O : List (List UInt8)) (k : Nat) : (ssl (bas O)).drop k = ssl (bas (O.drop k)) := by simp [ssl, bas, List.map_drop]
theorem bas_put (O : List (List UInt8)) (k : Nat) (x : List UInt8) : ssl (bas (O.take k)) ++ ssl [⟨x.toArray⟩] ++ ssl (bas (O.drop k)) = ssl (bas (O.take k ++ [x] ++ O.drop k)) := by simp [ssl, bas]
theorem put_len (O : List (List UInt8)) {k : Nat} (h : k ≤ O.length) (x : List UInt8) : (O.take k ++ [x] ++ O.drop k).length = O.length + 1 := by
  rw [List.length_append, List.length_append, List.length_take, List.length_drop, List.length_singleton]
  omega
theorem rot_baD (s : ByteArray) (k : Nat) : s.extract k s.size ++ s.extract 0 k = ⟨(rot s.data.toList k).toArray⟩ := by
  apply ByteArray.ext
  apply Array.ext'
  have e1 : (s.extract k s.size).data.toList = s.data.toList.drop k := by
    rcases s with ⟨⟨x⟩⟩
    simp [ByteArray.extract, ByteArray.copySlice, ByteArray.size]
    exact List.take_of_length_le (by simp)
  have e2 : (s.extract 0 k).data.toList = s.data.toList.take k := by simp [ByteArray.extract, ByteArray.copySlice]
  unfold rot
  rw [← e1, ← e2]
  simp

set_option maxRecDepth 100000 in
set_option maxHeartbeats 4000000 in
theorem specConjugatesOf_any (s : ByteArray) (w : World) (hs : s.size ≤ 9223372036854775807) :
    Calls Tryz.prog 10 #[.string s] w fun e w' => ∃ v c out, e = .returned (.tuple #[v, .int .i64 c]) ∧ ConR s.data.toList c out ∧ LstS w' w.heap.size v (bas out) ∧ Below w.heap.size w w' := by
  obtain ⟨i0, hi, hz0, hz1, hz2⟩ := info_parts info_strD
  have hlen : s.data.toList.length = s.size := by simp
  have hW := l23Ok_any s
  by_cases ho : okW s.data.toList = true
  · rw [ho] at hW
    have h1 := (okW_len ho).1
    rw [hlen] at h1
    by_cases hbig : 60 < s.size
    · have HR : Hid (ConR s.data.toList 2 []) := .inr (.inl ⟨ho, by rw [hlen]; exact hbig, rfl, rfl⟩)
      have i1 : (60 : Int) < (s.size : Int) := by omega
      clear ho hlen
      go_enter Tryz.func10, Tryz.ntmps10
      go_wp2_with fail
      refine (hW _ hs).mono ?_
      rintro e w1 ⟨rfl, rfl⟩
      go_wp2_with fail
      go_returns
      exact ⟨_, 2, [], rfl, HR.out, LstS.nil_ _ _, Below.refl _ _⟩
    · have HR : Hid (∀ out, CR s.data.toList s.size out → ConR s.data.toList 0 out) := fun out h => .inr (.inr ⟨ho, by omega, rfl, by rw [hlen]; exact h⟩)
      have i1 : ¬ (60 : Int) < (s.size : Int) := by omega
      have HROT := hide (rot_baD s)
      clear ho hlen
      obtain ⟨l, hl⟩ : ∃ l, s.data.toList = l := ⟨_, rfl⟩
      rw [hl] at HR HROT
      simp only [hl]
      clear hl
      go_enter Tryz.func10, Tryz.ntmps10
      go_wp2_with fail
      refine (hW _ hs).mono ?_
      rintro e w1 ⟨rfl, rfl⟩
      clear hW
      go_wp2_with fail
      go_loopw [4, 5] (fun v i wr => ∃ (j m g cap : Nat) (O : List (List UInt8)), i = .int .i64 j ∧ j ≤ s.size ∧ v = .slice (some ⟨g, 0, none⟩) m cap ∧ O.length = m ∧ m ≤ j ∧ w.heap.size ≤ g ∧ Row wr g 9 1 m cap (ssl (bas O)) ∧ CR l j O ∧ Below w.heap.size w wr) (fun _ i _ => s.size - (intOf i).toNat)
      case atStart => exact ⟨0, 0, w.heap.size, 0, [], rfl, by omega, rfl, rfl, by omega, Nat.le_refl _, Row.lit rfl rfl (by omega), ⟨by simp, fun y => by simp⟩, by go_grown⟩
      case round =>
        obtain ⟨j, m, g, cap, O, rfl, hj, rfl, hm, hmj, hg, hrow, hcr, hbel⟩ := hrel
        have HO := hide hrow
        have HC := hide hcr
        have HML := hide hm
        have sz := hbel.size
        have hglt := hrow.lt
        have hcap := hrow.cap_
        obtain ⟨w1, hw1⟩ : ∃ w1, w1 = wr := ⟨_, rfl⟩
        subst hw1
        clear hrow hcr hm
        by_cases hlt : j < s.size
        · have i2 : (j : Int) < (s.size : Int) := by omega
          have i3 : (j : Int) ≤ (s.size : Int) := by omega
          have i6 : ¬ 9223372036854775807 < s.size := by omega
          have i7 : s.size ≤ 60 := by omega
          have hZ := HROT.out j
          obtain ⟨Z, hZ2⟩ : ∃ Z : ByteArray, (⟨(rot l j).toArray⟩ : ByteArray) = Z := ⟨_, rfl⟩
          rw [hZ2] at hZ
          have HZL : Hid (Z.toList = rot l j) := by subst hZ2; rw [show Hid (_ = rot l j) = (_ = rot l j) from rfl, Lib.toList_data]
          have HZ2 := hide hZ2
          clear hZ2
          go_wp2_with fail
          go_quiet (fail)
          have hw5 := belowN (Below.refl w1.heap.size w1) nq
          have hO5 := HO.out.below hw5 hglt
          have HO5 := hide hO5
          have hb5 := bstep hbel hw5 sz
          generalize w1.drewN nq = w5 at *
          have s5 := hb5.size
          have hglt5 := hO5.lt
          clear hO5 HO hw5 hZ hbel sz
          go_wp2_with fail
          go_loopw [7] (fun kk wi => ∃ k : Nat, kk = .int .i64 k ∧ k ≤ m ∧ (∀ i (hi : i < O.length), k ≤ i → rot l j < O[i]) ∧ w5 = wi) (fun kk _ => (intOf kk).toNat)
          case atStart => exact ⟨m, rfl, Nat.le_refl _, fun i hi h => by have := HML.out; omega, rfl⟩
          case round =>
            obtain ⟨k, rfl, hk, hhi, rfl⟩ := hrel
            have HHI := hide hhi
            clear hhi
            by_cases hk0 : k = 0
            · subst hk0
              have HPUT : Hid (CR l (j + 1) (O.take 0 ++ [rot l j] ++ O.drop 0)) := HC.out.put (by omega) (fun _ _ h => by omega) HHI.out
              have HLEN := hide (put_len O (show 0 ≤ O.length by have := HML.out; omega) (rot l j))
              have hkm : 0 ≤ m := by omega
              have t5 := HO5.out.newsT (0)
              rw [bas_take] at t5
              have hnews : ∀ W, Below w5.heap.size w5 W → ∀ j u, (ssl (bas (O.take (0))))[j]? = some u → W.cell? ((⟨g, 0, none⟩ : Addr).add j) = some u := fun W hb j u hu => by
                have hcl := t5 j u hu
                have e : (⟨g, 0, none⟩ : Addr).add j = ⟨g, j, none⟩ := by unfold Addr.add; split <;> simp_all
                rw [e] at hcl ⊢
                exact (hb.cell (p := ⟨g, j, none⟩) hglt5).trans hcl
              have HNW := hide hnews
              have htl : (ssl (bas (O.take (0)))).length = (0) * 1 := by rw [ssl_len, bas_len, List.length_take]; have := HML.out; omega
              have HTL := hide htl
              have hdl : (ssl (bas (O.drop (0)))).length = (m - 0) * 1 := by rw [ssl_len, bas_len, List.length_drop]; have := HML.out; omega
              have HDL := hide hdl
              clear t5 hnews htl hdl HHI
              go_upto_region 15 with (at_builtin; refine wpList_append_own _ rfl (.tmp 55) (.tmp 58) _ rfl w5.heap.size 9 i0 _ 1 16 Tryz.underlying31 hi hz0 hz1 hz2 rfl (by omega) (.slice (some ⟨w5.heap.size, 0, none⟩) 0 0) 0 [] (by rfl) ((Row.lit (n := 0) (cs := #[]) rfl rfl (by omega)).own (Nat.le_refl _)) ⟨g, 0, none⟩ 0 cap (ssl (bas (O.take 0))) (by rfl) HTL.out (HNW.out _ ((Below.refl _ _).alloc (Nat.le_refl _) _)) (one_ssl _) (by simp only [maxLen]; omega) (by omega) (by simp) ?_; intro v6 w6 hown6 hgrow6 hnil6; simp only [Nat.zero_add, List.nil_append] at hown6; obtain ⟨g6, cap6, rfl, hg6, hr6⟩ := own_some hown6 (fun h => by have := (hnil6.1 h).1; cases this))
              have hgr6 : w5.grownBy w6 (some w5.heap.size) := gtrans (World.grownBy_alloc _ _ _) hgrow6
              have hb6 : Below w5.heap.size w5 w6 := (Below.refl w5.heap.size w5).grown hgr6 (Nat.le_refl _) (fun k h => by injection h; omega)
              have s6 := hb6.size
              have HR6 := hide hr6
              have hlt6 := hr6.lt
              clear hown6 hgrow6 hnil6 hr6 hgr6
              go_upto_region 16 with (at_builtin; refine wpList_append_own _ rfl (.tmp 60) (.tmp 62) _ rfl w5.heap.size 9 i0 _ 1 16 Tryz.underlying31 hi hz0 hz1 hz2 rfl (by omega) (.slice (some ⟨g6, 0, none⟩) 0 cap6) 0 (ssl (bas (O.take 0))) (by rfl) ((HR6.out.alloc _).own hg6) ⟨w6.heap.size, 0, none⟩ 1 1 (ssl [Z]) (by rfl) (by rfl) (news_new (by simp)) (one_ssl _) (by simp only [maxLen]; omega) (by omega) (by simp; omega) ?_; intro v7 w7 hown7 hgrow7 hnil7; obtain ⟨g7, cap7, rfl, hg7, hr7⟩ := own_some hown7 (fun h => by have := (hnil7.1 h).1; cases this))
              have hb7 : Below w5.heap.size w5 w7 := (hb6.alloc s6 _).grown hgrow7 (by simp; omega) (fun k h => by simp [Value.ownBlock] at h; omega)
              have s7 := hb7.size
              have HR7 := hide hr7
              have hlt7 := hr7.lt
              have hn7 := (HO5.out.below hb7 hglt5).newsS 0
              rw [bas_drop] at hn7
              have HN7 := hide hn7
              clear hown7 hgrow7 hnil7 hr7 hn7 HNW
              go_wp2_with (at_builtin; refine wpList_append_own _ rfl (.tmp 64) (.tmp 67) _ rfl w5.heap.size 9 i0 _ 1 16 Tryz.underlying31 hi hz0 hz1 hz2 rfl (by omega) (.slice (some ⟨g7, 0, none⟩) (0 + 1) cap7) (0 + 1) (ssl (bas (O.take 0)) ++ ssl [Z]) (by rfl) (HR7.out.own hg7) (if cap = 0 then (⟨g, 0, none⟩ : Addr) else ⟨g, 0, none⟩) (m - 0) (cap - 0) (ssl (bas (O.drop 0))) (by first | rfl | (rw [ite_self]; rfl) | (rw [← apply_ite some]; rfl)) HDL.out HN7.out (one_ssl _) (by simp only [maxLen]; omega) (by omega) (by omega) ?_; intro v8 w8 hown8 hgrow8 hnil8; obtain ⟨g8, cap8, rfl, hg8, hr8⟩ := own_some hown8 (fun h => by have := (hnil8.1 h).1; cases this))
              have hb8 : Below w5.heap.size w5 w8 := hb7.grown hgrow8 s7 (fun k h => by simp [Value.ownBlock] at h; omega)
              rw [← HZ2.out, bas_put] at hr8
              have HR8 := hide hr8
              clear hown8 hgrow8 hnil8 hr8
              go_wp2_with fail
              go_roundw
              case rel =>
                have e : 0 + 1 + (m - 0) = m + 1 := by omega
                have hr := HR8.out
                rw [e] at hr
                exact ⟨j + 1, m + 1, g8, cap8, _, by go_num, by omega, by first | rfl | (congr 1; done) | (congr 1; omega), by rw [HLEN.out]; have := HML.out; omega, by omega, by omega, hr, HPUT.out, bstep hb5 hb8 s5⟩
              case measure => first | (simp [intOf]; done) | (simp [intOf]; omega)
            · obtain ⟨i, rfl⟩ : ∃ i, k = i + 1 := ⟨k - 1, by omega⟩
              have hio : i < O.length := by have := HML.out; omega
              have hc := HO5.out.cell (bas_at O hio)
              obtain ⟨Y, hY⟩ : ∃ Y : ByteArray, (⟨(O[i]).toArray⟩ : ByteArray) = Y := ⟨_, rfl⟩
              have hYL : Y.toList = O[i] := by subst hY; rw [Lib.toList_data]
              rw [hY] at hc
              have i4 : (i : Int) < (m : Int) := by omega
              have i5 : IntKind.i64.wrap (i : Int) = i := IntWalk.i64_in _ (by omega)
              clear hY
              rcases Std.lt_trichotomy (rot l j) (O[i]) with hlo | heq | hlo
              · have b1 : Op.bytesLess Y.toList Z.toList = false := by
                  rw [bytesLess_eq, hYL, HZL.out]
                  exact decide_eq_false (fun h => Std.lt_irrefl (Std.lt_trans h hlo))
                have b2 : (Y.toList == Z.toList) = false := by
                  rw [hYL, HZL.out]
                  simp only [beq_eq_false_iff_ne]
                  intro h
                  rw [h] at hlo
                  exact Std.lt_irrefl hlo
                have HN : Hid (∀ i' (hi' : i' < O.length), i ≤ i' → rot l j < O[i']) := by
                  intro i' hi' h
                  by_cases e : i' = i
                  · subst e; exact hlo
                  · exact HHI.out i' hi' (by omega)
                clear hYL hlo
                go_wp2_with fail
                go_roundw
                case rel => exact ⟨i, by first | rfl | go_num, by omega, HN.out, trivial⟩
                case measure => first | (simp [intOf]; done) | (simp [intOf]; omega)
              · have b1 : Op.bytesLess Y.toList Z.toList = false := by
                  rw [bytesLess_eq, hYL, HZL.out, heq]
                  exact decide_eq_false Std.lt_irrefl
                have b2 : (Y.toList == Z.toList) = true := by
                  rw [hYL, HZL.out, heq]
                  simp
                have HN := hide (HC.out.same hio heq.symm)
                clear hYL heq
                go_wp2_with fail
                go_roundw
                case rel => exact ⟨j + 1, m, g, cap, O, by go_num, by omega, rfl, HML.out, by omega, hg, HO5.out, HN.out, hb5⟩
                case measure => first | (simp [intOf]; done) | (simp [intOf]; omega)
              · have b1 : Op.bytesLess Y.toList Z.toList = true := by
                  rw [bytesLess_eq, hYL, HZL.out]
                  exact decide_eq_true hlo
                have b2 : (Y.toList == Z.toList) = false := by
                  rw [hYL, HZL.out]
                  simp only [beq_eq_false_iff_ne]
                  intro h
                  rw [h] at hlo
                  exact Std.lt_irrefl hlo
                have HPUT : Hid (CR l (j + 1) (O.take (i + 1) ++ [rot l j] ++ O.drop (i + 1))) := HC.out.put (by omega) (HC.out.below hio hlo) HHI.out
                clear hYL hlo
                have HLEN := hide (put_len O (show i + 1 ≤ O.length by have := HML.out; omega) (rot l j))
                have hkm : i + 1 ≤ m := by omega
                have t5 := HO5.out.newsT (i + 1)
                rw [bas_take] at t5
                have hnews : ∀ W, Below w5.heap.size w5 W → ∀ j u, (ssl (bas (O.take (i + 1))))[j]? = some u → W.cell? ((⟨g, 0, none⟩ : Addr).add j) = some u := fun W hb j u hu => by
                  have hcl := t5 j u hu
                  have e : (⟨g, 0, none⟩ : Addr).add j = ⟨g, j, none⟩ := by unfold Addr.add; split <;> simp_all
                  rw [e] at hcl ⊢
                  exact (hb.cell (p := ⟨g, j, none⟩) hglt5).trans hcl
                have HNW := hide hnews
                have htl : (ssl (bas (O.take (i + 1)))).length = (i + 1) * 1 := by rw [ssl_len, bas_len, List.length_take]; have := HML.out; omega
                have HTL := hide htl
                have hdl : (ssl (bas (O.drop (i + 1)))).length = (m - (i + 1)) * 1 := by rw [ssl_len, bas_len, List.length_drop]; have := HML.out; omega
                have HDL := hide hdl
                clear t5 hnews htl hdl HHI
                go_upto_region 15 with (at_builtin; refine wpList_append_own _ rfl (.tmp 55) (.tmp 58) _ rfl w5.heap.size 9 i0 _ 1 16 Tryz.underlying31 hi hz0 hz1 hz2 rfl (by omega) (.slice (some ⟨w5.heap.size, 0, none⟩) 0 0) 0 [] (by rfl) ((Row.lit (n := 0) (cs := #[]) rfl rfl (by omega)).own (Nat.le_refl _)) ⟨g, 0, none⟩ (i + 1) cap (ssl (bas (O.take (i + 1)))) (by rfl) HTL.out (HNW.out _ ((Below.refl _ _).alloc (Nat.le_refl _) _)) (one_ssl _) (by simp only [maxLen]; omega) (by omega) (by simp) ?_; intro v6 w6 hown6 hgrow6 hnil6; simp only [Nat.zero_add, List.nil_append] at hown6; obtain ⟨g6, cap6, rfl, hg6, hr6⟩ := own_some hown6 (fun h => by have := (hnil6.1 h).1; cases this))
                have hgr6 : w5.grownBy w6 (some w5.heap.size) := gtrans (World.grownBy_alloc _ _ _) hgrow6
                have hb6 : Below w5.heap.size w5 w6 := (Below.refl w5.heap.size w5).grown hgr6 (Nat.le_refl _) (fun k h => by injection h; omega)
                have s6 := hb6.size
                have HR6 := hide hr6
                have hlt6 := hr6.lt
                clear hown6 hgrow6 hnil6 hr6 hgr6
                go_upto_region 16 with (at_builtin; refine wpList_append_own _ rfl (.tmp 60) (.tmp 62) _ rfl w5.heap.size 9 i0 _ 1 16 Tryz.underlying31 hi hz0 hz1 hz2 rfl (by omega) (.slice (some ⟨g6, 0, none⟩) (i + 1) cap6) (i + 1) (ssl (bas (O.take (i + 1)))) (by rfl) ((HR6.out.alloc _).own hg6) ⟨w6.heap.size, 0, none⟩ 1 1 (ssl [Z]) (by rfl) (by rfl) (news_new (by simp)) (one_ssl _) (by simp only [maxLen]; omega) (by omega) (by simp; omega) ?_; intro v7 w7 hown7 hgrow7 hnil7; obtain ⟨g7, cap7, rfl, hg7, hr7⟩ := own_some hown7 (fun h => by have := (hnil7.1 h).1; cases this))
                have hb7 : Below w5.heap.size w5 w7 := (hb6.alloc s6 _).grown hgrow7 (by simp; omega) (fun k h => by simp [Value.ownBlock] at h; omega)
                have s7 := hb7.size
                have HR7 := hide hr7
                have hlt7 := hr7.lt
                have hn7 := (HO5.out.below hb7 hglt5).newsS (i + 1)
                rw [bas_drop] at hn7
                have HN7 := hide hn7
                clear hown7 hgrow7 hnil7 hr7 hn7 HNW
                go_wp2_with (at_builtin; refine wpList_append_own _ rfl (.tmp 64) (.tmp 67) _ rfl w5.heap.size 9 i0 _ 1 16 Tryz.underlying31 hi hz0 hz1 hz2 rfl (by omega) (.slice (some ⟨g7, 0, none⟩) ((i + 1) + 1) cap7) ((i + 1) + 1) (ssl (bas (O.take (i + 1))) ++ ssl [Z]) (by rfl) (HR7.out.own hg7) (if cap = (i + 1) then (⟨g, 0, none⟩ : Addr) else ⟨g, (i + 1), none⟩) (m - (i + 1)) (cap - (i + 1)) (ssl (bas (O.drop (i + 1)))) (by first | rfl | (rw [ite_self]; rfl) | (rw [← apply_ite some]; rfl)) HDL.out HN7.out (one_ssl _) (by simp only [maxLen]; omega) (by omega) (by omega) ?_; intro v8 w8 hown8 hgrow8 hnil8; obtain ⟨g8, cap8, rfl, hg8, hr8⟩ := own_some hown8 (fun h => by have := (hnil8.1 h).1; cases this))
                have hb8 : Below w5.heap.size w5 w8 := hb7.grown hgrow8 s7 (fun k h => by simp [Value.ownBlock] at h; omega)
                rw [← HZ2.out, bas_put] at hr8
                have HR8 := hide hr8
                clear hown8 hgrow8 hnil8 hr8
                go_wp2_with fail
                go_roundw
                case rel =>
                  have e : (i + 1) + 1 + (m - (i + 1)) = m + 1 := by omega
                  have hr := HR8.out
                  rw [e] at hr
                  exact ⟨j + 1, m + 1, g8, cap8, _, by go_num, by omega, by first | rfl | (congr 1; done) | (congr 1; omega), by rw [HLEN.out]; have := HML.out; omega, by omega, by omega, hr, HPUT.out, bstep hb5 hb8 s5⟩
                case measure => first | (simp [intOf]; done) | (simp [intOf]; omega)
        · have hjn : j = s.size := by omega
          subst hjn
          have HR2 := hide (HR.out O HC.out)
          have i2 : ¬ (s.size : Int) < (s.size : Int) := by omega
          clear HC
          go_wp2_with fail
          go_returns
          first
            | exact ⟨_, 0, rfl, O, HR2.out, LstS.of_row HO.out hg (by omega), hbel⟩
            | exact ⟨_, 0, O, rfl, HR2.out, LstS.of_row HO.out hg (by omega), hbel⟩
  · have hf : okW s.data.toList = false := by simpa using ho
    have HR : Hid (ConR s.data.toList 1 []) := .inl ⟨hf, rfl, rfl⟩
    rw [hf] at hW
    clear ho hlen hf
    go_enter Tryz.func10, Tryz.ntmps10
    go_wp2_with fail
    refine (hW _ hs).mono ?_
    rintro e w1 ⟨rfl, rfl⟩
    go_wp2_with fail
    go_returns
    exact ⟨_, 1, [], rfl, HR.out, LstS.nil_ _ _, Below.refl _ _⟩

end Go.Proofs.YthfhjgmlcilmkaaGreatDoor
