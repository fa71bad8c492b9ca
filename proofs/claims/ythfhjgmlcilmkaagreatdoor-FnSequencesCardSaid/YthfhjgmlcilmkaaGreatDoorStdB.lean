/- StandardWords: the reference's. -/
import Derived.Test.YthfhjgmlcilmkaaGreatDoorStdP
import Derived.Lib.AppendStr
import Derived.Deep.DeepCutAuto
namespace Go.Proofs.YthfhjgmlcilmkaaGreatDoor
open Go.RowKit Go.Sort

theorem info_u8b : (Tryz.prog.info? 5).map (fun i => (i.zero, i.size, i.bytes)) = some (some (.int .u8 0), 1, 1) := by kernel_rfl
def u8s (l : List UInt8) : List Value := l.map fun c => Value.int .u8 (c.toNat : Int)
theorem u8s_len (l : List UInt8) : (u8s l).length = l.length := by simp [u8s]
theorem u8s_app (l : List UInt8) (s : ByteArray) : u8s l ++ Lib.strCells s = u8s (l ++ s.data.toList) := by
  unfold u8s Lib.strCells
  rw [List.map_append]
theorem own_slice {w : World} {base : Nat} {e : TypeId} {k n : Nat} {v : Value} {xs : List Value} (h : w.ownsRow base e k v n xs) : ∃ A cap, v = .slice A n cap := by
  rcases h.2 with ⟨rfl, rfl⟩ | ⟨g, cap, cur, rfl, _⟩
  · exact ⟨none, 0, rfl⟩
  · exact ⟨_, cap, rfl⟩
set_option maxRecDepth 100000 in
/-- A row of bytes of one's own as a string. -/
theorem str_of_own {w : World} {base n : Nat} {A : Option Addr} {cap : Nat} {l : List UInt8} (h : w.ownsRow base 5 1 (.slice A n cap) n (u8s l)) (h0 : 0 < n) :
    (convert 22 9 (.slice A n cap)).run Tryz.prog w = .ok (.string ⟨l.toArray⟩) w := by
  have hl : l.length = n := by have := h.1; rw [u8s_len] at this; omega
  subst hl
  rcases h.2 with ⟨_, e⟩ | ⟨g, cap', cur, e, _⟩
  · omega
  · injection e with e1 e2 e3
    subst e1
    obtain ⟨hr, _⟩ := Row.of_own h
    refine run_convert_bytes_back w 22 9 5 ⟨g, 0, none⟩ cap l Tryz.underlying22 Tryz.underlying5 Tryz.underlying9 (fun j hj => ?_)
    have e : (⟨g, 0, none⟩ : Addr).add j = ⟨g, j, none⟩ := by unfold Addr.add; split <;> simp_all
    rw [e]
    exact hr.cell (by simp [u8s, hj])
theorem repeatL_succ (l : List UInt8) (j : Nat) : Lib.repeatL l (j + 1) = Lib.repeatL l j ++ l := by rw [Lib.repeatL_add, Lib.repeatL_one]
theorem rp_list (b a : ByteArray) (t : Nat) : (⟨(Lib.repeatL b.data.toList t ++ a.data.toList).toArray⟩ : ByteArray) = rp b a t := by
  unfold rp
  apply ByteArray.ext
  simp

set_option maxRecDepth 100000 in
set_option maxHeartbeats 4000000 in
theorem specStandardWords_any (g n cap : Nat) (ts : List Int) (w : World) (hn : n ≤ 2000000) (h : Row w g 2 1 n cap (il ts)) :
    Calls Tryz.prog 13 #[.slice (some ⟨g, 0, none⟩) n cap] w fun e w' => ∃ v c l, e = .returned (.tuple #[v, .int .i64 c]) ∧ StdR ts c l ∧ LstS w' w.heap.size v l ∧ Below w.heap.size w w' := by
  obtain ⟨i0, hi, hz0, hz1, hz2⟩ := info_parts info_str
  obtain ⟨ib, bi, bz0, bz1, bz2⟩ := info_parts info_u8b
  have hl : ts.length = n := by have := h.len; rw [il_len] at this; omega
  have hglt := h.lt
  have hV := l03Ok_any (some ⟨g, 0, none⟩) n cap _ ts w hn h.rd
  go_enter Tryz.func13, Tryz.ntmps13
  go_wp2_with fail
  refine hV.mono ?_
  rintro e w1 ⟨b, rfl, hb, rfl⟩
  have HB := hide hb
  clear hb hV
  cases b
  · have HN : Hid (¬ VT ts) := fun h => by have := HB.out.2 h; cases this
    go_wp2_with fail
    go_returns
    exact ⟨_, 1, [], rfl, .inl ⟨HN.out, rfl, rfl⟩, LstS.nil_ _ _, Below.refl _ _⟩
  · have hvt : VT ts := HB.out.1 rfl
    have hlen1 := hvt.1
    have c0 := h.cell (il_at (show 0 < ts.length by omega))
    have hx0 : ts[0]? = some (ts[0]'(by omega)) := List.getElem?_eq_getElem (by omega)
    generalize ts[0]'(by omega) = x0 at *
    by_cases hneg : x0 < 0
    · have HN : Hid (StdR ts 2 []) := .inr ⟨hvt, x0, hx0, .inl ⟨hneg, rfl, rfl⟩⟩
      clear hvt HB hx0 h
      go_wp2_with fail
      go_returns
      exact ⟨_, 2, [], rfl, HN.out, LstS.nil_ _ _, Below.refl _ _⟩
    · have hpos := hvt.pos hx0 (by omega)
      have HP := hide hpos
      have HS5 : Hid (sw0 ts = none → StdR ts 5 []) := fun h => .inr ⟨hvt, x0, hx0, .inr ⟨by omega, .inl ⟨h, rfl, rfl⟩⟩⟩
      have HS0 : Hid (∀ l, sw0 ts = some l → StdR ts 0 l) := fun l h => .inr ⟨hvt, x0, hx0, .inr ⟨by omega, .inr ⟨h, rfl⟩⟩⟩
      clear hpos HB hvt hx0
      go_wp2_with fail
      go_loopw [4, 5, 6, 7] (fun a b v i wo => ∃ (k : Nat) (x y : ByteArray) (acc : List ByteArray), a = .string x ∧ b = .string y ∧ i = .int .i64 k ∧ k ≤ n ∧ swr (ts.drop k) x y acc = sw0 ts ∧ (1 ≤ x.size ∧ x.size ≤ 400 ∧ 1 ≤ y.size ∧ y.size ≤ 400) ∧
        acc.length = k ∧ wo.ownsRow w.heap.size 9 1 v k (ssl acc) ∧ Below w.heap.size w wo) (fun _ _ _ i _ => n - (intOf i).toNat)
      case atStart =>
        refine ⟨0, ⟨#[49]⟩, ⟨#[48]⟩, [], rfl, rfl, rfl, by omega, rfl, by decide, rfl, ?_, by go_grown⟩
        exact (Row.lit (w := w) (g := w.heap.size) (e := 9) (k := 1) (n := 0) (cs := #[]) rfl rfl (by simp [maxLen])).own (Nat.le_refl _)
      case round =>
        obtain ⟨k, x, y, acc, rfl, rfl, rfl, hk, hsw, hsz, hacc, hown, hbel⟩ := hrel
        obtain ⟨wo, hwo⟩ : ∃ wo, wo = wr := ⟨_, rfl⟩
        subst hwo
        have HO := hide hown
        have sz := hbel.size
        by_cases hlt : k < n
        · have hrow := h.below hbel hglt
          have c1 := hrow.cell (il_at (show k < ts.length by omega))
          have hp := HP.out k (by omega)
          rw [swr_cons (show k < ts.length by omega)] at hsw
          generalize ts[k]'(by omega) = t at *
          obtain ⟨t, rfl⟩ := Int.eq_ofNat_of_zero_le hp.1
          rw [Int.toNat_natCast] at hsw
          obtain ⟨P, hP⟩ : ∃ P, t * y.size = P := ⟨_, rfl⟩
          have hPt : t ≤ P := by rw [← hP]; exact Nat.le_mul_of_pos_right _ (by omega)
          have hPj : ∀ j, j < t → j * y.size + y.size ≤ P := fun j hj => by
            rw [← hP, ← Nat.succ_mul]; exact Nat.mul_le_mul_right _ hj
          rw [hP] at hsw
          have i1 : (k : Int) < (n : Int) := by omega
          have HFULL : Hid (400 < P + x.size → StdR ts 5 []) := fun hb => by rw [if_pos hb] at hsw; exact HS5.out hsw.symm
          have HGO : Hid (¬ 400 < P + x.size → swr (ts.drop (k + 1)) y (rp y x t) (acc ++ [rp y x t]) = sw0 ts) := fun hb => by rw [if_neg hb] at hsw; exact hsw
          have HPJ := hide hPj
          have HPP := hide hP
          clear hsw hPj hP HP HS5 HS0 hrow hown
          by_cases hbig : 400 < t
          · have HR := hide (HFULL.out (by omega))
            have i2 : (400 : Int) < (t : Int) := by omega
            clear h HFULL HGO
            go_wp2_with fail
            go_returns
            exact ⟨_, 5, [], rfl, HR.out, LstS.nil_ _ _, hbel⟩
          · have i2 : ¬ (400 : Int) < (t : Int) := by omega
            have HROW : Hid (∀ w', Below wo.heap.size wo w' → w'.cell? ⟨g, k, none⟩ = some (.int .i64 t)) := fun w' hb => (hb.cell (p := ⟨g, k, none⟩) (World.block_lt_of_cell? _ _ c1)).trans c1
            go_wp2_with fail
            go_loopw [8, 9] (fun v i wr => ∃ j m : Nat, i = .int .i64 j ∧ j ≤ t ∧ m = j * y.size ∧ m ≤ 400 ∧ wr.ownsRow wo.heap.size 5 1 v m (u8s (Lib.repeatL y.data.toList j)) ∧ Below wo.heap.size wo wr) (fun _ i _ => t - (intOf i).toNat)
            case atStart =>
              refine ⟨0, 0, rfl, by omega, by omega, by omega, ?_, by go_grown⟩
              exact (Row.lit (w := wo) (g := wo.heap.size) (e := 5) (k := 1) (n := 0) (cs := #[]) rfl rfl (by simp [maxLen])).own (Nat.le_refl _)
            case round =>
              obtain ⟨j, m, rfl, hj, hm, hm4, hown2, hbel2⟩ := hrel
              have HO2 := hide hown2
              have HM := hide hm
              have s2 := hbel2.size
              have c2 := HROW.out wr hbel2
              clear c1 hown2 hm
              by_cases hjt : j < t
              · have i3 : (j : Int) < (t : Int) := by omega
                have hpj := HPJ.out j hjt
                rw [← HM.out] at hpj
                have hmn : m + y.size = (j + 1) * y.size := by rw [HM.out, Nat.succ_mul]
                have HMN := hide hmn
                clear hmn
                by_cases hfull : 400 < m + y.size
                · have HR := hide (HFULL.out (by omega))
                  have i4 : (400 : Int) < (m : Int) + (y.size : Int) := by omega
                  have hbz : Hid (∀ w8, wr.grownBy w8 (Value.ownBlock u8) → Below w.heap.size w w8) := fun w8 hg => bstep hbel (hbel2.grown hg s2 (own_base HO2.out)) hbel.size
                  clear h HFULL HGO HROW
                  go_wp2_with (at_builtin; refine Lib.wpList_append_own_string _ rfl (.tmp 38) (.tmp 39) _ _ rfl wo.heap.size 5 ib Tryz.underlying22 Tryz.underlying9 bi bz0 bz1 bz2 u8 m (u8s (Lib.repeatL y.data.toList j)) (by rfl) HO2.out y (by rfl) (by simp only [maxLen]; omega) (by omega) (by omega) ?_; intro v8 w8 hown8 hgrow8 hnil8; (obtain ⟨A8, c8, rfl⟩ := own_slice hown8))
                  go_returns
                  first
                    | exact ⟨_, 5, rfl, [], HR.out, LstS.nil_ _ _, hbz.out _ hgrow8⟩
                    | exact ⟨_, 5, [], rfl, HR.out, LstS.nil_ _ _, hbz.out _ hgrow8⟩
                · have i4 : ¬ (400 : Int) < (m : Int) + (y.size : Int) := by omega
                  go_wp2_with (at_builtin; refine Lib.wpList_append_own_string _ rfl (.tmp 38) (.tmp 39) _ _ rfl wo.heap.size 5 ib Tryz.underlying22 Tryz.underlying9 bi bz0 bz1 bz2 u8 m (u8s (Lib.repeatL y.data.toList j)) (by rfl) HO2.out y (by rfl) (by simp only [maxLen]; omega) (by omega) (by omega) ?_; intro v8 w8 hown8 hgrow8 hnil8; (obtain ⟨A8, c8, rfl⟩ := own_slice hown8))
                  rw [u8s_app, ← repeatL_succ] at hown8
                  have hb8 : Below wo.heap.size wo w8 := hbel2.grown hgrow8 s2 (own_base HO2.out)
                  go_roundw
                  case rel => exact ⟨j + 1, m + y.size, by go_num, by omega, HMN.out, by omega, hown8, hb8⟩
                  case measure => simp [intOf]; omega
              · have hjt2 : j = t := by omega
                subst hjt2
                have i3 : ¬ (j : Int) < (j : Int) := by omega
                have hmP : m = P := by rw [HM.out]; exact HPP.out
                subst hmP
                by_cases hfull : 400 < m + x.size
                · have HR := hide (HFULL.out hfull)
                  have i4 : (400 : Int) < (m : Int) + (x.size : Int) := by omega
                  have hbz : Hid (∀ w8, wr.grownBy w8 (Value.ownBlock u8) → Below w.heap.size w w8) := fun w8 hg => bstep hbel (hbel2.grown hg s2 (own_base HO2.out)) hbel.size
                  clear h HFULL HGO HROW
                  go_wp2_with (at_builtin; refine Lib.wpList_append_own_string _ rfl (.tmp 44) (.tmp 45) _ _ rfl wo.heap.size 5 ib Tryz.underlying22 Tryz.underlying9 bi bz0 bz1 bz2 u8 m (u8s (Lib.repeatL y.data.toList j)) (by rfl) HO2.out x (by rfl) (by simp only [maxLen]; omega) (by omega) (by omega) ?_; intro v8 w8 hown8 hgrow8 hnil8; (obtain ⟨A8, c8, rfl⟩ := own_slice hown8))
                  go_returns
                  first
                    | exact ⟨_, 5, rfl, [], HR.out, LstS.nil_ _ _, hbz.out _ hgrow8⟩
                    | exact ⟨_, 5, [], rfl, HR.out, LstS.nil_ _ _, hbz.out _ hgrow8⟩
                · have i4 : ¬ (400 : Int) < (m : Int) + (x.size : Int) := by omega
                  have HSW := hide (HGO.out hfull)
                  have hrs := rp_size y x j
                  rw [HPP.out] at hrs
                  have hrl := rp_list y x j
                  generalize rp y x j = Z at *
                  have HRS := hide hrs
                  have hx1 : 0 < m + x.size := by omega
                  clear HFULL HGO HROW hrs
                  go_upto_region 21 with (at_builtin; refine Lib.wpList_append_own_string _ rfl (.tmp 44) (.tmp 45) _ _ rfl wo.heap.size 5 ib Tryz.underlying22 Tryz.underlying9 bi bz0 bz1 bz2 u8 m (u8s (Lib.repeatL y.data.toList j)) (by rfl) HO2.out x (by rfl) (by simp only [maxLen]; omega) (by omega) (by omega) ?_; intro v8 w8 hown8 hgrow8 hnil8; (obtain ⟨A8, c8, rfl⟩ := own_slice hown8))
                  rw [u8s_app] at hown8
                  have hstr := str_of_own hown8 hx1
                  rw [hrl] at hstr
                  have hb8 : Below wo.heap.size wo w8 := hbel2.grown hgrow8 s2 (own_base HO2.out)
                  have hbz := bstep hbel hb8 hbel.size
                  have HO3 := hide (own_below HO.out hb8)
                  have s3 := hbz.size
                  clear hown8 hgrow8 hnil8 hrl
                  go_wp2_with (at_builtin; refine wpList_append_own _ rfl (.tmp 53) (.tmp 55) _ rfl w.heap.size 9 i0 _ 1 16 Tryz.underlying31 hi hz0 hz1 hz2 rfl (by omega) u6 k (ssl acc) (by rfl) (own_below HO3.out ((Below.refl _ _).alloc (Nat.le_refl _) _)) ⟨w8.heap.size, 0, none⟩ 1 1 (ssl [Z]) (by rfl) (by rfl) (news_new (by simp)) (one_ssl _) (by simp only [maxLen]; omega) (by omega) (by simp; omega) ?_; intro v9 w9 hown9 hgrow9 hnil9)
                  rw [← ssl_append] at hown9
                  have HO9 := hide hown9
                  have hb9 : Below w.heap.size w w9 := (hbz.alloc s3 _).grown hgrow9 (by simp; omega) (own_base HO3.out)
                  clear hown9 hnil9 hgrow9 HO3
                  go_wp2_with fail
                  go_roundw
                  case rel => exact ⟨k + 1, y, Z, acc ++ [Z], rfl, rfl, by go_num, by omega, HSW.out, ⟨hsz.2.2.1, hsz.2.2.2, by rw [HRS.out]; omega, by rw [HRS.out]; omega⟩, by simp; omega, HO9.out, hb9⟩
                  case measure => simp [intOf]; omega
        · have hkn : k = n := by omega
          rw [List.drop_eq_nil_of_le (by omega)] at hsw
          have HR := hide (HS0.out acc hsw.symm)
          have HL := hide (LstS.of_own HO.out (by omega))
          have i1 : ¬ (k : Int) < (n : Int) := by omega
          clear hsw hown HO HS0 HS5 HP h
          go_wp2_with fail
          go_returns
          exact ⟨_, 0, rfl, acc, HR.out, HL.out, hbel⟩

end Go.Proofs.YthfhjgmlcilmkaaGreatDoor
