/- StandardWords: the program's. -/
import Derived.Test.YthfhjgmlcilmkaaGreatDoorStdP
import Derived.Test.YthfhjgmlcilmkaaGreatDoorShelfP
import Derived.Shelf.Strings.BuilderX
namespace Go.Proofs.YthfhjgmlcilmkaaGreatDoor
open Go.RowKit Go.Sort Go.Shelf

theorem builderR : Builder.Extra Tryz.prog Tryz.laysRepeat_ren where
  sizeBuilder := by kernel_rfl
  liesBuilder := by kernel_rfl
  t5 := Tryz.underlying5
  a5 := Tryz.isAgg5
  z5 := Tryz.sizeOf5
  v5 := Tryz.zeroValue5
  infoByte := by kernel_rfl
  cellsByte := by kernel_rfl
  sizeByte := by kernel_rfl
  neB5 := by decide

theorem repeat_any (s : ByteArray) (c : Nat) (w : World) (hc : c ≤ 9223372036854775807) (hlen : s.size * c ≤ 140737488355328) :
    Calls Tryz.prog 33 #[.string s, .int .i64 c] w fun e w' => e = .returned (.string ⟨(Lib.repeatL s.data.toList c).toArray⟩) ∧ Below w.heap.size w w' := by
  have hcon := Any.strings_Repeat Tryz.laysRepeat builderR s c w hc hlen
  exact hcon

set_option maxRecDepth 100000 in
set_option maxHeartbeats 2000000 in
theorem implStandardWords_any (g n cap : Nat) (ts : List Int) (w : World) (hn : n ≤ 2000000) (h : Row w g 2 1 n cap (il ts)) :
    Calls Tryz.prog 12 #[.slice (some ⟨g, 0, none⟩) n cap] w fun e w' => ∃ v c l, e = .returned (.tuple #[v, .int .i64 c]) ∧ StdR ts c l ∧ LstS w' w.heap.size v l ∧ Below w.heap.size w w' := by
  obtain ⟨i0, hi, hz0, hz1, hz2⟩ := info_parts info_str
  have hl : ts.length = n := by have := h.len; rw [il_len] at this; omega
  have hglt := h.lt
  have hV := validTerms_any g n cap ts w hn h
  go_enter Tryz.func12, Tryz.ntmps12
  go_wp2_with fail
  refine hV.mono ?_
  rintro e w1 ⟨b, rfl, hb, rfl⟩
  have HB := hide hb
  clear hb hV
  cases b
  · have HN : Hid (¬ VT ts) := fun h => by have := HB.out.2 h; cases this
    go_wp2_with fail
    go_returns
    exact ⟨_, 1, [], rfl, .inl ⟨HN.out, rfl, rfl⟩, LstS.nil_ _ _, Below.refl _ _⟩
  · have hvt : VT ts := HB.out.1 rfl
    have hlen1 := hvt.1
    have c0 := h.cell (il_at (show 0 < ts.length by omega))
    have hx0 : ts[0]? = some (ts[0]'(by omega)) := List.getElem?_eq_getElem (by omega)
    generalize ts[0]'(by omega) = x0 at *
    by_cases hneg : x0 < 0
    · have HN : Hid (StdR ts 2 []) := .inr ⟨hvt, x0, hx0, .inl ⟨hneg, rfl, rfl⟩⟩
      clear hvt HB hx0 h
      go_wp2_with fail
      go_returns
      exact ⟨_, 2, [], rfl, HN.out, LstS.nil_ _ _, Below.refl _ _⟩
    · have hpos := hvt.pos hx0 (by omega)
      have HP := hide hpos
      have HS5 : Hid (sw0 ts = none → StdR ts 5 []) := fun h => .inr ⟨hvt, x0, hx0, .inr ⟨by omega, .inl ⟨h, rfl, rfl⟩⟩⟩
      have HS0 : Hid (∀ l, sw0 ts = some l → StdR ts 0 l) := fun l h => .inr ⟨hvt, x0, hx0, .inr ⟨by omega, .inr ⟨h, rfl⟩⟩⟩
      clear hpos HB hvt hx0
      go_wp2_with fail
      go_loopw [4, 5, 6, 20] (fun v a b i wr => ∃ (k : Nat) (x y : ByteArray) (acc : List ByteArray), a = .string x ∧ b = .string y ∧ i = .int .i64 k ∧ k ≤ n ∧ swr (ts.drop k) x y acc = sw0 ts ∧ (x.size ≤ 400 ∧ y.size ≤ 400) ∧
        acc.length = k ∧ wr.ownsRow w.heap.size 9 1 v k (ssl acc) ∧ Below w.heap.size w wr) (fun _ _ _ i _ => n - (intOf i).toNat)
      case atStart => exact ⟨0, ⟨#[49]⟩, ⟨#[48]⟩, [], rfl, rfl, rfl, by omega, rfl, by decide, rfl, World.ownsRow_nil _ _ _ _, Below.refl _ _⟩
      case round =>
        obtain ⟨k, x, y, acc, rfl, rfl, rfl, hk, hsw, hsz, hacc, hown, hbel⟩ := hrel
        have HO := hide hown
        have sz := hbel.size
        by_cases hlt : k < n
        · have hrow := h.below hbel hglt
          have c1 := hrow.cell (il_at (show k < ts.length by omega))
          have hp := HP.out k (by omega)
          rw [swr_cons (show k < ts.length by omega)] at hsw
          generalize ts[k]'(by omega) = t at *
          obtain ⟨t, rfl⟩ := Int.eq_ofNat_of_zero_le hp.1
          rw [Int.toNat_natCast] at hsw
          obtain ⟨P, hP⟩ : ∃ P, t * y.size = P := ⟨_, rfl⟩
          have hPz : (t : Int) * (y.size : Int) = (P : Int) := by rw [← hP]; simp
          have hPb : P ≤ 1000000000 * 400 := by rw [← hP]; exact Nat.mul_le_mul (by omega) hsz.2
          rw [hP] at hsw
          have i1 : (k : Int) < (n : Int) := by omega
          by_cases hbig : 400 < P + x.size
          · rw [if_pos hbig] at hsw
            have HR := hide (HS5.out hsw.symm)
            have i2 : (400 : Int) < (P : Int) + (x.size : Int) := by omega
            clear hsw HS0 HS5 HP hrow hown h hP
            go_wp2_with fail
            go_returns
            exact ⟨_, 5, [], rfl, HR.out, LstS.nil_ _ _, hbel⟩
          · rw [if_neg hbig] at hsw
            have HSW := hide hsw
            have hRep := fun w => repeat_any y t w (by omega) (by rw [Nat.mul_comm, hP]; omega)
            obtain ⟨R1, hR1⟩ : ∃ R1 : ByteArray, (⟨(Lib.repeatL y.data.toList t).toArray⟩ : ByteArray) = R1 := ⟨_, rfl⟩
            have hR1s : R1.size = P := by rw [← hR1, rpt_size, hP]
            have hrp : rp y x t = R1 ++ x := by unfold rp; rw [hR1]
            have hrs : (R1 ++ x).size = P + x.size := by rw [ByteArray.size_append, hR1s]
            rw [hR1] at hRep
            have HRP := hide hrp
            have HRS := hide hrs
            have i2 : ¬ (400 : Int) < (P : Int) + (x.size : Int) := by omega
            clear hsw hrp hrs hR1 hrow hown HS0 HS5 HP h hP
            go_wp2_with fail
            refine (hRep _).mono ?_
            rintro e w2 ⟨rfl, hb2⟩
            have hb3 := bstep hbel hb2 sz
            have HO2 := hide (own_below HO.out hb2)
            have s2 := hb3.size
            clear hRep HO
            go_wp2_with (at_builtin; refine wpList_append_own _ rfl (.tmp 38) (.tmp 40) _ rfl w.heap.size 9 i0 _ 1 16 Tryz.underlying31 hi hz0 hz1 hz2 rfl (by omega) u4 k (ssl acc) (by rfl) (own_below HO2.out ((Below.refl _ _).alloc (Nat.le_refl _) _)) ⟨w2.heap.size, 0, none⟩ 1 1 (ssl [R1 ++ x]) (by rfl) (by rfl) (news_new (by simp)) (one_ssl _) (by simp only [maxLen]; omega) (by omega) (by simp; omega) ?_; intro v8 w8 hown8 hgrow8 hnil8)
            rw [← ssl_append] at hown8
            have HO8 := hide hown8
            have hb8 : Below w.heap.size w w8 := (hb3.alloc s2 _).grown hgrow8 (by simp; omega) (own_base HO2.out)
            clear hown8 hnil8 hgrow8 HO2
            go_wp2_with fail
            go_roundw
            case rel => exact ⟨k + 1, y, R1 ++ x, acc ++ [R1 ++ x], rfl, rfl, by go_num, by omega, by rw [← HRP.out]; exact HSW.out, ⟨hsz.2, by rw [HRS.out]; omega⟩, by simp; omega, HO8.out, hb8⟩
            case measure => simp [intOf]; omega
        · have hkn : k = n := by omega
          rw [List.drop_eq_nil_of_le (by omega)] at hsw
          have HR := hide (HS0.out acc hsw.symm)
          have HL := hide (LstS.of_own HO.out (by omega))
          have i1 : ¬ (k : Int) < (n : Int) := by omega
          clear hsw hown HO HS0 HS5 HP h
          go_wp2_with fail
          go_returns
          exact ⟨_, 0, rfl, acc, HR.out, HL.out, hbel⟩

end Go.Proofs.YthfhjgmlcilmkaaGreatDoor
