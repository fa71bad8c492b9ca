/- OrderOfMultiples: the codes, the program's and the reference's walks, and the law's. -/
import Derived.Test.YtckigilfjdcfgaaOrdC
import Derived.Test.YtckigilfjdcfgaaOrdD
import Derived.Test.YtckigilfjdcfgaaFracL
import Derived.Test.YtckigilfjdcfgaaHeld
namespace Go.Proofs.Ytckigilfjdcfgaa
open Go.RowKit

/-- The code of a fraction and a number of points. -/
def gpc (p q c : Int) : Int := if okF p q = true then (if 1 ≤ c ∧ c ≤ 200 then (if q < c then 6 else 0) else 2) else 1
theorem gpc_ok {p q c : Int} (h : gpc p q c = 0) : okF p q = true ∧ (1 ≤ c ∧ c ≤ 200) ∧ c ≤ q := by
  unfold gpc at h
  by_cases h1 : okF p q = true
  · rw [if_pos h1] at h
    by_cases h2 : 1 ≤ c ∧ c ≤ 200
    · rw [if_pos h2] at h
      by_cases h3 : q < c
      · rw [if_pos h3] at h; cases h
      · exact ⟨h1, h2, by omega⟩
    · rw [if_neg h2] at h; cases h
  · rw [if_neg h1] at h; cases h
def odx (p q c : Int) : List Int := if gpc p q c = 0 then ord (rst p q) c.toNat else []

theorem checkPoints_any (p q c : Int) (w : World) :
    Calls Try.prog 49 #[.agg #[.int .i64 p, .int .i64 q], .int .i64 c] w fun e w' => e = .returned (.int .i64 (gpc p q c)) ∧ Below w.heap.size w w' := by
  have hV := implValid_any p q
  by_cases ho : okF p q = true
  · rw [ho] at hV
    by_cases hk : 1 ≤ c ∧ c ≤ 200
    · have e1 := inB_of hk
      by_cases hc : q < c
      all_goals
        have HR : Hid (gpc p q c = if q < c then 6 else 0) := hide (by unfold gpc; rw [if_pos ho, if_pos hk])
        first | rw [if_pos hc] at HR | rw [if_neg hc] at HR
        go_enter Try.func49, Try.ntmps49
        go_wp2_with fail
        refine (hV _).mono ?_
        rintro e w1 ⟨rfl, hb1⟩
        obtain ⟨a1, _, _, _⟩ := (Blk.new w 26 #[.int .i64 p, .int .i64 q]).after hb1 (by simp)
        have x1 := a1 1
        have hB := bstep (show Below w.heap.size w _ by go_grown) hb1 (by simp)
        go_wp2_with fail
        refine (within_any _ _ _ _).mono ?_
        rintro e w2 ⟨rfl, rfl⟩
        rw [e1]
        go_wp2_with fail
        go_ret
        exact ⟨by rw [HR.out]; rfl, hB⟩
    · have e1 := inB_no hk
      have HR := hide (show gpc p q c = 2 by unfold gpc; rw [if_pos ho, if_neg hk])
      go_enter Try.func49, Try.ntmps49
      go_wp2_with fail
      refine (hV _).mono ?_
      rintro e w1 ⟨rfl, hb1⟩
      have hB := bstep (show Below w.heap.size w _ by go_grown) hb1 (by simp)
      go_wp2_with fail
      refine (within_any _ _ _ _).mono ?_
      rintro e w2 ⟨rfl, rfl⟩
      rw [e1]
      go_wp2_with fail
      go_ret
      exact ⟨by rw [HR.out]; rfl, hB⟩
  · have hf : okF p q = false := by simpa using ho
    rw [hf] at hV
    have HR := hide (show gpc p q c = 1 by unfold gpc; rw [if_neg ho])
    go_enter Try.func49, Try.ntmps49
    go_wp2_with fail
    refine (hV _).mono ?_
    rintro e w1 ⟨rfl, hb1⟩
    have hB := bstep (show Below w.heap.size w _ by go_grown) hb1 (by simp)
    go_wp2_with fail
    go_ret
    exact ⟨by rw [HR.out]; rfl, hB⟩

theorem l20Code_any (p q c : Int) (w : World) :
    Calls Try.prog 47 #[.agg #[.int .i64 p, .int .i64 q], .int .i64 c] w fun e w' => e = .returned (.int .i64 (gpc p q c)) ∧ Below w.heap.size w w' := by
  have hV := l02Ok_any p q
  by_cases ho : okF p q = true
  · rw [ho] at hV
    by_cases hk : 1 ≤ c ∧ c ≤ 200
    · have e1 := inB_of hk
      by_cases hc : q < c
      all_goals
        have HR : Hid (gpc p q c = if q < c then 6 else 0) := hide (by unfold gpc; rw [if_pos ho, if_pos hk])
        first | rw [if_pos hc] at HR | rw [if_neg hc] at HR
        go_enter Try.func47, Try.ntmps47
        go_wp2_with fail
        refine (hV _).mono ?_
        rintro e w1 ⟨rfl, hb1⟩
        obtain ⟨a1, _, _, _⟩ := (Blk.new w 26 #[.int .i64 p, .int .i64 q]).after hb1 (by simp)
        have x1 := a1 1
        have hB := bstep (show Below w.heap.size w _ by go_grown) hb1 (by simp)
        go_wp2_with fail
        refine (l00In_any _ _ _ _).mono ?_
        rintro e w2 ⟨rfl, rfl⟩
        rw [e1]
        go_wp2_with fail
        go_ret
        exact ⟨by rw [HR.out]; rfl, hB⟩
    · have e1 := inB_no hk
      have HR := hide (show gpc p q c = 2 by unfold gpc; rw [if_pos ho, if_neg hk])
      go_enter Try.func47, Try.ntmps47
      go_wp2_with fail
      refine (hV _).mono ?_
      rintro e w1 ⟨rfl, hb1⟩
      have hB := bstep (show Below w.heap.size w _ by go_grown) hb1 (by simp)
      go_wp2_with fail
      refine (l00In_any _ _ _ _).mono ?_
      rintro e w2 ⟨rfl, rfl⟩
      rw [e1]
      go_wp2_with fail
      go_ret
      exact ⟨by rw [HR.out]; rfl, hB⟩
  · have hf : okF p q = false := by simpa using ho
    rw [hf] at hV
    have HR := hide (show gpc p q c = 1 by unfold gpc; rw [if_neg ho])
    go_enter Try.func47, Try.ntmps47
    go_wp2_with fail
    refine (hV _).mono ?_
    rintro e w1 ⟨rfl, hb1⟩
    have hB := bstep (show Below w.heap.size w _ by go_grown) hb1 (by simp)
    go_wp2_with fail
    go_ret
    exact ⟨by rw [HR.out]; rfl, hB⟩

/-- The order, in the program and in the reference, in one form. -/
theorem implOrd_any (p q : Int) (c : Nat) (w : World) (ho : okF p q = true) (hc : 1 ≤ c ∧ c ≤ 1000) (hcq : (c : Int) ≤ q) :
    Calls Try.prog 50 #[.agg #[.int .i64 p, .int .i64 q], .int .i64 (c : Int)] w fun e w' => ∃ g cap, e = .returned (.slice (some ⟨g, 0, none⟩) c cap) ∧ w.heap.size ≤ g ∧ Row w' g 2 1 c cap (il (ord (rst p q) c)) ∧ Below w.heap.size w w' := by
  obtain ⟨o1, o2, o3⟩ := okF_iff.1 ho
  refine (ordered_any p q c w o2 o1 o3 (by omega) hcq (by omega)).mono ?_
  rintro e w1 ⟨g, he, hg, hr, hb⟩
  exact ⟨g, c, he, hg, hr, hb⟩
theorem specOrd_any (p q : Int) (c : Nat) (w : World) (ho : okF p q = true) (hc : c ≤ 1000) :
    Calls Try.prog 48 #[.agg #[.int .i64 p, .int .i64 q], .int .i64 (c : Int)] w fun e w' => ∃ g cap, e = .returned (.slice (some ⟨g, 0, none⟩) c cap) ∧ w.heap.size ≤ g ∧ Row w' g 2 1 c cap (il (ord (rst p q) c)) ∧ Below w.heap.size w w' :=
  l20Order_any p q c w (okF_iff.1 ho).1 hc

set_option maxRecDepth 100000 in
theorem implOrderOfMultiples_any (p q c : Int) (w : World) :
    Calls Try.prog 21 #[.agg #[.int .i64 p, .int .i64 q], .int .i64 c] w fun e w' => ∃ v, e = .returned (.tuple #[v, .int .i64 (gpc p q c)]) ∧ Lst w' w.heap.size v (odx p q c) ∧ Below w.heap.size w w' := by
  have hC := checkPoints_any p q c
  by_cases h0 : gpc p q c = 0
  · obtain ⟨ho, hc, hcq⟩ := gpc_ok h0
    have hx : odx p q c = ord (rst p q) c.toNat := by unfold odx; rw [if_pos h0]
    obtain ⟨m, rfl⟩ : ∃ m : Nat, c = m := ⟨c.toNat, by omega⟩
    rw [Int.toNat_natCast] at hx
    have hL := fun w => implOrd_any p q m w ho ⟨by omega, by omega⟩ hcq
    rw [h0] at hC
    rw [h0, hx]
    clear hx h0 ho hcq
    go_enter Try.func21, Try.ntmps21
    go_wp2_with fail
    refine (hC _).mono ?_
    rintro e w1 ⟨rfl, hb1⟩
    obtain ⟨a1, _, k3, _⟩ := (Blk.new w 26 #[.int .i64 p, .int .i64 q]).after hb1 (by simp)
    have x0 := a1 0
    have x1 := a1 1
    have hB := bstep (show Below w.heap.size w _ by go_grown) hb1 (by simp)
    clear a1 hb1
    go_wp2_with fail
    refine (hL _).mono ?_
    rintro e w2 ⟨g, cap, rfl, hg, hr, hb2⟩
    have HL := hide (Lst.of_row (B := w.heap.size) hr (by have := hB.size; omega) (by omega))
    clear hr
    go_wp2_with fail
    go_returns
    exact ⟨_, rfl, HL.out, bstep hB hb2 hB.size⟩
  · have hx : odx p q c = [] := by unfold odx; rw [if_neg h0]
    rw [hx]
    generalize gpc p q c = d at *
    have hb : (d != 0) = true := by simp [h0]
    clear hx
    go_enter Try.func21, Try.ntmps21
    go_wp2_with fail
    refine (hC _).mono ?_
    rintro e w1 ⟨rfl, hb1⟩
    have hB := bstep (show Below w.heap.size w _ by go_grown) hb1 (by simp)
    go_wp2_with fail
    go_returns
    exact ⟨_, rfl, Lst.nil_ _ _, hB⟩

set_option maxRecDepth 100000 in
theorem specOrderOfMultiples_any (p q c : Int) (w : World) :
    Calls Try.prog 20 #[.agg #[.int .i64 p, .int .i64 q], .int .i64 c] w fun e w' => ∃ v, e = .returned (.tuple #[v, .int .i64 (gpc p q c)]) ∧ Lst w' w.heap.size v (odx p q c) ∧ Below w.heap.size w w' := by
  have hC := l20Code_any p q c
  by_cases h0 : gpc p q c = 0
  · obtain ⟨ho, hc, hcq⟩ := gpc_ok h0
    have hx : odx p q c = ord (rst p q) c.toNat := by unfold odx; rw [if_pos h0]
    obtain ⟨m, rfl⟩ : ∃ m : Nat, c = m := ⟨c.toNat, by omega⟩
    rw [Int.toNat_natCast] at hx
    have hL := fun w => specOrd_any p q m w ho (by omega)
    rw [h0] at hC
    rw [h0, hx]
    clear hx h0 ho hcq
    go_enter Try.func20, Try.ntmps20
    go_wp2_with fail
    refine (hC _).mono ?_
    rintro e w1 ⟨rfl, hb1⟩
    obtain ⟨a1, _, k3, _⟩ := (Blk.new w 26 #[.int .i64 p, .int .i64 q]).after hb1 (by simp)
    have x0 := a1 0
    have x1 := a1 1
    have hB := bstep (show Below w.heap.size w _ by go_grown) hb1 (by simp)
    clear a1 hb1
    go_wp2_with fail
    refine (hL _).mono ?_
    rintro e w2 ⟨g, cap, rfl, hg, hr, hb2⟩
    have HL := hide (Lst.of_row (B := w.heap.size) hr (by have := hB.size; omega) (by omega))
    clear hr
    go_wp2_with fail
    go_returns
    exact ⟨_, rfl, HL.out, bstep hB hb2 hB.size⟩
  · have hx : odx p q c = [] := by unfold odx; rw [if_neg h0]
    rw [hx]
    generalize gpc p q c = d at *
    have hb : (d != 0) = true := by simp [h0]
    clear hx
    go_enter Try.func20, Try.ntmps20
    go_wp2_with fail
    refine (hC _).mono ?_
    rintro e w1 ⟨rfl, hb1⟩
    have hB := bstep (show Below w.heap.size w _ by go_grown) hb1 (by simp)
    go_wp2_with fail
    go_returns
    exact ⟨_, rfl, Lst.nil_ _ _, hB⟩

set_option maxRecDepth 100000 in
theorem law_OrderOfMultiples (p q c : Int) (w : World) :
    Calls Try.prog 6 #[.agg #[.int .i64 p, .int .i64 q], .int .i64 c] w fun e w' => e = .returned (.bool true) ∧ Below w.heap.size w w' := by
  have hS := specOrderOfMultiples_any p q c
  have hI := implOrderOfMultiples_any p q c
  generalize (odx p q c) = xs at *
  generalize (gpc p q c) = c at *
  go_enter Try.func6, Try.ntmps6
  have HK := hide (Blk.new w 23 #[.int .i64 p, .int .i64 q])
  have C0 := (Below.refl (w.alloc (.cells #[.int .i64 p, .int .i64 q] 23)).heap.size (w.alloc (.cells #[.int .i64 p, .int .i64 q] 23)))
  go_wp2_with fail
  refine (toFraction_any p q _).mono ?_
  rintro e f1 ⟨rfl, hf⟩
  have C0 := C0.trans (hf.mono C0.size)
  clear hf
  go_wp2_with fail
  refine (hS _).mono ?_
  rintro e w1 ⟨v0, rfl, Ls, hb⟩
  have C0 := C0.trans (hb.mono C0.size)
  clear hb
  obtain ⟨d, _, _, _⟩ := HK.out.after C0 (by simp)
  have d0 := d 0
  have d1 := d 1
  clear d
  have CA := Below.refl w1.heap.size w1
  have CZ := C0.size
  go_wp2_with fail
  refine (toFraction_any p q _).mono ?_
  rintro e f2 ⟨rfl, hf⟩
  have C0 := C0.trans (hf.mono C0.size)
  have CA := CA.trans (hf.mono CA.size)
  clear hf
  clear d0 d1
  have Ls := Ls.keep CA
  clear CA
  have CA := Below.refl f2.heap.size f2
  have CZ := C0.size
  go_wp2_with fail
  refine (hI _).mono ?_
  rintro e w2 ⟨v1, rfl, Lg, hb⟩
  have C0 := C0.trans (hb.mono C0.size)
  have CA := CA.trans (hb.mono CA.size)
  clear hb
  go_wp2_with fail
  refine (eqLst_any _ _ _ _ xs _ Lg (Ls.keep CA)).mono ?_
  rintro e w3 ⟨rfl, m1, rfl⟩
  have C0 := belowN C0 m1
  have CA := belowN CA m1
  have Lg := Lg.drewN m1
  go_wp2_with fail
  refine (markLst_any _ f2.heap.size xs _ Lg).mono ?_
  rintro e w3b ⟨rfl, Lm, hb⟩
  have C0 := C0.trans (hb.mono CZ)
  have CA := CA.trans hb
  clear hb Lg
  go_wp2_with fail
  refine (heldLst_any _ _ xs.length _ Lm).mono ?_
  rintro e w4 ⟨rfl, rfl⟩
  obtain ⟨d, _, _, _⟩ := HK.out.after C0 (by simp)
  have d0 := d 0
  have d1 := d 1
  clear d
  go_wp2_with fail
  refine (toFraction_any p q _).mono ?_
  rintro e f3 ⟨rfl, hf⟩
  have C0 := C0.trans (hf.mono C0.size)
  have CA := CA.trans (hf.mono CA.size)
  have Lm := Lm.keep hf
  clear hf d0 d1
  go_wp2_with fail
  refine (hI _).mono ?_
  rintro e w5 ⟨v2, rfl, Lh, hb⟩
  have C0 := C0.trans (hb.mono C0.size)
  have CA := CA.trans (hb.mono CA.size)
  have Lm := Lm.keep hb
  clear hb
  go_wp2_with fail
  refine (eqLst_any _ _ _ _ xs _ Lh (Ls.keep CA)).mono ?_
  rintro e w6 ⟨rfl, m2, rfl⟩
  have Lm := Lm.drewN m2
  have C0 := belowN C0 m2
  go_wp2_with fail
  refine (heldLst_any _ _ xs.length _ Lm).mono ?_
  rintro e w7 ⟨rfl, rfl⟩
  go_wp2_with fail
  go_ret
  exact ⟨rfl, bstep (show Below w.heap.size w _ by go_grown) C0 (by simp)⟩

end Go.Proofs.Ytckigilfjdcfgaa
