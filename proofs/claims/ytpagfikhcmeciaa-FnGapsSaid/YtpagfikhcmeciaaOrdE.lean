/- OrderOfMultiples: the codes, the program's and the reference's walks, and the law's. -/
import Derived.Test.YtpagfikhcmeciaaOrdC
import Derived.Test.YtpagfikhcmeciaaOrdD
import Derived.Test.YtpagfikhcmeciaaFracL
import Derived.Test.YtpagfikhcmeciaaHeld
namespace Go.Proofs.Ytpagfikhcmeciaa
open Go.RowKit

/-- The code of a fraction and a number of points. -/
def gpc (p q c : Int) : Int := if okF p q = true then (if 1 ≤ c ∧ c ≤ 200 then (if q < c then 6 else 0) else 2) else 1
theorem gpc_ok {p q c : Int} (h : gpc p q c = 0) : okF p q = true ∧ (1 ≤ c ∧ c ≤ 200) ∧ c ≤ q := by
  unfold gpc at h
  by_cases h1 : okF p q = true
  · rw [if_pos h1] at h
    by_cases h2 : 1 ≤ c ∧ c ≤ 200
    · rw [if_pos h2] at h
      by_cases h3 : q < c
      · rw [if_pos h3] at h; cases h
      · exact ⟨h1, h2, by omega⟩
    · rw [if_neg h2] at h; cases h
  · rw [if_neg h1] at h; cases h
def odx (p q c : Int) : List Int := if gpc p q c = 0 then ord (rst p q) c.toNat else []

theorem checkPoints_any (p q c : Int) (w : World) :
    Calls Try.prog 33 #[.agg #[.int .i64 p, .int .i64 q], .int .i64 c] w fun e w' => e = .returned (.int .i64 (gpc p q c)) ∧ Below w.heap.size w w' := by
  have hV := implValid_any p q
  by_cases ho : okF p q = true
  · rw [ho] at hV
    by_cases hk : 1 ≤ c ∧ c ≤ 200
    · have e1 := inB_of hk
      by_cases hc : q < c
      all_goals
        have HR : Hid (gpc p q c = if q < c then 6 else 0) := hide (by unfold gpc; rw [if_pos ho, if_pos hk])
        first | rw [if_pos hc] at HR | rw [if_neg hc] at HR
        go_enter Try.func33, Try.ntmps33
        go_wp2_with fail
        refine (hV _).mono ?_
        rintro e w1 ⟨rfl, hb1⟩
        obtain ⟨a1, _, _, _⟩ := (Blk.new w 25 #[.int .i64 p, .int .i64 q]).after hb1 (by simp)
        have x1 := a1 1
        have hB := bstep (show Below w.heap.size w _ by go_grown) hb1 (by simp)
        go_wp2_with fail
        refine (within_any _ _ _ _).mono ?_
        rintro e w2 ⟨rfl, rfl⟩
        rw [e1]
        go_wp2_with fail
        go_ret
        exact ⟨by rw [HR.out]; rfl, hB⟩
    · have e1 := inB_no hk
      have HR := hide (show gpc p q c = 2 by unfold gpc; rw [if_pos ho, if_neg hk])
      go_enter Try.func33, Try.ntmps33
      go_wp2_with fail
      refine (hV _).mono ?_
      rintro e w1 ⟨rfl, hb1⟩
      have hB := bstep (show Below w.heap.size w _ by go_grown) hb1 (by simp)
      go_wp2_with fail
      refine (within_any _ _ _ _).mono ?_
      rintro e w2 ⟨rfl, rfl⟩
      rw [e1]
      go_wp2_with fail
      go_ret
      exact ⟨by rw [HR.out]; rfl, hB⟩
  · have hf : okF p q = false := by simpa using ho
    rw [hf] at hV
    have HR := hide (show gpc p q c = 1 by unfold gpc; rw [if_neg ho])
    go_enter Try.func33, Try.ntmps33
    go_wp2_with fail
    refine (hV _).mono ?_
    rintro e w1 ⟨rfl, hb1⟩
    have hB := bstep (show Below w.heap.size w _ by go_grown) hb1 (by simp)
    go_wp2_with fail
    go_ret
    exact ⟨by rw [HR.out]; rfl, hB⟩

theorem l20Code_any (p q c : Int) (w : World) :
    Calls Try.prog 36 #[.agg #[.int .i64 p, .int .i64 q], .int .i64 c] w fun e w' => e = .returned (.int .i64 (gpc p q c)) ∧ Below w.heap.size w w' := by
  have hV := l02Ok_any p q
  by_cases ho : okF p q = true
  · rw [ho] at hV
    by_cases hk : 1 ≤ c ∧ c ≤ 200
    · have e1 := inB_of hk
      by_cases hc : q < c
      all_goals
        have HR : Hid (gpc p q c = if q < c then 6 else 0) := hide (by unfold gpc; rw [if_pos ho, if_pos hk])
        first | rw [if_pos hc] at HR | rw [if_neg hc] at HR
        go_enter Try.func36, Try.ntmps36
        go_wp2_with fail
        refine (hV _).mono ?_
        rintro e w1 ⟨rfl, hb1⟩
        obtain ⟨a1, _, _, _⟩ := (Blk.new w 25 #[.int .i64 p, .int .i64 q]).after hb1 (by simp)
        have x1 := a1 1
        have hB := bstep (show Below w.heap.size w _ by go_grown) hb1 (by simp)
        go_wp2_with fail
        refine (l00In_any _ _ _ _).mono ?_
        rintro e w2 ⟨rfl, rfl⟩
        rw [e1]
        go_wp2_with fail
        go_ret
        exact ⟨by rw [HR.out]; rfl, hB⟩
    · have e1 := inB_no hk
      have HR := hide (show gpc p q c = 2 by unfold gpc; rw [if_pos ho, if_neg hk])
      go_enter Try.func36, Try.ntmps36
      go_wp2_with fail
      refine (hV _).mono ?_
      rintro e w1 ⟨rfl, hb1⟩
      have hB := bstep (show Below w.heap.size w _ by go_grown) hb1 (by simp)
      go_wp2_with fail
      refine (l00In_any _ _ _ _).mono ?_
      rintro e w2 ⟨rfl, rfl⟩
      rw [e1]
      go_wp2_with fail
      go_ret
      exact ⟨by rw [HR.out]; rfl, hB⟩
  · have hf : okF p q = false := by simpa using ho
    rw [hf] at hV
    have HR := hide (show gpc p q c = 1 by unfold gpc; rw [if_neg ho])
    go_enter Try.func36, Try.ntmps36
    go_wp2_with fail
    refine (hV _).mono ?_
    rintro e w1 ⟨rfl, hb1⟩
    have hB := bstep (show Below w.heap.size w _ by go_grown) hb1 (by simp)
    go_wp2_with fail
    go_ret
    exact ⟨by rw [HR.out]; rfl, hB⟩

/-- The order, in the program and in the reference, in one form. -/
theorem implOrd_any (p q : Int) (c : Nat) (w : World) (ho : okF p q = true) (hc : 1 ≤ c ∧ c ≤ 1000) (hcq : (c : Int) ≤ q) :
    Calls Try.prog 41 #[.agg #[.int .i64 p, .int .i64 q], .int .i64 (c : Int)] w fun e w' => ∃ g cap, e = .returned (.slice (some ⟨g, 0, none⟩) c cap) ∧ w.heap.size ≤ g ∧ Row w' g 2 1 c cap (il (ord (rst p q) c)) ∧ Below w.heap.size w w' := by
  obtain ⟨o1, o2, o3⟩ := okF_iff.1 ho
  refine (ordered_any p q c w o2 o1 o3 (by omega) hcq (by omega)).mono ?_
  rintro e w1 ⟨g, he, hg, hr, hb⟩
  exact ⟨g, c, he, hg, hr, hb⟩
theorem specOrd_any (p q : Int) (c : Nat) (w : World) (ho : okF p q = true) (hc : c ≤ 1000) :
    Calls Try.prog 42 #[.agg #[.int .i64 p, .int .i64 q], .int .i64 (c : Int)] w fun e w' => ∃ g cap, e = .returned (.slice (some ⟨g, 0, none⟩) c cap) ∧ w.heap.size ≤ g ∧ Row w' g 2 1 c cap (il (ord (rst p q) c)) ∧ Below w.heap.size w w' :=
  l20Order_any p q c w (okF_iff.1 ho).1 hc

set_option maxRecDepth 100000 in
theorem implOrderOfMultiples_any (p q c : Int) (w : World) :
    Calls Try.prog 13 #[.agg #[.int .i64 p, .int .i64 q], .int .i64 c] w fun e w' => ∃ v, e = .returned (.tuple #[v, .int .i64 (gpc p q c)]) ∧ Lst w' w.heap.size v (odx p q c) ∧ Below w.heap.size w w' := by
  have hC := checkPoints_any p q c
  by_cases h0 : gpc p q c = 0
  · obtain ⟨ho, hc, hcq⟩ := gpc_ok h0
    have hx : odx p q c = ord (rst p q) c.toNat := by unfold odx; rw [if_pos h0]
    obtain ⟨m, rfl⟩ : ∃ m : Nat, c = m := ⟨c.toNat, by omega⟩
    rw [Int.toNat_natCast] at hx
    have hL := fun w => implOrd_any p q m w ho ⟨by omega, by omega⟩ hcq
    rw [h0] at hC
    rw [h0, hx]
    clear hx h0 ho hcq
    go_enter Try.func13, Try.ntmps13
    go_wp2_with fail
    refine (hC _).mono ?_
    rintro e w1 ⟨rfl, hb1⟩
    obtain ⟨a1, _, k3, _⟩ := (Blk.new w 25 #[.int .i64 p, .int .i64 q]).after hb1 (by simp)
    have x0 := a1 0
    have x1 := a1 1
    have hB := bstep (show Below w.heap.size w _ by go_grown) hb1 (by simp)
    clear a1 hb1
    go_wp2_with fail
    refine (hL _).mono ?_
    rintro e w2 ⟨g, cap, rfl, hg, hr, hb2⟩
    have HL := hide (Lst.of_row (B := w.heap.size) hr (by have := hB.size; omega) (by omega))
    clear hr
    go_wp2_with fail
    go_returns
    exact ⟨_, rfl, HL.out, bstep hB hb2 hB.size⟩
  · have hx : odx p q c = [] := by unfold odx; rw [if_neg h0]
    rw [hx]
    generalize gpc p q c = d at *
    have hb : (d != 0) = true := by simp [h0]
    clear hx
    go_enter Try.func13, Try.ntmps13
    go_wp2_with fail
    refine (hC _).mono ?_
    rintro e w1 ⟨rfl, hb1⟩
    have hB := bstep (show Below w.heap.size w _ by go_grown) hb1 (by simp)
    go_wp2_with fail
    go_returns
    exact ⟨_, rfl, Lst.nil_ _ _, hB⟩

set_option maxRecDepth 100000 in
theorem specOrderOfMultiples_any (p q c : Int) (w : World) :
    Calls Try.prog 14 #[.agg #[.int .i64 p, .int .i64 q], .int .i64 c] w fun e w' => ∃ v, e = .returned (.tuple #[v, .int .i64 (gpc p q c)]) ∧ Lst w' w.heap.size v (odx p q c) ∧ Below w.heap.size w w' := by
  have hC := l20Code_any p q c
  by_cases h0 : gpc p q c = 0
  · obtain ⟨ho, hc, hcq⟩ := gpc_ok h0
    have hx : odx p q c = ord (rst p q) c.toNat := by unfold odx; rw [if_pos h0]
    obtain ⟨m, rfl⟩ : ∃ m : Nat, c = m := ⟨c.toNat, by omega⟩
    rw [Int.toNat_natCast] at hx
    have hL := fun w => specOrd_any p q m w ho (by omega)
    rw [h0] at hC
    rw [h0, hx]
    clear hx h0 ho hcq
    go_enter Try.func14, Try.ntmps14
    go_wp2_with fail
    refine (hC _).mono ?_
    rintro e w1 ⟨rfl, hb1⟩
    obtain ⟨a1, _, k3, _⟩ := (Blk.new w 25 #[.int .i64 p, .int .i64 q]).after hb1 (by simp)
    have x0 := a1 0
    have x1 := a1 1
    have hB := bstep (show Below w.heap.size w _ by go_grown) hb1 (by simp)
    clear a1 hb1
    go_wp2_with fail
    refine (hL _).mono ?_
    rintro e w2 ⟨g, cap, rfl, hg, hr, hb2⟩
    have HL := hide (Lst.of_row (B := w.heap.size) hr (by have := hB.size; omega) (by omega))
    clear hr
    go_wp2_with fail
    go_returns
    exact ⟨_, rfl, HL.out, bstep hB hb2 hB.size⟩
  · have hx : odx p q c = [] := by unfold odx; rw [if_neg h0]
    rw [hx]
    generalize gpc p q c = d at *
    have hb : (d != 0) = true := by simp [h0]
    clear hx
    go_enter Try.func14, Try.ntmps14
    go_wp2_with fail
    refine (hC _).mono ?_
    rintro e w1 ⟨rfl, hb1⟩
    have hB := bstep (show Below w.heap.size w _ by go_grown) hb1 (by simp)
    go_wp2_with fail
    go_returns
    exact ⟨_, rfl, Lst.nil_ _ _, hB⟩

end Go.Proofs.Ytpagfikhcmeciaa
