/- intermediates, IntermediatesOf: the program's. -/
import Derived.Test.YtnjilpldfidbjaaStpD
namespace Go.Proofs.Ytnjilpldfidbjaa
open Go.RowKit

/-- All intermediate fractions of k terms. -/
def inl (p : Int) (q : Nat) : Nat → List (Int × Int)
  | 0 => []
  | k + 1 => inl p q k ++ (if k = 0 then [((cv p q 1).p, (cv p q 1).q)] else stl (cv p q k) ((terms p q).getD k 0).toNat)
theorem inl_one (p : Int) (q : Nat) : inl p q 1 = [((cv p q 1).p, (cv p q 1).q)] := by simp [inl]
theorem inl_step (p : Int) (q k : Nat) (h : k + 1 < (terms p q).length) : inl p q (k + 1 + 1) = inl p q (k + 1) ++ stl (cv p q (k + 1)) ((terms p q)[k + 1]).toNat := by
  have : (terms p q).getD (k + 1) 0 = (terms p q)[k + 1] := by simp [List.getD, h]
  rw [inl, if_neg (by omega), this]
theorem inl_len {p : Int} {q : Nat} (ht : tl (terms p q) = false) : ∀ k, k + 1 ≤ (terms p q).length → 1 ≤ (inl p q (k + 1)).length ∧ (inl p q (k + 1)).length ≤ 1 + 1000 * k
  | 0, _ => by rw [inl_one]; simp
  | k + 1, h => by
    have ih := inl_len ht k (by omega)
    have hb := tl_bd ht (i := k) (by omega)
    rw [inl_step p q k (by omega), List.length_append, stl_len]
    omega
def itx (p q : Int) : List (Int × Int) := if itc p q = 0 then inl p q.toNat (tk p q).length else []

theorem slice_one {n c : Nat} (h : n + 1 ≤ c) : ∃ d, c = d + 1 ∧ (d = 0 → n = 0) := ⟨c - 1, by omega, by omega⟩

set_option maxRecDepth 100000 in
set_option maxHeartbeats 2000000 in
theorem intermediates_any (p : Int) (q g n c : Nat) (w : World) (ho : okF p q = true) (ht : tl (terms p q) = false) (hn : n = (terms p q).length) (h : Row w g 2 1 n c (il (terms p q))) :
    Calls Try.prog 50 #[.slice (some ⟨g, 0, none⟩) n c] w fun e w' => ∃ v, e = .returned v ∧ LstF w' w.heap.size v (inl p q n) ∧ Below w.heap.size w w' := by
  obtain ⟨i0, hinf, hz0, hz1, hz2⟩ := info_parts infoF
  have hl60 := len_half 30 p q (by have := okF_iff.1 ho; omega)
  have h00 := (term0_bd ho).1
  have hcap := h.cap_
  simp only [maxLen] at hcap
  rw [← hn] at hl60 h00
  obtain ⟨m, rfl⟩ : ∃ m, n = m + 1 := ⟨n - 1, by omega⟩
  obtain ⟨d, rfl, hd0⟩ := slice_one (n := m) (c := c) (by omega)
  have hCn := convergents_any p q g (m + 1) (d + 1) w ho hn h
  have hat0 := (cs2_at (fs := cvl p q (m + 1)) (i := 0) (by rw [cvl_len]; omega))
  rw [cvl_at (by omega)] at hat0
  have HA0 := hide hat0
  have H1 := hide (inl_one p q)
  have HH := hide h
  have HN := hide hn
  obtain ⟨P0, hP0⟩ : ∃ P0, (cv p q (0 + 1)).p = P0 := ⟨_, rfl⟩
  obtain ⟨Q0, hQ0⟩ : ∃ Q0, (cv p q (0 + 1)).q = Q0 := ⟨_, rfl⟩
  simp only [Nat.zero_add] at hP0 hQ0
  have HP0 := hide hP0
  have HQ0 := hide hQ0
  have hglt := h.lt
  clear h hn hat0 hP0 hQ0
  go_enter Try.func50, Try.ntmps50
  go_wp2_with fail
  refine hCn.mono ?_
  rintro e w1 ⟨ga, ca, rfl, hga, hra, hb1⟩
  have hx := hra.cell HA0.out.1
  have hy := hra.cell HA0.out.2
  simp only [Nat.zero_add] at hx hy
  rw [HP0.out] at hx
  rw [HQ0.out] at hy
  simp only [Nat.zero_mul] at hx hy
  have hgalt := hra.lt
  have sz1 := hb1.size
  have HRA := hide hra
  have HB1 := hide hb1
  clear hra hb1 hCn
  have hi0 : (0 : Int) < (m : Int) + 1 := by omega
  rcases Nat.eq_zero_or_pos d with hd | hd
  · have hm0 := hd0 hd
    subst hm0 hd
    go_wp2_with fail
    have hr1 := row1 w1 P0 Q0
    have HR1 := hide (hr1.alloc (.cells #[.int .i64 1, .int .i64 0] 25))
    have HB2 := hide ((HB1.out.alloc sz1 (.cells #[.int .i64 P0, .int .i64 Q0] 25)).alloc (by simp; omega) (.cells #[.int .i64 1, .int .i64 0] 25))
    clear hr1
    go_loopw [5, 22] (fun v i wr => v = .slice (some ⟨w1.heap.size, 0, none⟩) 1 1 ∧ i = .int .i64 0 ∧ wr = (w1.alloc (.cells #[.int .i64 P0, .int .i64 Q0] 25)).alloc (.cells #[.int .i64 1, .int .i64 0] 25)) (fun _ _ _ => 0)
    case atStart => exact ⟨rfl, rfl, rfl⟩
    case round =>
      obtain ⟨rfl, rfl, rfl⟩ := hrel
      go_wp2
      go_ret
      refine ⟨_, rfl, ?_, HB2.out⟩
      have e : inl p q (0 + 1) = [(P0, Q0)] := by rw [Nat.zero_add, H1.out, HP0.out, HQ0.out]
      rw [e]
      exact LstF.of_row HR1.out sz1 (by omega)
  · clear hd0
    go_wp2_with fail
    have hr1 := row1 w1 P0 Q0
    have HR1 := hide (hr1.alloc (.cells #[.int .i64 1, .int .i64 0] 25))
    have HB2 := hide (((Below.refl w1.heap.size w1).alloc (Nat.le_refl _) (.cells #[.int .i64 P0, .int .i64 Q0] 25)).alloc (by simp) (.cells #[.int .i64 1, .int .i64 0] 25))
    have hpq1 : (cv p q (0 + 1)).pp = 1 ∧ (cv p q (0 + 1)).qq = 0 := by rw [cv_succ (by rw [← HN.out]; omega)]; exact ⟨rfl, rfl⟩
    have HPQ1 := hide hpq1
    clear hr1 hpq1
    go_loopw [5, 22] (fun v i wr => ∃ k gl cl ll : Nat, i = .int .i64 k ∧ k ≤ m ∧ ll = (inl p q (k + 1)).length ∧ v = .slice (some ⟨gl, 0, none⟩) ll cl ∧ w1.heap.size ≤ gl ∧ gl ≠ w1.heap.size + 1 ∧ Row wr gl 25 2 ll cl (cs2 (inl p q (k + 1))) ∧ Blk wr (w1.heap.size + 1) 25 #[.int .i64 (cv p q (k + 1)).pp, .int .i64 (cv p q (k + 1)).qq] ∧ Below w1.heap.size w1 wr) (fun _ i _ => m - (intOf i).toNat)
    case atStart =>
      refine ⟨0, w1.heap.size, 1, 1, rfl, by omega, by rw [Nat.zero_add, H1.out]; rfl, rfl, Nat.le_refl _, by omega, ?_, ?_, HB2.out⟩
      · rw [Nat.zero_add, H1.out, HP0.out, HQ0.out]; exact HR1.out
      · rw [HPQ1.out.1, HPQ1.out.2]; exact Blk.newAt (by simp)
    case round =>
      obtain ⟨k, gl, cl, ll, rfl, hk, hll, rfl, hgl, hgne, hrow, hblk, hbel⟩ := hrel
      have sz := hbel.size
      have hll1 := inl_len ht k (by rw [← HN.out]; omega)
      rw [← hll] at hll1
      have HLL := hide hll
      have hgll := hrow.lt
      have hcapl := hrow.cap_
      have HW := hide hrow
      have HBx := hide hblk
      have hBlt := hblk.lt
      clear hll hrow hblk
      by_cases hlt : k < m
      · have hk1 : k + 1 < (terms p q).length := by rw [← HN.out]; omega
        have htb := tl_bd ht hk1
        have hcv1 := cv_bd ho (k + 1)
        have hcv2 := cv_bd2 ho (k := k + 1) (by omega)
        have HS := hide (inl_step p q k hk1)
        have hcs := cv_succ hk1
        have HCS := hide (show (cv p q (k + 1 + 1)).pp = (cv p q (k + 1)).p ∧ (cv p q (k + 1 + 1)).qq = (cv p q (k + 1)).q by rw [hcs]; exact ⟨rfl, rfl⟩)
        have hct := (HH.out.below (HB1.out.trans (hbel.mono sz1)) hglt).cell (il_at hk1)
        have hat := (cs2_at (fs := cvl p q (m + 1)) (i := k) (by rw [cvl_len]; omega))
        rw [cvl_at (by omega)] at hat
        have HAT := hide (And.intro (HRA.out.cell hat.1) (HRA.out.cell hat.2))
        obtain ⟨t, hteq⟩ : ∃ t : Nat, (terms p q)[k + 1] = t := ⟨((terms p q)[k + 1]).toNat, by omega⟩
        rw [hteq] at htb hct HS
        rw [Int.toNat_natCast] at HS
        rw [Nat.add_comm k 1] at hct
        have hSt := fun w => stepsTo_any (cv p q (k + 1)) t w (by omega) hcv1.1 hcv1.2 hcv2.1 hcv2.2
        clear hcs hat hteq hcv1 hcv2
        generalize cv p q (k + 1) = C at *
        obtain ⟨P, Q, PP, QQ⟩ := C
        simp only at hSt HAT HCS
        have hac := HAT.out
        have y0 := (hbel.cell (p := ⟨_, _, none⟩) hgalt).trans hac.1
        have y1 := (hbel.cell (p := ⟨_, _, none⟩) hgalt).trans hac.2
        obtain ⟨kc, kf, _, _⟩ := HBx.out.after (Below.refl _ _) hBlt
        have z0 := kc 0
        have z1 := kc 1
        have i1 : (k : Int) < (m : Int) := by omega
        have i2 : (k : Int) < (m : Int) + 1 := by omega
        clear kc kf hac y0 y1 z0 z1
        have hgag : ¬ ga = gl := by omega
        have HSS : Hid (∀ w', wr.grownBy w' (some gl) → (wr.grownBy w' (some gl) ∧ w'.cell? ⟨w1.heap.size + 1, 0, none⟩ = some (.int .i64 PP) ∧ w'.cell? ⟨w1.heap.size + 1, 1, none⟩ = some (.int .i64 QQ) ∧ w'.cell? ⟨ga, k * 2, none⟩ = some (.int .i64 P) ∧ w'.cell? ⟨ga, k * 2 + 1, none⟩ = some (.int .i64 Q))) := hide (by
          intro w' hw
          have hb := HBx.out.grown hw (by simp; omega)
          obtain ⟨kc, _⟩ := hb.after (Below.refl (w1.heap.size + 1 + 1) w') (by omega)
          exact ⟨hw, (kc 0).trans rfl, (kc 1).trans rfl, (hw.cell_far ⟨_, _, none⟩ (by simp; omega) (by simp; omega)).trans ((hbel.cell (p := ⟨_, _, none⟩) hgalt).trans HAT.out.1), (hw.cell_far ⟨_, _, none⟩ (by simp; omega) (by simp; omega)).trans ((hbel.cell (p := ⟨_, _, none⟩) hgalt).trans HAT.out.2)⟩)
        go_wp2_with fail
        go_region_held3 (fun w' => wr.grownBy w' (some gl) ∧ w'.cell? ⟨w1.heap.size + 1, 0, none⟩ = some (.int .i64 PP) ∧ w'.cell? ⟨w1.heap.size + 1, 1, none⟩ = some (.int .i64 QQ) ∧ w'.cell? ⟨ga, k * 2, none⟩ = some (.int .i64 P) ∧ w'.cell? ⟨ga, k * 2 + 1, none⟩ = some (.int .i64 Q))
          (first | assumption | exact HSS.out _ (gdrew _ _) | exact HSS.out _ (gnext (by assumption) hb5) | exact HSS.out _ (gapp (by assumption) hgrow1) | fail)
          (first | (go_at_call 60; refine (hSt _).mono ?_; rintro e w5 ⟨gs, cs, rfl, hgs, hrs, hb5⟩) | (refine step_append_lies _ (by rfl) (.tmp 27) (.tmp 34) _ (by rfl) 0 25 i0 _ 2 16 Try.underlying28 hinf hz0 hz1 hz2 rfl (by omega) (.slice (some ⟨gl, 0, none⟩) ll cl) ll (cs2 (inl p q (k + 1))) (by rfl) (((HW.out.below (Below.refl wr.heap.size wr).drew hgll).below hb5 hgll).own (Nat.zero_le gl)) ⟨gs, 0, none⟩ t cs (cs2 (stl ⟨P, Q, PP, QQ⟩ t)) (by rfl) hrs.len hrs.news (one2 _) (by omega) (by simp only [maxLen]; omega) (by omega) (Nat.zero_le _) w5.heap.size (by simp) ?_; intro g1 cc w6 hown1 hgrow1 hat1 hlt1) | fail)
        have hb5' : Below wr.heap.size wr w5 := ((Below.refl _ _).drew).trans hb5
        have sz5 := hb5'.size
        have hbW := bstep hbel hb5' sz
        have hb6 : Below w1.heap.size w1 w6 := hbW.grown hgrow1 (by omega) (fun k h => by simp [Value.ownBlock] at h; omega)
        have HX6 := hide (((HBx.out.after hb5' hBlt).2.2.2.out).grown hgrow1 (fun h => by simp [Value.ownBlock] at h; omega))
        have y0 := (hb6.cell (p := ⟨_, _, none⟩) hgalt).trans HAT.out.1
        have y1 := (hb6.cell (p := ⟨_, _, none⟩) hgalt).trans HAT.out.2
        have hg1 : w1.heap.size ≤ g1 ∧ g1 ≠ w1.heap.size + 1 := by
          rcases at_old hat1 with h | h <;> omega
        have HO := hide (Row.of_own hown1).1
        obtain ⟨kc, kf, hB6, _⟩ := HX6.out.after (Below.refl _ _) HX6.out.lt
        have z0 := kc 0
        have z1 := kc 1
        have f0 := kf 0
        have f1 := kf 1
        have HB6 := hide hb6
        have s6 := hb6.size
        clear kc kf hown1 hgrow1 hat1 hb6 hrs hb5 hb5' hbW hSt
        go_wp2
        go_roundw
        case rel =>
          refine ⟨k + 1, g1, cc, ll + t, by go_num, by omega, by rw [HS.out, List.length_append, stl_len, HLL.out], rfl, hg1.1, hg1.2, ?_, ?_, ?_⟩
          · rw [HS.out, cs2_append]
            exact (HO.out.far (by simp; omega) _).far (by simp; omega) _
          · rw [HCS.out.1, HCS.out.2]
            exact HX6.out.set2
          · exact (HB6.out.setCell (by simp) _).setCell (by simp) _
        case measure => simp [intOf]; omega
      · obtain rfl : k = m := by omega
        have HF := hide (LstF.of_row (B := w.heap.size) HW.out (by omega) (by omega))
        have HB7 := hide (HB1.out.trans (hbel.mono sz1))
        go_wp2
        go_ret
        exact ⟨_, rfl, HF.out, HB7.out⟩

end Go.Proofs.Ytnjilpldfidbjaa
