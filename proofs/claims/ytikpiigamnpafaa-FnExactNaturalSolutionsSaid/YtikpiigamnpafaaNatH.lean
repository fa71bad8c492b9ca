/- Rows of rows as the laws compare, mark and read them again; the law of NaturalSolutions. -/
import Derived.Test.YtikpiigamnpafaaNat
import Derived.Lib.QuietBelow
namespace Go.Proofs.Ytikpiigamnpafaa
open Go.RowKit Go.Sort

theorem bch {w w1 w2 : World} (h : Below w.heap.size w w1) (h2 : Below w1.heap.size w1 w2) : Below w.heap.size w w2 := bstep h h2 h.size

set_option maxHeartbeats 1000000 in
theorem eqSS_any (v1 v2 : Value) (B1 B2 m : Nat) (gs1 gs2 : List Nat) (ps : List (Int × Int)) (w : World) (h1 : RR w B1 v1 m gs1 ps) (h2 : RR w B2 v2 m gs2 ps) (hm : m ≤ 1000) :
    Calls Try.prog 6 #[v1, v2] w fun e w' => e = .returned (.bool true) ∧ Below w.heap.size w w' := by
  have mixed : Try.prog.follows .mixedOrders = true := by kernel_rfl
  have H1 := hide h1
  have H2 := hide h2
  obtain ⟨A1, c1, rfl, r1⟩ := h1.form
  obtain ⟨A2, c2, rfl, r2⟩ := h2.form
  clear h1 h2
  go_enter Try.func6, Try.ntmps6
  go_wp2
  go_loopw [5] (fun i wr => ∃ k : Nat, i = .int .i64 k ∧ k ≤ m ∧ Below w.heap.size w wr) (fun i _ => m - (intOf i).toNat)
  case atStart => exact ⟨0, rfl, by omega, Below.refl _ _⟩
  case round =>
    obtain ⟨k, rfl, hk, hbel⟩ := hrel
    by_cases hlt : k < m
    · have hg1 : k < gs1.length := by rw [H1.out.gl]; exact hlt
      have hg2 : k < gs2.length := by rw [H2.out.gl]; exact hlt
      have hp : k < ps.length := by rw [H1.out.pl]; exact hlt
      obtain ⟨b1, o1, rfl, hb1, hc1⟩ := r1.2 (by omega)
      obtain ⟨b2, o2, rfl, hb2, hc2⟩ := r2.2 (by omega)
      have e1 := hc1 k _ (sls_at hg1)
      have e2 := hc2 k _ (sls_at hg2)
      have i1 := (H1.out.inner hg1 hp)
      have i2 := (H2.out.inner hg2 hp)
      generalize gs1[k] = g1 at *
      generalize gs2[k] = g2 at *
      generalize ps[k] = p at *
      have q1 : Rd wr wr.heap.size 1 (some ⟨g1, 0, none⟩) 2 (il [p.1, p.2]) := ((i1.below hbel i1.lt)).rd
      have q2 : Rd wr wr.heap.size 1 (some ⟨g2, 0, none⟩) 2 (il [p.1, p.2]) := ((i2.below hbel i2.lt)).rd
      have x1 : ∀ d os, (grow (redrawn wr d) os).cell? ⟨b1, o1 + k, none⟩ = some (.slice (some ⟨g1, 0, none⟩) 2 2) := fun d os => cell_regrown ((hbel.cell (p := ⟨b1, o1 + k, none⟩) hb1).trans e1) d os
      have x2 : ∀ d os, (grow (redrawn wr d) os).cell? ⟨b2, o2 + k, none⟩ = some (.slice (some ⟨g2, 0, none⟩) 2 2) := fun d os => cell_regrown ((hbel.cell (p := ⟨b2, o2 + k, none⟩) hb2).trans e2) d os
      have cN : ∀ d os, Calls Try.prog 15 #[.slice (some ⟨g1, 0, none⟩) 2 2, .slice (some ⟨g2, 0, none⟩) 2 2] (grow (redrawn wr d) os) fun e w'' => e = .returned (.bool true) ∧ ∃ p : Regrown, w'' = grow (redrawn wr p.d) p.os := fun d os =>
        Calls.regrown_of ((eqInt64S_any _ _ 2 2 2 wr.heap.size _ _ (by omega) (q1.below (below_regrown wr d os)) (q2.below (below_regrown wr d os))).mono fun e w' ⟨he, n, hw⟩ => ⟨he, by rw [hw]; exact belowN (Below.refl _ _) n⟩)
      have hkz : (k : Int) < (m : Int) := by omega
      clear q1 q2 i1 i2 e1 e2 hc1 hc2 r1 r2 hg1 hg2 hp
      go_wp2_with fail
      refine wp_region_quiet_below (by assumption) (by kernel_rfl) ?_
      repeat (first | go_big_quiet_step (with_reducible exact cN _ _) | quiet_step ((with_reducible exact cN _ _)))
      refine wpQuiet_nil ?_
      intro _ hw'
      obtain ⟨⟨dq, osq⟩, hw''⟩ := hw'
      subst hw''
      have hb3 := below_regrown wr dq osq
      generalize grow (redrawn wr dq) osq = wn at *
      clear x1 x2 cN
      go_wp2_with fail
      go_roundw
      case rel => exact ⟨k + 1, by go_num, by omega, bch hbel hb3⟩
      case measure => simp [intOf]; omega
    · go_wp2
      go_ret
      exact ⟨rfl, hbel⟩

/-- The marks of n rows of two. -/
def mkr (n : Nat) : List (Int × Int) := (List.range n).map fun i : Nat => (1 + 2 * (i : Int), 1 + 2 * (i : Int) + 1)
theorem mkr_len (n : Nat) : (mkr n).length = n := by simp [mkr]
theorem mkr_at {n i : Nat} (h : i < n) : (mkr n)[i]'(by rw [mkr_len]; exact h) = (1 + 2 * (i : Int), 1 + 2 * (i : Int) + 1) := by simp [mkr]
theorem marks2 (k : Int) : marks k 2 = [k, k + 1] := by simp [marks, List.range_succ]
theorem blk_of_row {w : World} {g : Nat} {x y : Int} (h : Row w g 2 1 2 2 (il [x, y])) : Blk w g 2 #[.int .i64 x, .int .i64 y] := by
  obtain ⟨cur, h1, _, _, h4, h5, _⟩ := h
  have hc : cur = #[.int .i64 x, .int .i64 y] := by
    apply Array.toList_inj.1
    rw [List.take_of_length_le (by rw [Array.length_toList, h4]; exact Nat.le_refl _)] at h5
    rw [h5]; rfl
  rw [hc] at h1
  exact h1
theorem mk_get {ps : List (Int × Int)} {j i : Nat} (h : j ≤ ps.length) (hi : i < (mkr j ++ ps.drop j).length) : (mkr j ++ ps.drop j)[i] = if i < j then (1 + 2 * (i : Int), 1 + 2 * (i : Int) + 1) else ps[i]'(by rw [List.length_append, mkr_len, List.length_drop] at hi; omega) := by
  by_cases h1 : i < j
  · rw [if_pos h1, List.getElem_append_left (by rw [mkr_len]; exact h1), mkr_at h1]
  · rw [if_neg h1, List.getElem_append_right (by rw [mkr_len]; omega)]
    simp only [mkr_len, List.getElem_drop]
    congr 1
    omega
theorem nodup_at {gs : List Nat} (h : gs.Nodup) {i j : Nat} (hi : i < gs.length) (hj : j < gs.length) (hne : i ≠ j) : gs[i] ≠ gs[j] := by
  have h1 := List.pairwise_iff_getElem.1 h
  rcases Nat.lt_or_gt_of_ne hne with h2 | h2
  · exact h1 i j hi hj h2
  · exact fun e => h1 j i hj hi h2 e.symm
theorem RR.mark {w w' : World} {B m j : Nat} {v : Value} {gs : List Nat} {ps : List (Int × Int)} (h : RR w B v m gs (mkr j ++ ps.drop j)) (hps : ps.length = m) (hj : j < m) (hg : j < gs.length)
    (hr : Row w' gs[j] 2 1 2 2 (il [1 + 2 * (j : Int), 1 + 2 * (j : Int) + 1])) (hgr : w.grownBy w' (some gs[j])) : RR w' B v m gs (mkr (j + 1) ++ ps.drop (j + 1)) := by
  refine ⟨own_grown' h.own hgr (fun b hb e => ?_), h.gl, by rw [List.length_append, mkr_len, List.length_drop]; omega, h.nd, fun i h1 h2 => ?_, h.out⟩
  · injection e with e
    exact h.out b hb (by rw [e]; exact List.getElem_mem hg)
  · have h3 : i < (mkr j ++ ps.drop j).length := by rw [List.length_append, mkr_len, List.length_drop]; rw [List.length_append, mkr_len, List.length_drop] at h2; omega
    obtain ⟨b1, b2⟩ := h.blk i h1 h3
    refine ⟨b1, ?_⟩
    rw [mk_get (by omega) h3] at b2
    rw [mk_get (by omega) h2]
    by_cases hij : i = j
    · subst hij
      rw [if_pos (by omega)]
      exact blk_of_row hr
    · have hne : gs[i] ≠ gs[j] := nodup_at h.nd _ _ hij
      have b3 := b2.grown hgr (fun e => hne (by injection e))
      by_cases h5 : i < j
      · rw [if_pos h5] at b3
        rw [if_pos (by omega)]
        exact b3
      · rw [if_neg h5] at b3
        rw [if_neg (by omega)]
        exact b3

set_option maxHeartbeats 1000000 in
theorem markSS_any (v : Value) (B m : Nat) (gs : List Nat) (ps : List (Int × Int)) (w : World) (h : RR w B v m gs ps) (hm : m ≤ 1000) (hB : B ≤ w.heap.size) :
    Calls Try.prog 7 #[v, .int .i64 1] w fun e w' => e = .returned (.int .i64 (1 + 2 * m)) ∧ RR w' B v m gs (mkr m) ∧ Below B w w' := by
  have H := hide h
  obtain ⟨A, c, rfl, r⟩ := h.form
  have hp0 := h.pl
  have HP := hide hp0
  have h0 : RR w B (.slice A m c) m gs (mkr 0 ++ ps.drop 0) := by simpa [mkr] using h
  have H0 := hide h0
  clear h hp0 h0 r
  go_enter Try.func7, Try.ntmps7
  go_wp2
  go_loopw [1, 5] (fun a i wr => ∃ j : Nat, i = .int .i64 j ∧ a = .int .i64 (1 + 2 * j) ∧ j ≤ m ∧ RR wr B (.slice A m c) m gs (mkr j ++ ps.drop j) ∧ Below B w wr) (fun _ i _ => m - (intOf i).toNat)
  case atStart => exact ⟨0, rfl, by simp, by omega, H0.out, Below.refl _ _⟩
  case round =>
    obtain ⟨j, rfl, rfl, hj, hrr, hbel⟩ := hrel
    by_cases hlt : j < m
    · have hg : j < gs.length := by rw [hrr.gl]; exact hlt
      have hpl : j < (mkr j ++ ps.drop j).length := by rw [hrr.pl]; exact hlt
      obtain ⟨A', c', hA, r⟩ := hrr.form
      injection hA with hA1 hA2 hA3
      subst hA1
      obtain ⟨b, o, rfl, hb, hc⟩ := r.2 (by omega)
      have e1 := hc j _ (sls_at hg)
      have i1 := hrr.inner hg hpl
      have hMk := markInt64S_any gs[j] 2 2 _ (1 + 2 * (j : Int)) wr (by omega) (by omega) i1
      rw [marks2] at hMk
      have hBg := (hrr.blk j hg hpl).1
      have hgl := i1.lt
      have hstep : Hid (∀ w' : World, Row w' gs[j] 2 1 2 2 (il [1 + 2 * (j : Int), 1 + 2 * (j : Int) + 1]) → wr.grownBy w' (some gs[j]) → RR w' B (.slice (some ⟨b, o, none⟩) m c) m gs (mkr (j + 1) ++ ps.drop (j + 1))) := fun w' hr hgr => hrr.mark HP.out hlt hg hr hgr
      generalize gs[j] = gj at *
      have hjz : (j : Int) < (m : Int) := by omega
      have HM := hide hMk
      clear i1 hc r hrr hMk hg hpl hA2 hA3
      go_wp2_with fail
      refine HM.out.mono ?_
      rintro e w1 ⟨rfl, hr1, hg1⟩
      have hnext := hide (hstep.out w1 hr1 hg1)
      have hbn := hide (hbel.grown hg1 (by have := hbel.size; omega) (fun k hk => by injection hk; omega))
      clear hr1 hg1 e1
      go_wp2_with fail
      go_roundw
      case rel => exact ⟨j + 1, by go_num, by simp; omega, by omega, hnext.out, hbn.out⟩
      case measure => simp [intOf]; omega
    · have hjm : j = m := by omega
      subst hjm
      have e : mkr j ++ ps.drop j = mkr j := by rw [← HP.out, List.drop_length, List.append_nil]
      rw [e] at hrr
      have HR := hide hrr
      clear hrr e
      go_wp2
      go_ret
      exact ⟨rfl, HR.out, hbel⟩

set_option maxHeartbeats 1000000 in
theorem heldSS_any (v : Value) (B m : Nat) (gs : List Nat) (w : World) (h : RR w B v m gs (mkr m)) (hm : m ≤ 1000) :
    Calls Try.prog 8 #[v, .int .i64 1] w fun e w' => e = .returned (.int .i64 (1 + 2 * m)) ∧ w = w' := by
  have H := hide h
  obtain ⟨A, c, rfl, r⟩ := h.form
  clear h
  go_enter Try.func8, Try.ntmps8
  go_wp2
  go_loopw [1, 4, 5] (fun a rv i wr => ∃ j : Nat, i = .int .i64 j ∧ rv = .int .i64 0 ∧ a = .int .i64 (1 + 2 * j) ∧ j ≤ m ∧ wr = w) (fun _ _ i _ => m - (intOf i).toNat)
  case atStart => exact ⟨0, rfl, rfl, by simp, by omega, rfl⟩
  case round =>
    obtain ⟨j, rfl, rfl, rfl, hj, rfl⟩ := hrel
    by_cases hlt : j < m
    · have hg : j < gs.length := by rw [H.out.gl]; exact hlt
      have hpl : j < (mkr m).length := by rw [H.out.pl]; exact hlt
      obtain ⟨b, o, rfl, hb, hc⟩ := r.2 (by omega)
      have e1 := hc j _ (sls_at hg)
      have i1 := H.out.inner hg hpl
      rw [mkr_at hlt] at i1
      simp only at i1
      rw [← marks2] at i1
      have hMk := heldInt64S_any (some ⟨gs[j], 0, none⟩) 2 2 wr.heap.size (1 + 2 * (j : Int)) wr (by omega) (by omega) i1.rd
      generalize gs[j] = gj at *
      have hjz : (j : Int) < (m : Int) := by omega
      have hd : decide (1 + 2 * (j : Int) + 2 < 0) = false := decide_eq_false (by omega)
      have HM := hide hMk
      clear i1 hc r hMk hg hpl
      go_wp2_with fail
      refine HM.out.mono ?_
      rintro e w1 ⟨rfl, rfl⟩
      go_wp2_with fail
      go_roundw
      case rel => exact ⟨j + 1, by go_num, rfl, by simp; omega, by omega, trivial⟩
      case measure => simp [intOf]; omega
    · have hjm : j = m := by omega
      subst hjm
      clear r
      go_wp2
      go_ret
      exact ⟨rfl, rfl⟩

/-- What lies below block B' stays. -/
theorem RR.upto {w1 w w' : World} {B m : Nat} {v : Value} {gs : List Nat} {ps : List (Int × Int)} (h1 : RR w1 B v m gs ps) (h : RR w B v m gs ps) (hb : Below w1.heap.size w w') : RR w' B v m gs ps := by
  refine ⟨?_, h.gl, h.pl, h.nd, fun i hi h2 => ⟨(h.blk i hi h2).1, (hb.block _ (h1.blk i hi h2).2.lt).trans (h.blk i hi h2).2⟩, h.out⟩
  have ho := own_old' h1.own
  obtain ⟨h6, hh | ⟨g, cap, cur, rfl, hbs, h1, r⟩⟩ := h.own
  · exact ⟨h6, .inl hh⟩
  · exact ⟨h6, .inr ⟨g, cap, cur, rfl, hbs, (hb.block g (ho g rfl)).trans h1, r⟩⟩

set_option maxRecDepth 100000 in
theorem law_Natural (a b c : Int) (w : World) :
    Calls Try.prog 3 #[.int .i64 a, .int .i64 b, .int .i64 c] w fun e w' => e = .returned (.bool true) ∧ Below w.heap.size w w' := by
  have hS := specNatural_any a b c
  have hI := implNatural_any a b c
  have hm : (nsx a b c).length ≤ 1000 := by
    unfold nsx
    split
    · rw [nsk_len]
      rename_i h
      unfold nsc at h
      split at h
      · split at h
        · cases h
        · omega
      · cases h
    · simp
  generalize nsx a b c = X at *
  generalize nsc a b c = cd at *
  have hq : (cd != cd) = false := by simp
  obtain ⟨m, hX⟩ : ∃ m, X.length = m := ⟨_, rfl⟩
  rw [hX] at hS hI hm
  clear hX
  go_enter Try.func3, Try.ntmps3
  go_wp2_with fail
  refine (hS _).mono ?_
  rintro e w1 ⟨v1, gs1, rfl, r1, b1⟩
  have RA := hide r1
  have R1 := hide r1
  clear r1
  go_wp2_with fail
  refine (hI _).mono ?_
  rintro e w2 ⟨v2, gs2, rfl, r2, b2⟩
  have B2 := bch b1 b2
  have R1 := hide (R1.out.below b2)
  have R2 := hide r2
  have hs2 := b2.size
  have hs1 := b1.size
  clear r2 b1 b2
  go_wp2_with fail
  refine (eqSS_any _ _ _ _ m _ _ X _ R2.out R1.out hm).mono ?_
  rintro e w3 ⟨rfl, b3⟩
  have B3 := bch B2 b3
  have R1 := hide (R1.out.below b3)
  have R2 := hide (R2.out.below b3)
  have hs3 := b3.size
  clear b3 B2
  go_wp2_with fail
  refine (markSS_any _ _ m _ X _ R2.out hm (by omega)).mono ?_
  rintro e w4 ⟨rfl, r4, b4⟩
  have B4 : Below w.heap.size w w4 := B3.trans (b4.mono (by omega))
  have R4 := hide r4
  have R1 := hide (RR.upto RA.out R1.out b4)
  clear r4 b4 B3
  go_wp2_with fail
  refine (heldSS_any _ _ m _ _ R4.out hm).mono ?_
  rintro e w5 ⟨rfl, rfl⟩
  have hmz : (1 + 2 * (m : Int) != 1 + 2 * (m : Int)) = false := by simp
  have hmn : decide (1 + 2 * (m : Int) < 0) = false := decide_eq_false (by omega)
  go_wp2_with fail
  refine (hI _).mono ?_
  rintro e w6 ⟨v6, gs6, rfl, r6, b6⟩
  have B6 := bch B4 b6
  have R1 := hide (R1.out.below b6)
  have R4 := hide (R4.out.below b6)
  have R6 := hide r6
  clear r6 b6 B4
  go_wp2_with fail
  refine (eqSS_any _ _ _ _ m _ _ X _ R6.out R1.out hm).mono ?_
  rintro e w7 ⟨rfl, b7⟩
  have B7 := bch B6 b7
  have R4 := hide (R4.out.below b7)
  clear b7 B6
  go_wp2_with fail
  refine (heldSS_any _ _ m _ _ R4.out hm).mono ?_
  rintro e w8 ⟨rfl, rfl⟩
  go_wp2_with fail
  go_ret
  exact ⟨rfl, B7⟩

end Go.Proofs.Ytikpiigamnpafaa
