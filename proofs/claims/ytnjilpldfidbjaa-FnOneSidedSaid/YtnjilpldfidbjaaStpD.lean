/- StepsBetween: the program's. -/
import Derived.Test.YtnjilpldfidbjaaStpC
namespace Go.Proofs.Ytnjilpldfidbjaa
open Go.RowKit

theorem row1 (W : World) (x y : Int) : Row (W.alloc (.cells #[.int .i64 x, .int .i64 y] 25)) W.heap.size 25 2 1 1 (cs2 [(x, y)]) := Row.lit rfl rfl (by decide)
theorem row1d (W : World) (x y : Int) : Row (W.alloc (.cells #[.int .i64 x, .int .i64 y] 25)).drew W.heap.size 25 2 1 1 (cs2 [(x, y)]) := row1 W x y
theorem bown {N : Nat} {w0 W w1 : World} {p : Prop} {v : Value} {g : Nat} (h : Below N w0 W ∧ p) (hg : W.grownBy w1 v.ownBlock) (hv : v.ownBlock = some g) (h1 : N ≤ W.heap.size) (h2 : N ≤ g) : Below N w0 w1 :=
  h.1.grown hg h1 (fun k hk => by rw [hv] at hk; injection hk with hk; omega)

set_option maxRecDepth 100000 in
set_option maxHeartbeats 2000000 in
theorem implSteps_any (p q k : Int) (w : World) :
    Calls Try.prog 27 #[.agg #[.int .i64 p, .int .i64 q], .int .i64 k] w fun e w' => ∃ v, e = .returned (.tuple #[v, .int .i64 (sbc p q k)]) ∧ LstF w' w.heap.size v (sbx p q k) ∧ Below w.heap.size w w' := by
  have hV := implValid_any p q
  by_cases ho : okF p q = true
  · obtain ⟨o1, o2, _⟩ := okF_iff.1 ho
    rw [ho] at hV
    obtain ⟨b, rfl⟩ : ∃ b : Nat, q = b := ⟨q.toNat, by omega⟩
    have hc : itc p b = if tl (terms p b) = true then 5 else 0 := by unfold itc; rw [if_pos ho]; rfl
    have htk : tk p b = terms p b := rfl
    have hE := fun w => expand_any p b w (by omega) (by omega) (by omega)
    have hl60 := len_half 30 p b (by omega)
    rcases Bool.eq_false_or_eq_true (tl (terms p b)) with ht | ht
    · have hs : sbc p b k = 5 := by unfold sbc; rw [hc, ht]; rfl
      have hx : sbx p b k = [] := by unfold sbx; rw [hs]; rfl
      have hL := fun g n c w => tooLong_any g n c (terms p b) w
      rw [ht] at hL
      have h00 := (term0_bd ho).1
      rw [hs, hx]
      clear hs hx hc
      go_enter Try.func27, Try.ntmps27
      go_wp2_with fail
      refine (hV _).mono ?_
      rintro e w1 ⟨rfl, hb1⟩
      obtain ⟨a1, _, k3, _⟩ := (Blk.new w 25 #[.int .i64 p, .int .i64 b]).after hb1 (by simp)
      have x0 := a1 0
      have x1 := a1 1
      have hB := bstep (show Below w.heap.size w _ by go_grown) hb1 (by simp)
      clear a1 hb1
      go_wp2_with fail
      refine (hE _).mono ?_
      rintro e w2 ⟨g, c, n, rfl, hn, hg, hrow, hb2⟩
      have hB2 := bstep hB hb2 hB.size
      rw [← hn] at h00 hl60
      have HN := hide hn
      clear hn x0 x1
      go_wp2_with fail
      refine (hL _ _ _ _ (by omega) (by omega) hrow).mono ?_
      rintro e w3 ⟨rfl, rfl⟩
      go_wp2_with fail
      go_returns
      exact ⟨_, rfl, LstF.nil_ _ _, hB2⟩
    · have hi0 : itc p b = 0 := by rw [hc, ht]; rfl
      have hL := fun g n c w => tooLong_any g n c (terms p b) w
      rw [ht] at hL
      have h00 := (term0_bd ho).1
      by_cases hk : 0 ≤ k ∧ k ≤ ((terms p b).length : Int) - 3
      · have hs : sbc p b k = 0 := by unfold sbc; rw [hi0, htk, if_pos hk]; rfl
        obtain ⟨i, rfl⟩ : ∃ i : Nat, k = i := ⟨k.toNat, by omega⟩
        have hi2 : i + 1 + 1 < (terms p b).length := by omega
        have hx : sbx p b i = ((cv p b (i + 1)).p, (cv p b (i + 1)).q) :: stl (cv p b (i + 1 + 1)) ((terms p b)[i + 1 + 1]).toNat := by
          unfold sbx; rw [hs, htk]; simp [List.getD, hi2]
        have htb := tl_bd ht hi2
        have hcv1 := cv_bd ho (i + 1 + 1)
        have hcv2 := cv_bd2 ho (k := i + 1 + 1) (by omega)
        have hCa := cv_succ (p := p) (q := b) (k := i + 1) (by omega)
        have n3 : (cv p b (i + 1 + 1)).pp = (cv p b (i + 1)).p := by rw [hCa]; rfl
        have n4 : (cv p b (i + 1 + 1)).qq = (cv p b (i + 1)).q := by rw [hCa]; rfl
        obtain ⟨m, hm⟩ : ∃ m : Nat, (terms p b)[i + 1 + 1] = m := ⟨((terms p b)[i + 1 + 1]).toNat, by omega⟩
        rw [hm] at hx htb
        have hSt := fun w => stepsTo_any (cv p b (i + 1 + 1)) m w (by omega) hcv1.1 hcv1.2 hcv2.1 hcv2.2
        have HT := hide (il_at (zs := terms p b) (i := i + 1 + 1) hi2)
        rw [hm] at HT
        have hat1 := (cs2_at (fs := cvl p b (terms p b).length) (i := i) (by rw [cvl_len]; omega))
        have hat2 := (cs2_at (fs := cvl p b (terms p b).length) (i := i + 1) (by rw [cvl_len]; omega))
        rw [cvl_at (by omega)] at hat1 hat2
        rw [n3, n4] at hSt
        rw [hs, hx]
        have hCn := fun g n c w => convergents_any p b g n c w ho
        clear hs hx hc hCa n3 n4 hcv1 hcv2 hm htk
        generalize (cv p b (i + 1)).p = P0 at *
        generalize (cv p b (i + 1)).q = Q0 at *
        simp only [Int.toNat_natCast]
        generalize stl (cv p b (i + 1 + 1)) m = L at *
        generalize (cv p b (i + 1 + 1)).p = P1 at *
        generalize (cv p b (i + 1 + 1)).q = Q1 at *
        simp only at hat1 hat2
        have HA1 := hide hat1
        have HA2 := hide hat2
        obtain ⟨i0, hinf, hz0, hz1, hz2⟩ := info_parts infoF
        clear hat1 hat2
        have e1 := inB_of hk
        have e2 : ((terms p b).length : Int) - 3 = ((terms p b).length : Int) - 3 := rfl
        clear e2
        generalize hn0 : (terms p b).length = n0 at *
        have HN0 := hide hn0
        clear hn0
        go_enter Try.func27, Try.ntmps27
        go_wp2_with fail
        refine (hV _).mono ?_
        rintro e w1 ⟨rfl, hb1⟩
        obtain ⟨a1, _, k3, _⟩ := (Blk.new w 25 #[.int .i64 p, .int .i64 b]).after hb1 (by simp)
        have x0 := a1 0
        have x1 := a1 1
        have hB := bstep (show Below w.heap.size w _ by go_grown) hb1 (by simp)
        clear a1 hb1
        go_wp2_with fail
        refine (hE _).mono ?_
        rintro e w2 ⟨g, c, n, rfl, hn, hg, hrow, hb2⟩
        obtain rfl : n = n0 := hn
        have hB2 := bstep hB hb2 hB.size
        clear x0 x1
        go_wp2_with fail
        refine (hL _ _ _ _ (by omega) (by omega) hrow).mono ?_
        rintro e w3 ⟨rfl, rfl⟩
        have HR := hide hrow
        clear hrow hL hE hV hb2
        go_wp2_with fail
        refine (size_any _ _ _ _).mono ?_
        rintro e w3 ⟨rfl, rfl⟩
        go_wp2_with fail
        refine (within_any _ _ _ _).mono ?_
        rintro e w3 ⟨rfl, rfl⟩
        rw [e1]
        go_wp2_with fail
        refine (hCn _ _ _ _ rfl HR.out).mono ?_
        rintro e w3 ⟨ga, ca, rfl, hga, hra, hb3⟩
        have hB3 := bstep hB2 hb3 hB2.size
        have hrt := HR.out.below hb3 HR.out.lt
        have hglt := hrt.lt
        have hgalt := hra.lt
        have hsz := hB3.size
        have c1 := hra.cell HA1.out.1
        have c2 := hra.cell HA1.out.2
        have c3 := hra.cell HA2.out.1
        have c4 := hra.cell HA2.out.2
        have c5 := hrt.cell HT.out
        have HC := hide (And.intro c1 (And.intro c2 (And.intro c3 (And.intro c4 c5))))
        clear c1 c2 c3 c4 c5 hb3 hrt hra HA1 HA2 HT hB hB2 HR hCn e1
        have HSS : Hid (∀ w', Below w3.heap.size w3 w' → (Below w3.heap.size w3 w' ∧ w'.cell? ⟨ga, i * 2, none⟩ = some (.int .i64 P0) ∧ w'.cell? ⟨ga, i * 2 + 1, none⟩ = some (.int .i64 Q0) ∧ w'.cell? ⟨ga, (i + 1) * 2, none⟩ = some (.int .i64 P1) ∧ w'.cell? ⟨ga, (i + 1) * 2 + 1, none⟩ = some (.int .i64 Q1) ∧ w'.cell? ⟨g, i + 2, none⟩ = some (.int .i64 m))) := hide (by
          intro w' hw
          exact ⟨hw, (hw.cell (p := ⟨_, _, none⟩) hgalt).trans HC.out.1, (hw.cell (p := ⟨_, _, none⟩) hgalt).trans HC.out.2.1, (hw.cell (p := ⟨_, _, none⟩) hgalt).trans HC.out.2.2.1, (hw.cell (p := ⟨_, _, none⟩) hgalt).trans HC.out.2.2.2.1, (hw.cell (p := ⟨_, _, none⟩) hglt).trans HC.out.2.2.2.2⟩)
        have b1 : (0 : Int) ≤ (i : Int) := by omega
        have b2 : (i : Int) < (n : Int) := by omega
        have b3 : (i : Int) + 1 < (n : Int) := by omega
        have b4 : (i : Int) + 2 < (n : Int) := by omega
        have b5 : (0 : Int) ≤ (i : Int) + 1 := by omega
        have b6 : (0 : Int) ≤ (i : Int) + 2 := by omega
        have s1 : IntKind.i64.wrap ((i : Int) + 1) = (i : Int) + 1 := IntWalk.i64_in _ (by omega)
        have s2 : IntKind.i64.wrap ((i : Int) + 2) = (i : Int) + 2 := IntWalk.i64_in _ (by omega)
        have s3 : ((i : Int) + 1).toNat = i + 1 := by omega
        have s4 : ((i : Int) + 2).toNat = i + 2 := by omega
        go_wp2_with fail
        go_region_held3 (fun w' => Below w3.heap.size w3 w' ∧ w'.cell? ⟨ga, i * 2, none⟩ = some (.int .i64 P0) ∧ w'.cell? ⟨ga, i * 2 + 1, none⟩ = some (.int .i64 Q0) ∧ w'.cell? ⟨ga, (i + 1) * 2, none⟩ = some (.int .i64 P1) ∧ w'.cell? ⟨ga, (i + 1) * 2 + 1, none⟩ = some (.int .i64 Q1) ∧ w'.cell? ⟨g, i + 2, none⟩ = some (.int .i64 m))
          (first | assumption | exact HSS.out _ (Below.refl _ _).drew | exact HSS.out _ (bnext (by assumption) hb5) | exact HSS.out _ (balloc (by assumption)) | exact HSS.out _ (bown (by assumption) hgrow1 rfl (by (try simp) <;> omega) (by (try simp) <;> omega)) | fail)
          (first | (go_at_call 60; refine (hSt _).mono ?_; rintro e w5 ⟨gs, cs, rfl, hgs, hrs, hb5⟩; have hs5 : w3.heap.size ≤ w5.heap.size := (by have h5 := hb5.size; simp at h5; omega)) | (refine step_append_lies _ (by rfl) (.tmp 36) (.tmp 51) _ (by rfl) 0 25 i0 _ 2 16 Try.underlying28 hinf hz0 hz1 hz2 rfl (by omega) (.slice (some ⟨w3.heap.size, 0, none⟩) 1 1) 1 (cs2 [(P0, Q0)]) (by rfl) (((row1d w3 P0 Q0).below hb5 (by simp)).own (Nat.zero_le _)) ⟨gs, 0, none⟩ m cs (cs2 L) (by rfl) hrs.len hrs.news (one2 _) (by omega) (by simp only [maxLen]; omega) (by omega) (Nat.zero_le _) w5.heap.size (by simp) ?_; intro g1 cc w6 hown1 hgrow1 hat1 hlt1) | (refine step_append_lies _ (by rfl) (.tmp 36) (.tmp 51) _ (by rfl) 0 25 i0 _ 2 16 Try.underlying28 hinf hz0 hz1 hz2 rfl (by omega) (.slice (some ⟨w5.heap.size, 0, none⟩) 1 1) 1 (cs2 [(P0, Q0)]) (by rfl) ((row1 w5 P0 Q0).own (Nat.zero_le _)) ⟨gs, 0, none⟩ m cs (cs2 L) (by rfl) hrs.len (hrs.alloc _).news (one2 _) (by omega) (by simp only [maxLen]; omega) (by omega) (Nat.zero_le _) (w5.heap.size + 1) (by simp) ?_; intro g1 cc w6 hown1 hgrow1 hat1 hlt1) | fail)
        all_goals
          have hbf : Below w3.heap.size w3 w6 := by
            apply And.left
            assumption
          have hg1 : w.heap.size ≤ g1 := by
            rcases at_old hat1 with h | h <;> omega
          have hrow := (Row.of_own hown1).1
          rw [← cs2_append] at hrow
          have HF := hide (LstF.of_row (B := w.heap.size) hrow hg1 (by omega))
          have hBF := bstep hB3 hbf hsz
          clear hown1 hgrow1 hat1 hrow hbf
          go_wp2
          go_returns
          exact ⟨_, rfl, HF.out, hBF⟩
      · have hs : sbc p b k = 2 := by unfold sbc; rw [hi0, htk, if_neg hk]; rfl
        have hx : sbx p b k = [] := by unfold sbx; rw [hs]; rfl
        rw [hs, hx]
        clear hs hx hc htk
        have e1 := inB_no hk
        generalize hn0 : (terms p b).length = n0 at *
        have HN0 := hide hn0
        clear hn0
        go_enter Try.func27, Try.ntmps27
        go_wp2_with fail
        refine (hV _).mono ?_
        rintro e w1 ⟨rfl, hb1⟩
        obtain ⟨a1, _, k3, _⟩ := (Blk.new w 25 #[.int .i64 p, .int .i64 b]).after hb1 (by simp)
        have x0 := a1 0
        have x1 := a1 1
        have hB := bstep (show Below w.heap.size w _ by go_grown) hb1 (by simp)
        clear a1 hb1
        go_wp2_with fail
        refine (hE _).mono ?_
        rintro e w2 ⟨g, c, n, rfl, hn, hg, hrow, hb2⟩
        obtain rfl : n = n0 := hn
        have hB2 := bstep hB hb2 hB.size
        clear x0 x1
        go_wp2_with fail
        refine (hL _ _ _ _ (by omega) (by omega) hrow).mono ?_
        rintro e w3 ⟨rfl, rfl⟩
        clear hrow hL hE hV hb2
        go_wp2_with fail
        refine (size_any _ _ _ _).mono ?_
        rintro e w3 ⟨rfl, rfl⟩
        go_wp2_with fail
        refine (within_any _ _ _ _).mono ?_
        rintro e w3 ⟨rfl, rfl⟩
        rw [e1]
        go_wp2_with fail
        go_returns
        exact ⟨_, rfl, LstF.nil_ _ _, hB2⟩
  · have hf : okF p q = false := by simpa using ho
    have hc : itc p q = 1 := by unfold itc; rw [if_neg ho]
    have hs : sbc p q k = 1 := by unfold sbc; rw [hc]; rfl
    have hx : sbx p q k = [] := by unfold sbx; rw [hs]; rfl
    rw [hf] at hV
    rw [hs, hx]
    clear hc ho hf hs hx
    go_enter Try.func27, Try.ntmps27
    go_wp2_with fail
    refine (hV _).mono ?_
    rintro e w1 ⟨rfl, hb1⟩
    have hB := bstep (show Below w.heap.size w _ by go_grown) hb1 (by simp)
    go_wp2_with fail
    go_returns
    exact ⟨_, rfl, LstF.nil_ _ _, hB⟩

end Go.Proofs.Ytnjilpldfidbjaa
