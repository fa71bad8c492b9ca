/- TriplePath in the program (out of MkU). -/
import Derived.Test.YtikpiigamnpafaaDoorMvS
import Derived.Test.YtikpiigamnpafaaDoorMvH
import Derived.Test.YtikpiigamnpafaaDoorMv3
import Derived.Deep.LoopGhost
import Derived.Deep.RegionLaw
namespace Go.Proofs.YtikpiigamnpafaaDoor
open Go.RowKit

def tphc (X Y Z : Int) : Int := if vtB X Y Z = true then (if Z ≤ 2 then 3 else 0) else 1

def tphx (X Y Z : Int) : List Bool := if tphc X Y Z = 0 then way ⟨X, Y, Z⟩ else []

theorem vt_mv {X Y Z : Int} (h : vtB X Y Z = true) : Mv ⟨X, Y, Z⟩ ∧ Rng X Y Z := by
  obtain ⟨h1, h2⟩ := vtB_iff.1 h
  exact ⟨⟨⟨h1.1, h1.2.1, h1.2.2.1⟩, h2⟩, h1⟩

theorem own_grown {w w' : World} {base : Nat} {e : TypeId} {k n : Nat} {v : Value} {xs : List Value} {row : Option Nat} (h : w.ownsRow base e k v n xs) (hg : w.grownBy w' row) (hne : ∀ b, v.ownBlock = some b → some b ≠ row) : w'.ownsRow base e k v n xs := by
  obtain ⟨h6, h | ⟨g, cap, cur, hv, hbs, h1, r⟩⟩ := h
  · exact ⟨h6, .inl h⟩
  · refine ⟨h6, .inr ⟨g, cap, cur, hv, hbs, (hg.block g (Array.getElem?_eq_some_iff.1 h1).1 (hne g (by rw [hv]; rfl))).trans h1, r⟩⟩

theorem own_old {w : World} {base : Nat} {e : TypeId} {k n : Nat} {v : Value} {xs : List Value} (h : w.ownsRow base e k v n xs) : ∀ b, v.ownBlock = some b → b < w.heap.size := by
  intro b hb
  obtain ⟨_, ⟨rfl, _⟩ | ⟨g, cap, cur, rfl, _, hh, _⟩⟩ := h
  · cases hb
  · have := (Array.getElem?_eq_some_iff.1 hh).1
    simp [Value.ownBlock] at hb
    omega

theorem gset3 {w : World} {g : Nat} (a b c : Value) : w.grownBy (((w.setCell ⟨g, 0, none⟩ a).setCell ⟨g, 1, none⟩ b).setCell ⟨g, 2, none⟩ c) (some g) :=
  gset (gset (gset (gbelow (Below.refl _ _) _) _ _) _ _) _ _

theorem bset3 {w W : World} {B g : Nat} (h : Below B w W) (hg : B ≤ g) (a b c : Value) : Below B w (((W.setCell ⟨g, 0, none⟩ a).setCell ⟨g, 1, none⟩ b).setCell ⟨g, 2, none⟩ c) :=
  ((h.setCell hg _).setCell hg _).setCell hg _

theorem Blk.below_ {w w' : World} {g : Nat} {t : TypeId} {cs : Array Value} {N : Nat} (h : Blk w g t cs) (hb : Below N w w') (hg : g < N) : Blk w' g t cs := (hb.block g hg).trans h

/-- What the rounds want of a step up. -/
theorem up_step {s : T3} {M : Int} (h : Mv s) (h5 : 5 < s.z) (hM : s.z ≤ M) (hM2 : M ≤ 1000000000) : Mv s.up ∧ s.up.z < s.z ∧ Rng s.x s.y s.z ∧ (1 ≤ s.up.x ∧ s.up.x ≤ 1000000000 ∧ 1 ≤ s.up.y ∧ s.up.y ≤ 1000000000 ∧ 1 ≤ s.up.z ∧ s.up.z ≤ 1000000000) ∧ way s = way s.up ++ [decide (s.x = s.up.y)] ∧
    ((s.x = s.up.y ∧ s.up.y = s.x ∧ s.up.z = s.y ∧ 3 * s.up.y * s.up.z - s.up.x = s.z) ∨ s.x ≠ s.up.y) := by
  obtain ⟨u1, u2⟩ := up_mv h (by omega)
  have hl := (oth_lt h (by omega)).2
  obtain ⟨a1, a2, a3⟩ := u1.1
  obtain ⟨c1, c2, c3⟩ := h.1
  refine ⟨u1, by omega, ⟨c1, c2, c3, by omega⟩, ⟨a1, by omega, by omega, by omega, by omega, by omega⟩, way_up h h5, ?_⟩
  by_cases hx : s.x = s.up.y
  · left
    have := (up_right h (by omega)).2 hx
    refine ⟨hx, hx.symm, u2, ?_⟩
    have := congrArg T3.z this
    simpa [T3.right] using this
  · exact .inr hx

set_option maxHeartbeats 4000000 in
set_option maxRecDepth 100000 in
theorem implTriplePath_any (X Y Z : Int) (w : World) :
    Calls Tryd.prog 30 #[.agg #[.int .i64 X, .int .i64 Y, .int .i64 Z]] w fun e w' => ∃ v, e = .returned (.tuple #[v, .int .i64 (tphc X Y Z)]) ∧ LstB w' w.heap.size v (tphx X Y Z) ∧ Below w.heap.size w w' := by
  have hV := implValidTriple_any X Y Z
  by_cases hv : vtB X Y Z = true
  · obtain ⟨hmv, hr⟩ := vt_mv hv
    rw [hv] at hV
    by_cases hz : Z ≤ 2
    · have ec : tphc X Y Z = 3 := by unfold tphc; rw [if_pos hv, if_pos hz]
      have ex : tphx X Y Z = [] := by unfold tphx; rw [ec]; rfl
      rw [ec, ex]
      have hd : decide (Z < 5) = true := decide_eq_true (by omega)
      clear ec ex hv hr hmv
      go_enter Tryd.func30, Tryd.ntmps30
      go_wp2_with fail
      refine (hV _).mono ?_
      rintro e w1 ⟨rfl, hb1⟩
      obtain ⟨a1, _, a3, HK⟩ := (Blk.new w 27 #[.int .i64 X, .int .i64 Y, .int .i64 Z]).after hb1 (by simp)
      have x0 := a1 0
      have x1 := a1 1
      have x2 := a1 2
      have hB := bstep (show Below w.heap.size w _ by go_grown) hb1 (by simp)
      clear a1 hb1
      go_wp2_with fail
      go_returns
      exact ⟨_, rfl, LstB.nil_ _ _, hB⟩
    · have hz5 : 5 ≤ Z := by
        have h3 : ¬ (Z = 3 ∨ Z = 4) := fun h => mv_small hmv h
        omega
      have ec : tphc X Y Z = 0 := by unfold tphc; rw [if_pos hv, if_neg hz]
      have ex : tphx X Y Z = way ⟨X, Y, Z⟩ := by unfold tphx; rw [ec]; rfl
      rw [ec, ex]
      have hd : decide (Z < 5) = false := decide_eq_false (by omega)
      obtain ⟨i0, hi, hz0, hz1, hz2⟩ := info_parts info_bool
      have hZM : Z ≤ 1000000000 := hr.2.2.2
      have HMV := hide hmv
      clear ec ex hv hr hmv hz
      go_enter Tryd.func30, Tryd.ntmps30
      go_wp2_with fail
      refine (hV _).mono ?_
      rintro e w1 ⟨rfl, hb1⟩
      obtain ⟨a1, _, a3, HK⟩ := (Blk.new w 27 #[.int .i64 X, .int .i64 Y, .int .i64 Z]).after hb1 (by simp)
      have x0 := a1 0
      have x1 := a1 1
      have x2 := a1 2
      have hB := bstep (show Below w.heap.size w _ by go_grown) hb1 (by simp)
      clear a1 hb1
      have hblk := HK.out
      have HK1 := hide hblk
      have hs1 := hB.size
      clear hblk
      go_wp2_with fail
      go_loopg [4] Z.toNat (fun k lv wr => ∃ (s : T3) (P : List Bool) (m : Nat), k = s.z.toNat ∧ Mv s ∧ (m : Int) + s.z ≤ Z ∧ way ⟨X, Y, Z⟩ = way s ++ P.reverse ∧ P.length = m ∧ wr.ownsRow (w.heap.size + 1) 4 1 lv m (bll P) ∧ Blk wr w.heap.size 27 #[.int .i64 s.x, .int .i64 s.y, .int .i64 s.z] ∧ Below w.heap.size w wr)
      case atStart => exact ⟨⟨X, Y, Z⟩, [], 0, rfl, HMV.out, by simp, by simp, rfl, own_nil _ _ _ _, HK1.out, hB⟩
      case round =>
        clear x0 x1 x2
        obtain ⟨s, P, m, hgk, hms, hmz, hway, hpm, hown, hblk, hbel⟩ := hrel
        have sr := hbel.size
        have hup1 := hms.1
        obtain ⟨g1, g2, g3⟩ := hup1
        obtain ⟨kk, kf, k3, HB⟩ := hblk.after (Below.refl _ _) hblk.lt
        have x0 := kk 0
        have x1 := kk 1
        have x2 := kk 2
        clear kk hblk
        by_cases h5 : 5 < s.z
        · obtain ⟨uu1, uu2, uu3, uu4, uu5, uu6⟩ := up_step hms h5 (M := Z) (by omega) hZM
          have hP := fun w => implParent_any s w uu3
          have hRC := fun w => rightChild_any s.up.x s.up.y s.up.z w (by omega)
          have HWAY := hide hway
          have HOW := hide hown
          have HU1 := hide uu1
          have HU5 := hide uu5
          have hd5 : decide (5 < s.z) = true := decide_eq_true h5
          have HGK := hide hgk
          have HPM := hide hpm
          generalize hub : s.up = u at *
          obtain ⟨a, b, c⟩ := u
          simp only at uu2 uu4 uu6 hP hRC
          obtain ⟨x, y, z⟩ := s
          simp only at *
          clear hms hway hown uu1 uu5 uu3 g1 g2 g3 hgk hpm hub
          go_wp2_with fail
          refine (hP _).mono ?_
          rintro e w4 ⟨rfl, hb4⟩
          have hbx4 := HB.out.below_ hb4 k3
          have hown4 := own_below HOW.out hb4
          have HO4 := hide hown4
          have hbel4 := hbel.trans (hb4.mono sr)
          have s4 := hb4.size
          have sw4 := hbel4.size
          have hbx5 := hbx4.alloc (.cells #[.int .i64 a, .int .i64 b, .int .i64 c] 27)
          have hup5 := Blk.new w4 27 #[.int .i64 a, .int .i64 b, .int .i64 c]
          have hown5 := own_below hown4 ((Below.refl w4.heap.size w4).alloc (Nat.le_refl _) (.cells #[.int .i64 a, .int .i64 b, .int .i64 c] 27))
          have hbel5 := hbel4.alloc sw4 (.cells #[.int .i64 a, .int .i64 b, .int .i64 c] 27)
          obtain ⟨gb, hgb⟩ : ∃ gb, gb = w4.heap.size := ⟨_, rfl⟩
          rw [← hgb] at hup5
          have HBX5 := hide hbx5
          have HUP5 := hide hup5
          have HO5 := hide hown5
          have hgbn : w.heap.size < gb := by have := hbx4.lt; omega
          have HGB := hide hgb
          clear x0 x1 x2 hbx4 hown4 hbx5 hup5 hown5 hP
          go_wp2_with fail
          rw [← hgb]
          clear hgb
          generalize w4.alloc (.cells #[.int .i64 a, .int .i64 b, .int .i64 c] 27) = w5 at *
          obtain ⟨p1, _, pl, _⟩ := HBX5.out.after (Below.refl _ _) HBX5.out.lt
          obtain ⟨p2, _, pl2, _⟩ := HUP5.out.after (Below.refl _ _) HUP5.out.lt
          have x0 := p1 0
          have x1 := p1 1
          have x2 := p1 2
          have y0 := p2 0
          have y1 := p2 1
          have y2 := p2 2
          have sw5 := hbel5.size
          clear p1 p2
          rcases uu6 with ⟨e1, e2, e3, e4⟩ | hne
          · have hRC2 : ∀ w, Calls Tryd.prog 56 #[.agg #[.int .i64 a, .int .i64 b, .int .i64 c]] w fun e w' => e = .returned (.agg #[.int .i64 x, .int .i64 y, .int .i64 z]) ∧ Below w.heap.size w w' := fun w => (hRC w).mono fun e w' ⟨h1, h2⟩ => ⟨by rw [h1, e4, e2, e3], h2⟩
            clear hRC
            have hRC := hRC2
            clear hRC2
            have hdec : decide (x = b) = true := decide_eq_true e1
            rw [hdec] at HU5
            clear e1 e2 e3 e4 hdec
            go_region_law (first
              | (go_simp; go_at_call 56; refine (hRC _).mono ?_; rintro e w6 ⟨rfl, hb6'⟩; have hb6 : Below w5.heap.size w5 w6 := (Below.refl _ w5).drew.trans hb6'; obtain ⟨r1, _, r3, HBX6⟩ := HBX5.out.after hb6 pl; have z0 := r1 0; have z1 := r1 1; have z2 := r1 2; have s6 := hb6.size; clear r1 hb6')
              | (refine step_append_lies _ (by rfl) (.tmp 19) (.tmp 24) _ (by rfl) (w.heap.size + 1) 4 i0 _ 1 1 Tryd.underlying52 hi hz0 hz1 hz2 rfl (by omega) u4 m (bll P) (by rfl) (own_below (own_below HO5.out hb6) ((Below.refl _ _).alloc (Nat.le_refl _) _)) ⟨w6.heap.size, 0, none⟩ 1 1 (bll [true]) (by rfl) (by rfl) (fun j u hu => news_new (w := w6) rfl j u hu) (one_bll _) (by omega) (by simp only [maxLen]; omega) (by omega) (by simp; omega) (w6.heap.size + 1) (by simp) ?_; intro g8 c8 w8 hown8 hgrow8 hat8 hlt8))
            all_goals
              rw [← bll_append] at hown8
              have HO8 := hide hown8
              have hne8 : w.heap.size ≠ g8 := by have := own_base hown8 g8 rfl; omega
              have hup8 := ((HUP5.out.below_ hb6 pl2).alloc (.cells #[.bool true] 4)).grown hgrow8 (fun h => by have := own_old HO4.out _ h.symm; have := HGB.out; omega)
              have hbx8 := (HBX6.out.alloc (.cells #[.bool true] 4)).grown hgrow8 (fun h => by have := own_base HO5.out _ h.symm; omega)
              have hb8 : Below w.heap.size w w8 := ((hbel5.trans (hb6.mono sw5)).alloc (by omega) _).grown hgrow8 (by simp; omega) (fun k hk => by have := own_base HO5.out k hk; omega)
              obtain ⟨t2, _, _, HUP8⟩ := hup8.after (Below.refl _ _) hup8.lt
              obtain ⟨t1, tf, tl, HBX8⟩ := hbx8.after (Below.refl _ _) hbx8.lt
              have v0 := t2 0
              have v1 := t2 1
              have v2 := t2 2
              have w0 := t1 0
              have w1_ := t1 1
              have w2_ := t1 2
              have f0 := tf 0
              have f1 := tf 1
              have f2 := tf 2
              clear hown8 hat8 t1 t2 tf hup8 hbx8 x0 x1 x2 y0 y1 y2 z0 z1 z2
              go_wp2_with fail
              go_roundg c.toNat
              case measure => have := HGK.out; omega
              case rel =>
                refine ⟨⟨a, b, c⟩, P ++ [true], m + 1, rfl, HU1.out, by simp only; omega, ?_, by rw [List.length_append, HPM.out]; rfl, own_grown HO8.out (gset3 _ _ _) (fun k hk h => by simp [Value.ownBlock] at hk h; omega), HBX8.out.set3, bset3 hb8 (Nat.le_refl _) _ _ _⟩
                rw [HWAY.out, HU5.out, List.reverse_append]
                simp
          · have q1 : (b == x) = false := beq_eq_false_iff_ne.2 (fun h => hne h.symm)
            have q2 : ¬ b = x := fun h => hne h.symm
            have hdec : decide (x = b) = false := decide_eq_false hne
            rw [hdec] at HU5
            generalize 3 * b * c - a = rr at *
            clear hdec hne
            go_region_law (first
              | (go_simp; go_at_call 56; refine (hRC _).mono ?_; rintro e w6 ⟨rfl, hb6'⟩; have hb6 : Below w5.heap.size w5 w6 := (Below.refl _ w5).drew.trans hb6'; obtain ⟨r1, _, r3, HBX6⟩ := HBX5.out.after hb6 pl; have z0 := r1 0; have z1 := r1 1; have z2 := r1 2; have s6 := hb6.size; clear r1 hb6')
              | (refine step_append_lies _ (by rfl) (.tmp 19) (.tmp 24) _ (by rfl) (w.heap.size + 1) 4 i0 _ 1 1 Tryd.underlying52 hi hz0 hz1 hz2 rfl (by omega) u4 m (bll P) (by rfl) (own_below (own_below HO5.out hb6) ((Below.refl _ _).alloc (Nat.le_refl _) _)) ⟨w6.heap.size, 0, none⟩ 1 1 (bll [false]) (by rfl) (by rfl) (fun j u hu => news_new (w := w6) rfl j u hu) (one_bll _) (by omega) (by simp only [maxLen]; omega) (by omega) (by simp; omega) (w6.heap.size + 1) (by simp) ?_; intro g8 c8 w8 hown8 hgrow8 hat8 hlt8))
            all_goals
              rw [← bll_append] at hown8
              have HO8 := hide hown8
              have hne8 : w.heap.size ≠ g8 := by have := own_base hown8 g8 rfl; omega
              have hup8 := ((HUP5.out.below_ hb6 pl2).alloc (.cells #[.bool false] 4)).grown hgrow8 (fun h => by have := own_old HO4.out _ h.symm; have := HGB.out; omega)
              have hbx8 := (HBX6.out.alloc (.cells #[.bool false] 4)).grown hgrow8 (fun h => by have := own_base HO5.out _ h.symm; omega)
              have hb8 : Below w.heap.size w w8 := ((hbel5.trans (hb6.mono sw5)).alloc (by omega) _).grown hgrow8 (by simp; omega) (fun k hk => by have := own_base HO5.out k hk; omega)
              obtain ⟨t2, _, _, HUP8⟩ := hup8.after (Below.refl _ _) hup8.lt
              obtain ⟨t1, tf, tl, HBX8⟩ := hbx8.after (Below.refl _ _) hbx8.lt
              have v0 := t2 0
              have v1 := t2 1
              have v2 := t2 2
              have w0 := t1 0
              have w1_ := t1 1
              have w2_ := t1 2
              have f0 := tf 0
              have f1 := tf 1
              have f2 := tf 2
              clear hown8 hat8 t1 t2 tf hup8 hbx8 x0 x1 x2 y0 y1 y2 z0 z1 z2
              go_wp2_with fail
              go_roundg c.toNat
              case measure => have := HGK.out; omega
              case rel =>
                refine ⟨⟨a, b, c⟩, P ++ [false], m + 1, rfl, HU1.out, by simp only; omega, ?_, by rw [List.length_append, HPM.out]; rfl, own_grown HO8.out (gset3 _ _ _) (fun k hk h => by simp [Value.ownBlock] at hk h; omega), HBX8.out.set3, bset3 hb8 (Nat.le_refl _) _ _ _⟩
                rw [HWAY.out, HU5.out, List.reverse_append]
                simp
        · have hwd := way_done h5
          rw [hwd, List.nil_append] at hway
          have hd5 : decide (5 < s.z) = false := decide_eq_false h5
          have HWAY := hide hway
          clear hway hwd hms hgk
          by_cases hm0 : m = 0
          · subst hm0
            have hP0 : P = [] := List.length_eq_zero_iff.1 hpm
            subst hP0
            obtain ⟨_, ⟨rfl, _⟩ | ⟨g2, cap2, cur, rfl, hg2, _⟩⟩ := id hown
            · clear hown hpm
              go_wp2_with fail
              refine (revB_none _).mono ?_
              rintro e w3 ⟨rfl, rfl⟩
              go_wp2_with fail
              go_returns
              exact ⟨_, rfl, by rw [HWAY.out]; exact LstB.nil_ _ _, hbel⟩
            · have hr2 := (Row.of_own hown).1
              have hRv := revB_any g2 0 cap2 [] wr (by omega) hr2
              clear hown hr2 hpm
              go_wp2_with fail
              refine hRv.mono ?_
              rintro e w3 ⟨rfl, hr3, hgr3⟩
              rw [← HWAY.out] at hr3
              have HL := hide (LstB.of_row (B := w.heap.size) hr3 (by omega) (by omega))
              clear hr3 hRv
              go_wp2_with fail
              go_returns
              exact ⟨_, rfl, HL.out, hbel.grown hgr3 sr (fun k h => by injection h; omega)⟩
          · obtain ⟨g2, cap2, rfl, hg2, hr2⟩ := own_pos hown (by omega)
            have hRv := revB_any g2 m cap2 P wr (by omega) hr2
            clear hown hr2 hpm
            go_wp2_with fail
            refine hRv.mono ?_
            rintro e w3 ⟨rfl, hr3, hgr3⟩
            rw [← HWAY.out] at hr3
            have HL := hide (LstB.of_row (B := w.heap.size) hr3 (by omega) (by omega))
            clear hr3 hRv
            go_wp2_with fail
            go_returns
            exact ⟨_, rfl, HL.out, hbel.grown hgr3 sr (fun k h => by injection h; omega)⟩
  · have hf : vtB X Y Z = false := by simpa using hv
    rw [hf] at hV
    have ec : tphc X Y Z = 1 := by unfold tphc; rw [if_neg hv]
    have ex : tphx X Y Z = [] := by unfold tphx; rw [ec]; rfl
    rw [ec, ex]
    clear ec ex hv hf
    go_enter Tryd.func30, Tryd.ntmps30
    go_wp2_with fail
    refine (hV _).mono ?_
    rintro e w1 ⟨rfl, hb1⟩
    obtain ⟨a1, _, a3, HK⟩ := (Blk.new w 27 #[.int .i64 X, .int .i64 Y, .int .i64 Z]).after hb1 (by simp)
    have x0 := a1 0
    have x1 := a1 1
    have x2 := a1 2
    have hB := bstep (show Below w.heap.size w _ by go_grown) hb1 (by simp)
    clear a1 hb1
    go_wp2_with fail
    go_returns
    exact ⟨_, rfl, LstB.nil_ _ _, hB⟩

end Go.Proofs.YtikpiigamnpafaaDoor
