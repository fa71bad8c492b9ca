/- The draw of a valid triple; numbers out of bytes. -/
import Derived.Test.YtikpiigamnpafaaDoorSrc2
import Derived.Test.YtikpiigamnpafaaDoorSrc3
import Derived.Test.YtikpiigamnpafaaDoorMvA
import Derived.Test.YtikpiigamnpafaaDoorMvP
import Derived.Test.YtikpiigamnpafaaDoorMvU
import Derived.StillTailTactics
namespace Go.Proofs.YtikpiigamnpafaaDoor
open Go.RowKit Go.Sort

theorem Src.far {w : World} {g B k : Nat} (h : Src w g B k) {p : Addr} (h1 : g ≠ p.block) (h2 : ∀ b, b < B → b ≠ p.block) (u : Value) : Src (w.setCell p u) g B k := by
  obtain ⟨A, n, c, xs, i, seed, a1, a2, a3, a4, a5, a6⟩ := h
  refine ⟨A, n, c, xs, i, seed, a1, a2, a3.far h1 u, a4, ?_, a6⟩
  refine ⟨a5.1, fun hn => ?_⟩
  obtain ⟨b, o, e, hb, hc⟩ := a5.2 hn
  refine ⟨b, o, e, hb, fun j v hv => ?_⟩
  have h3 := hc j v hv
  have hlt : b < w.heap.size := World.block_lt_of_cell? w _ h3
  rw [← h3]
  exact World.cell?_of_block (w := w) (a := ⟨b, o + j, none⟩) (Below.heap_setCell w p u b (h2 b hb))

theorem Src.base_ {w : World} {g B k : Nat} (h : Src w g B k) : B ≤ g := by obtain ⟨_, _, _, _, _, _, _, _, _, h4, _⟩ := h; exact h4
theorem Src.set3 {w : World} {g B k b : Nat} (h : Src w g B k) (h1 : g ≠ b) (h2 : B ≤ b) (x y z : Value) : Src (((w.setCell ⟨b, 0, none⟩ x).setCell ⟨b, 1, none⟩ y).setCell ⟨b, 2, none⟩ z) g B k :=
  ((h.far (p := ⟨b, 0, none⟩) h1 (fun c hc => by show c ≠ b; omega) x).far (p := ⟨b, 1, none⟩) h1 (fun c hc => by show c ≠ b; omega) y).far (p := ⟨b, 2, none⟩) h1 (fun c hc => by show c ≠ b; omega) z
theorem Src.below_ {w w' : World} {g B k : Nat} (h : Src w g B k) (hb : Below w.heap.size w w') : Src w' g B k := by
  have hlt := h.lt
  obtain ⟨A, n, c, xs, i, seed, a1, a2, a3, a4, a5, a6⟩ := h
  refine ⟨A, n, c, xs, i, seed, a1, a2, (hb.block g hlt).trans a3, a4, ⟨a5.1, fun hn => ?_⟩, a6⟩
  obtain ⟨b, o, e, hB, hc⟩ := a5.2 hn
  refine ⟨b, o, e, hB, fun j v hv => ?_⟩
  exact (hb.cell (p := ⟨b, o + j, none⟩) (by show b < w.heap.size; omega)).trans (hc j v hv)
/-- Growth with writes to the source's block and to blocks that are new. -/
theorem gset3new {w0 w : World} {g b : Nat} (h : w0.grownBy w (some g)) (hb : w0.heap.size ≤ b) (x y z : Value) : w0.grownBy (((w.setCell ⟨b, 0, none⟩ x).setCell ⟨b, 1, none⟩ y).setCell ⟨b, 2, none⟩ z) (some g) := by
  refine ⟨h.os, h.tape, h.output, by simpa using h.size, fun i hi hn => ?_⟩
  have hne : i ≠ b := by omega
  rw [Below.heap_setCell _ ⟨b, 2, none⟩ z i hne, Below.heap_setCell _ ⟨b, 1, none⟩ y i hne, Below.heap_setCell _ ⟨b, 0, none⟩ x i hne]
  exact h.block i hi hn
theorem gbel {w0 w w' : World} {row : Option Nat} (h : w0.grownBy w row) (hb : Below w.heap.size w w') : w0.grownBy w' row := gtrans h (gbelow hb row)
theorem kid_ok {X Y Z : Int} (r : Bool) (h : vtB X Y Z = true) (hz : 3 * fst r X Y * Z - snd r X Y ≤ 1000000000) : vtB (fst r X Y) Z (3 * fst r X Y * Z - snd r X Y) = true := by
  obtain ⟨hm, hr⟩ := vt_mv h
  obtain ⟨k1, k2⟩ := kid_mv hm r
  refine vtB_iff.2 ⟨⟨k1.1.1, k1.1.2.1, k1.1.2.2, hz⟩, k1.2⟩

set_option maxHeartbeats 4000000 in
set_option maxRecDepth 100000 in
theorem l22Draw_any (g B K : Nat) (w : World) (h : Src w g B (K + 60)) :
    Calls Tryd.prog 53 #[.pointer (some ⟨g, 0, none⟩)] w fun e w' => ∃ X Y Z : Int, e = .returned (.agg #[.int .i64 X, .int .i64 Y, .int .i64 Z]) ∧ vtB X Y Z = true ∧ w.grownBy w' (some g) := by
  have hgl := h.lt
  have hBg := h.base_
  go_enter Tryd.func53, Tryd.ntmps53
  have h0 : Src (w.alloc (.cells #[.int .i64 0, .int .i64 0, .int .i64 0] 27)) g B (K + 58 + 2) := h.alloc _
  have hR0 := Blk.new w 27 #[.int .i64 0, .int .i64 0, .int .i64 0]
  go_wp2_with fail
  refine (one_any g B (K + 58) _ _ h0).mono ?_
  rintro e w1 ⟨b1, rfl, hs1, hg1⟩
  have hR1 := hR0.grown hg1 (fun e => by injection e; omega)
  have hG1 : w.grownBy w1 (some g) := gtrans (World.grownBy_alloc _ _ _) hg1
  have hw1 : w.heap.size < w1.heap.size := by have := hg1.size; simp at this; omega
  clear h h0 hR0 hg1
  cases b1
  · obtain ⟨b, hb⟩ : ∃ b, b = w1.heap.size := ⟨_, rfl⟩
    have hT0 : Blk (w1.alloc (.cells #[.int .i64 1, .int .i64 2, .int .i64 5] 27)) b 27 #[.int .i64 1, .int .i64 2, .int .i64 5] := by
      rw [hb]
      exact Blk.new w1 _ _
    have hS0 : Src (w1.alloc (.cells #[.int .i64 1, .int .i64 2, .int .i64 5] 27)) g B (K + 56 + 2) := hs1.alloc _
    have hR2 : Blk (w1.alloc (.cells #[.int .i64 1, .int .i64 2, .int .i64 5] 27)) w.heap.size 27 #[.int .i64 0, .int .i64 0, .int .i64 0] := hR1.alloc _
    have hG2 : w.grownBy (w1.alloc (.cells #[.int .i64 1, .int .i64 2, .int .i64 5] 27)) (some g) := gtrans hG1 (World.grownBy_alloc _ _ _)
    have HB := hide hb
    have hgb : b ≠ g := by have := hs1.lt; omega
    have hwb : w.heap.size < b := by omega
    clear hb hs1 hR1 hG1
    go_wp2_with fail
    refine (pick_any g B (K + 56) _ _ hS0).mono ?_
    rintro e w2 ⟨v, rfl, v0, v1, hs2, hg2⟩
    have hT2 := hT0.grown hg2 (fun e => by injection e; omega)
    have hR3 := hR2.grown hg2 (fun e => by injection e; omega)
    have hG3 := gtrans hG2 hg2
    have v2 : v < 9 := by omega
    obtain ⟨j, rfl⟩ := Int.eq_ofNat_of_zero_le v0
    have hj : j ≤ 9 := by omega
    rw [← HB.out]
    clear hT0 hS0 hR2 hG2 hg2 v0 v1 v2
    go_wp2_with fail
    go_loopw [4] (fun kv wr => ∃ (k : Nat) (X Y Z : Int), kv = .int .i64 k ∧ k ≤ j ∧ vtB X Y Z = true ∧ Blk wr w.heap.size 27 #[.int .i64 0, .int .i64 0, .int .i64 0] ∧ Blk wr b 27 #[.int .i64 X, .int .i64 Y, .int .i64 Z] ∧ Src wr g B (K + 4 * k + 2) ∧ w.grownBy wr (some g)) (fun kv _ => (intOf kv).toNat)
    case atStart => exact ⟨j, 1, 2, 5, rfl, Nat.le_refl _, by decide, hR3, hT2, hs2.less (by omega), hG3⟩
    case round =>
      clear hR3 hT2 hs2 hG3
      obtain ⟨k, X, Y, Z, rfl, hk, hv, hR, hT, hs, hG⟩ := hrel
      obtain ⟨hmv, r1, r2, r3, r4⟩ := vt_mv hv
      have HV := hide hv
      have HR := hide hR
      have HT := hide hT
      clear hmv hv hR hT
      by_cases hk0 : 0 < k
      · have hc := l22Child_any
        have hks : Src wr g B (K + 4 * (k - 1) + 4 + 2) := hs.less (by omega)
        obtain ⟨m, rfl⟩ : ∃ m, k = m + 1 := ⟨k - 1, by omega⟩
        have hks2 : Src wr.drew g B (K + 4 * m + 4 + 2) := hs.less (by omega)
        have hks3 : Src wr g B (K + 4 * m + 4 + 2) := hs.less (by omega)
        obtain ⟨a1, a2, a3, _⟩ := HT.out.after (Below.refl (b + 1) wr) (by omega)
        have x0 := a1 0
        have x1 := a1 1
        have x2 := a1 2
        have hcl : ∀ i, wr.cell? ⟨b, i, none⟩ = (#[Value.int .i64 X, .int .i64 Y, .int .i64 Z] : Array Value)[i]? := fun i => a1 i
        have hks4 : Src (wr.alloc (.cells #[.int .i64 0, .int .i64 0, .int .i64 0] 27)).drew g B (K + 4 * m + 4 + 2) := hks3.alloc _
        have hlb := HT.out.lt
        have hwg : wr.heap.size ≠ g := by have := hs.lt; omega
        have HS : Hid (∀ w', wr.grownBy w' (some g) → wr.grownBy w' (some g) ∧ w'.cell? ⟨b, 0, none⟩ = some (.int .i64 X) ∧ w'.cell? ⟨b, 1, none⟩ = some (.int .i64 Y) ∧ w'.cell? ⟨b, 2, none⟩ = some (.int .i64 Z)) := by
          intro w' hg
          have hbk := hg.block b hlb (fun e => by injection e; omega)
          exact ⟨hg, (World.cell?_of_block (w := wr) (a := ⟨b, 0, none⟩) hbk).trans (hcl 0), (World.cell?_of_block (w := wr) (a := ⟨b, 1, none⟩) hbk).trans (hcl 1), (World.cell?_of_block (w := wr) (a := ⟨b, 2, none⟩) hbk).trans (hcl 2)⟩
        have HC := hide (fun r W => l22Child_any r X Y Z W (by omega))
        clear hks a1 a2 hc hcl
        go_wp2_with fail
        go_region_held3 (fun w' => wr.grownBy w' (some g) ∧ w'.cell? ⟨b, 0, none⟩ = some (.int .i64 X) ∧ w'.cell? ⟨b, 1, none⟩ = some (.int .i64 Y) ∧ w'.cell? ⟨b, 2, none⟩ = some (.int .i64 Z))
          (first
            | assumption | exact HS.out _ (gdrew wr _) | exact HS.out _ (gapp (by assumption) hg3) | exact HS.out _ (gnext (by assumption) hb4) | exact HS.out _ (galloc (by assumption))
            | exact HS.out _ (gtrans (gtrans (gtrans (gdrew wr _) hg3) (gbelow hb4 _)) (World.grownBy_alloc _ _ _))
            | exact HS.out _ (gset3new (gtrans (gtrans (gtrans (gdrew wr _) (World.grownBy_alloc _ _ _)) hg3) (gbelow hb4 _)) (Nat.le_refl _) _ _ _)
            | exact HS.out _ (gset3new (gtrans (gtrans (gtrans (gdrew wr _) hg3) (World.grownBy_alloc _ _ _)) (gbelow hb4 _)) hg3.size _ _ _))
          (first
            | (go_at_call 64; (with_reducible refine (one_any g B (K + 4 * m + 4) _ (wr.alloc (.cells #[.int .i64 0, .int .i64 0, .int .i64 0] 27)).drew hks4).mono ?_); rintro e w3 ⟨r, rfl, hs3, hg3⟩; have hN3 := hide (Blk.grown (show Blk (wr.alloc (.cells #[.int .i64 0, .int .i64 0, .int .i64 0] 27)).drew wr.heap.size 27 #[.int .i64 0, .int .i64 0, .int .i64 0] from Blk.new wr _ _) hg3 (fun e => hwg (by injection e))))
            | (go_at_call 64; (with_reducible refine (one_any g B (K + 4 * m + 4) _ wr.drew hks2).mono ?_); rintro e w3 ⟨r, rfl, hs3, hg3⟩)
            | (go_at_call 77; (with_reducible refine (HC.out _ (w3.alloc (.cells #[.int .i64 0, .int .i64 0, .int .i64 0] 27))).mono ?_); rintro e w4 ⟨rfl, hb4⟩; obtain ⟨q1, q2, q3, _⟩ := (Blk.new w3 27 #[.int .i64 0, .int .i64 0, .int .i64 0]).after hb4 (by simp))
            | (go_at_call 77; (with_reducible refine (HC.out _ w3).mono ?_); rintro e w4 ⟨rfl, hb4⟩; obtain ⟨q1, q2, q3, _⟩ := hN3.out.after hb4 hN3.out.lt)
            | (go_at_call 77; (with_reducible refine (HC.out _ w3).mono ?_); rintro e w4 ⟨rfl, hb4⟩))
        rotate_left 1
        · have hN : Blk (((w4.setCell ⟨w3.heap.size, 0, none⟩ (.int .i64 (fst r X Y))).setCell ⟨w3.heap.size, 1, none⟩ (.int .i64 Z)).setCell ⟨w3.heap.size, 2, none⟩ (.int .i64 (3 * fst r X Y * Z - snd r X Y))) w3.heap.size 27 #[.int .i64 (fst r X Y), .int .i64 Z, .int .i64 (3 * fst r X Y * Z - snd r X Y)] := (show Blk w4 w3.heap.size 27 #[.int .i64 0, .int .i64 0, .int .i64 0] from (hb4.block _ (by simp)).trans (Blk.new w3 27 _)).set3
          have hSr : Src (((w4.setCell ⟨w3.heap.size, 0, none⟩ (.int .i64 (fst r X Y))).setCell ⟨w3.heap.size, 1, none⟩ (.int .i64 Z)).setCell ⟨w3.heap.size, 2, none⟩ (.int .i64 (3 * fst r X Y * Z - snd r X Y))) g B (K + 4 * m + 4) := ((hs3.alloc (.cells #[.int .i64 0, .int .i64 0, .int .i64 0] 27)).below_ hb4).set3 (by have := hs3.lt; omega) (by have := hs3.lt; omega) _ _ _
          have hGr : wr.grownBy (((w4.setCell ⟨w3.heap.size, 0, none⟩ (.int .i64 (fst r X Y))).setCell ⟨w3.heap.size, 1, none⟩ (.int .i64 Z)).setCell ⟨w3.heap.size, 2, none⟩ (.int .i64 (3 * fst r X Y * Z - snd r X Y))) (some g) := gset3new (gtrans (gtrans (gtrans (gdrew wr _) hg3) (World.grownBy_alloc _ _ _)) (gbelow hb4 _)) hg3.size _ _ _
          have hnb : w3.heap.size ≠ g ∧ wr.heap.size ≤ w3.heap.size := ⟨by have := hs3.lt; omega, hg3.size⟩
          clear hs3 hg3 hb4 q1 q2 q3
          generalize (((w4.setCell ⟨w3.heap.size, 0, none⟩ (.int .i64 (fst r X Y))).setCell ⟨w3.heap.size, 1, none⟩ (.int .i64 Z)).setCell ⟨w3.heap.size, 2, none⟩ (.int .i64 (3 * fst r X Y * Z - snd r X Y))) = w5 at *
          generalize w3.heap.size = nb at *
          have hT5 := HT.out.grown hGr (fun e => by injection e; omega)
          have hR5 := HR.out.grown hGr (fun e => by injection e; omega)
          have hG5 := gtrans hG hGr
          obtain ⟨d1, d2, d3, _⟩ := hN.after (Below.refl _ _) hN.lt
          obtain ⟨e1, e2, e3, _⟩ := hT5.after (Below.refl _ _) hT5.lt
          have x3 := d1 0
          have x4 := d1 1
          have x5 := d1 2
          have HN := hide hN
          have HT5 := hide hT5
          have HR5 := hide hR5
          clear hN hT5 hR5 d1 e1 HC HS x0 x1 x2 hks2 hks3 hks4 hG hs hGr HR HT
          by_cases hz : 3 * fst r X Y * Z - snd r X Y ≤ 1000000000
          · have hd : decide (3 * fst r X Y * Z - snd r X Y ≤ 1000000000) = true := decide_eq_true hz
            have hok := kid_ok r HV.out hz
            generalize 3 * fst r X Y * Z - snd r X Y = N at *
            generalize fst r X Y = F at *
            have HOK := hide hok
            clear hok
            go_wp2
            go_roundw
            case rel => exact ⟨m, F, Z, N, by go_num, by omega, HOK.out, ((HR5.out.far (by show w.heap.size ≠ b; omega) _).far (by show w.heap.size ≠ b; omega) _).far (by show w.heap.size ≠ b; omega) _, HT5.out.set3, (hSr.set3 (by omega) (by omega) _ _ _).less (by omega), gset3new hG5 (by omega) _ _ _⟩
            case measure => simp [intOf]
          · have hd : decide (3 * fst r X Y * Z - snd r X Y ≤ 1000000000) = false := decide_eq_false hz
            generalize 3 * fst r X Y * Z - snd r X Y = N at *
            generalize fst r X Y = F at *
            go_wp2
            go_roundw
            case rel => exact ⟨m, X, Y, Z, by go_num, by omega, HV.out, HR5.out, HT5.out, hSr.less (by omega), hG5⟩
            case measure => simp [intOf]
        · have hN : Blk (((w4.setCell ⟨wr.heap.size, 0, none⟩ (.int .i64 (fst r X Y))).setCell ⟨wr.heap.size, 1, none⟩ (.int .i64 Z)).setCell ⟨wr.heap.size, 2, none⟩ (.int .i64 (3 * fst r X Y * Z - snd r X Y))) wr.heap.size 27 #[.int .i64 (fst r X Y), .int .i64 Z, .int .i64 (3 * fst r X Y * Z - snd r X Y)] := (show Blk w4 wr.heap.size 27 #[.int .i64 0, .int .i64 0, .int .i64 0] from (hb4.block _ hN3.out.lt).trans hN3.out).set3
          have hSr : Src (((w4.setCell ⟨wr.heap.size, 0, none⟩ (.int .i64 (fst r X Y))).setCell ⟨wr.heap.size, 1, none⟩ (.int .i64 Z)).setCell ⟨wr.heap.size, 2, none⟩ (.int .i64 (3 * fst r X Y * Z - snd r X Y))) g B (K + 4 * m + 4) := (hs3.below_ hb4).set3 (by omega) (by omega) _ _ _
          have hGr : wr.grownBy (((w4.setCell ⟨wr.heap.size, 0, none⟩ (.int .i64 (fst r X Y))).setCell ⟨wr.heap.size, 1, none⟩ (.int .i64 Z)).setCell ⟨wr.heap.size, 2, none⟩ (.int .i64 (3 * fst r X Y * Z - snd r X Y))) (some g) := gset3new (gtrans (gtrans (gtrans (gdrew wr _) (World.grownBy_alloc _ _ _)) hg3) (gbelow hb4 _)) (Nat.le_refl _) _ _ _
          have hnb : wr.heap.size ≠ g ∧ wr.heap.size ≤ wr.heap.size := ⟨by omega, Nat.le_refl _⟩
          clear hs3 hg3 hb4 q1 q2 q3 hN3
          generalize (((w4.setCell ⟨wr.heap.size, 0, none⟩ (.int .i64 (fst r X Y))).setCell ⟨wr.heap.size, 1, none⟩ (.int .i64 Z)).setCell ⟨wr.heap.size, 2, none⟩ (.int .i64 (3 * fst r X Y * Z - snd r X Y))) = w5 at *
          generalize hnn : wr.heap.size = nb at hN hnb ⊢
          clear hnn
          have hT5 := HT.out.grown hGr (fun e => by injection e; omega)
          have hR5 := HR.out.grown hGr (fun e => by injection e; omega)
          have hG5 := gtrans hG hGr
          obtain ⟨d1, d2, d3, _⟩ := hN.after (Below.refl _ _) hN.lt
          obtain ⟨e1, e2, e3, _⟩ := hT5.after (Below.refl _ _) hT5.lt
          have x3 := d1 0
          have x4 := d1 1
          have x5 := d1 2
          have HN := hide hN
          have HT5 := hide hT5
          have HR5 := hide hR5
          clear hN hT5 hR5 d1 e1 HC HS x0 x1 x2 hks2 hks3 hks4 hG hs hGr HR HT
          by_cases hz : 3 * fst r X Y * Z - snd r X Y ≤ 1000000000
          · have hd : decide (3 * fst r X Y * Z - snd r X Y ≤ 1000000000) = true := decide_eq_true hz
            have hok := kid_ok r HV.out hz
            generalize 3 * fst r X Y * Z - snd r X Y = N at *
            generalize fst r X Y = F at *
            have HOK := hide hok
            clear hok
            go_wp2
            go_roundw
            case rel => exact ⟨m, F, Z, N, by go_num, by omega, HOK.out, ((HR5.out.far (by show w.heap.size ≠ b; omega) _).far (by show w.heap.size ≠ b; omega) _).far (by show w.heap.size ≠ b; omega) _, HT5.out.set3, (hSr.set3 (by omega) (by omega) _ _ _).less (by omega), gset3new hG5 (by omega) _ _ _⟩
            case measure => simp [intOf]
          · have hd : decide (3 * fst r X Y * Z - snd r X Y ≤ 1000000000) = false := decide_eq_false hz
            generalize 3 * fst r X Y * Z - snd r X Y = N at *
            generalize fst r X Y = F at *
            go_wp2
            go_roundw
            case rel => exact ⟨m, X, Y, Z, by go_num, by omega, HV.out, HR5.out, HT5.out, hSr.less (by omega), hG5⟩
            case measure => simp [intOf]
        · have hN : Blk (w4.alloc (.cells #[.int .i64 (fst r X Y), .int .i64 Z, .int .i64 (3 * fst r X Y * Z - snd r X Y)] 27)) w4.heap.size 27 #[.int .i64 (fst r X Y), .int .i64 Z, .int .i64 (3 * fst r X Y * Z - snd r X Y)] := Blk.new w4 _ _
          have hSr : Src (w4.alloc (.cells #[.int .i64 (fst r X Y), .int .i64 Z, .int .i64 (3 * fst r X Y * Z - snd r X Y)] 27)) g B (K + 4 * m + 4) := (hs3.below_ hb4).alloc _
          have hGr : wr.grownBy (w4.alloc (.cells #[.int .i64 (fst r X Y), .int .i64 Z, .int .i64 (3 * fst r X Y * Z - snd r X Y)] 27)) (some g) := gtrans (gtrans (gtrans (gdrew wr _) hg3) (gbelow hb4 _)) (World.grownBy_alloc _ _ _)
          have hnb : w4.heap.size ≠ g ∧ wr.heap.size ≤ w4.heap.size := ⟨by have := hs3.lt; have := hb4.size; omega, Nat.le_trans hg3.size hb4.size⟩
          clear hs3 hg3 hb4
          generalize (w4.alloc (.cells #[.int .i64 (fst r X Y), .int .i64 Z, .int .i64 (3 * fst r X Y * Z - snd r X Y)] 27)) = w5 at *
          generalize w4.heap.size = nb at *
          have hT5 := HT.out.grown hGr (fun e => by injection e; omega)
          have hR5 := HR.out.grown hGr (fun e => by injection e; omega)
          have hG5 := gtrans hG hGr
          obtain ⟨d1, d2, d3, _⟩ := hN.after (Below.refl _ _) hN.lt
          obtain ⟨e1, e2, e3, _⟩ := hT5.after (Below.refl _ _) hT5.lt
          have x3 := d1 0
          have x4 := d1 1
          have x5 := d1 2
          have HN := hide hN
          have HT5 := hide hT5
          have HR5 := hide hR5
          clear hN hT5 hR5 d1 e1 HC HS x0 x1 x2 hks2 hks3 hks4 hG hs hGr HR HT
          by_cases hz : 3 * fst r X Y * Z - snd r X Y ≤ 1000000000
          · have hd : decide (3 * fst r X Y * Z - snd r X Y ≤ 1000000000) = true := decide_eq_true hz
            have hok := kid_ok r HV.out hz
            generalize 3 * fst r X Y * Z - snd r X Y = N at *
            generalize fst r X Y = F at *
            have HOK := hide hok
            clear hok
            go_wp2
            go_roundw
            case rel => exact ⟨m, F, Z, N, by go_num, by omega, HOK.out, ((HR5.out.far (by show w.heap.size ≠ b; omega) _).far (by show w.heap.size ≠ b; omega) _).far (by show w.heap.size ≠ b; omega) _, HT5.out.set3, (hSr.set3 (by omega) (by omega) _ _ _).less (by omega), gset3new hG5 (by omega) _ _ _⟩
            case measure => simp [intOf]
          · have hd : decide (3 * fst r X Y * Z - snd r X Y ≤ 1000000000) = false := decide_eq_false hz
            generalize 3 * fst r X Y * Z - snd r X Y = N at *
            generalize fst r X Y = F at *
            go_wp2
            go_roundw
            case rel => exact ⟨m, X, Y, Z, by go_num, by omega, HV.out, HR5.out, HT5.out, hSr.less (by omega), hG5⟩
            case measure => simp [intOf]
      · have hk1 : k = 0 := by omega
        subst hk1
        obtain ⟨a1, a2, a3, _⟩ := HT.out.after (Below.refl _ _) HT.out.lt
        obtain ⟨e1, e2, e3, _⟩ := HR.out.after (Below.refl _ _) HR.out.lt
        have x0 := a1 0
        have x1 := a1 1
        have x2 := a1 2
        have y0 := e1 0
        have y1 := e1 1
        have y2 := e1 2
        clear a1 e1
        go_wp2
        have z3 := HR.out.set3 (x := .int .i64 X) (y := .int .i64 Y) (z := .int .i64 Z)
        obtain ⟨z4, _, _, _⟩ := z3.after (Below.refl _ _) z3.lt
        refine bodyPost_ret (v := .agg #[.int .i64 X, .int .i64 Y, .int .i64 Z]) (by simp [results, Tryd.results53, go_sem, z4]) rfl ⟨_, _, _, rfl, HV.out, gset3new hG (Nat.le_refl _) _ _ _⟩
  · go_wp2_with fail
    refine (pick_any g B (K + 56) _ _ (hs1.less (by omega))).mono ?_
    rintro e w2 ⟨v, rfl, v0, v1, hs2, hg2⟩
    have hR2 := hR1.grown hg2 (fun e => by injection e; omega)
    obtain ⟨c1, c2, c3, _⟩ := hR2.after (Below.refl _ _) hR2.lt
    have hG2 := gtrans hG1 hg2
    have v2 : v < 2 := by omega
    have hvt : vtB 1 1 (1 + v) = true := by
      rcases (show v = 0 ∨ v = 1 by omega) with rfl | rfl <;> decide
    have HB := hide hR2
    clear hR2 hR1 hs1 hs2
    go_wp2_with fail
    have z3 := HB.out.set3 (x := .int .i64 1) (y := .int .i64 1) (z := .int .i64 (1 + v))
    obtain ⟨z4, _, _, _⟩ := z3.after (Below.refl _ _) z3.lt
    refine bodyPost_ret (v := .agg #[.int .i64 1, .int .i64 1, .int .i64 (1 + v)]) (by simp [results, Tryd.results53, go_sem, z4]) rfl ⟨_, _, _, rfl, hvt, gset3new hG2 (Nat.le_refl _) _ _ _⟩

end Go.Proofs.YtikpiigamnpafaaDoor
