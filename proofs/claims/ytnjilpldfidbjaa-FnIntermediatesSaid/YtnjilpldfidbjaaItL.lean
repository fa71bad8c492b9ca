/- The law FnIntermediates: its walk. -/
import Derived.Test.YtnjilpldfidbjaaItC
import Derived.Test.YtnjilpldfidbjaaDrwI
import Derived.Test.YtnjilpldfidbjaaErrV
import Derived.Lib.QuietBelow
import Derived.Deep.DeepCutAuto
namespace Go.Proofs.Ytnjilpldfidbjaa
open Go.RowKit Go.Sort

theorem bch {w w1 w2 : World} (h : Below w.heap.size w w1) (h2 : Below w1.heap.size w1 w2) : Below w.heap.size w w2 := bstep h h2 h.size
theorem blk2 {w W : World} {t : TypeId} {x y : Value} (h : Below (w.alloc (.cells #[x, y] t)).heap.size (w.alloc (.cells #[x, y] t)) W) : W.cell? ⟨w.heap.size, 0, none⟩ = some x ∧ W.cell? ⟨w.heap.size, 1, none⟩ = some y := by
  obtain ⟨a1, _, _, _⟩ := (Blk.new w t #[x, y]).after h (by simp)
  exact ⟨a1 0, a1 1⟩
theorem LstF.cellAt {w : World} {B : Nat} {A : Option Addr} {n cap : Nat} {xs : List (Int × Int)} (h : LstF w B (.slice A n cap) xs) {i : Nat} (hi : i < n) : ∃ g, A = some ⟨g, 0, none⟩ ∧ g < w.heap.size ∧ ∃ hl : i < xs.length, w.cell? ⟨g, i * 2, none⟩ = some (.int .i64 (xs[i]).1) ∧ w.cell? ⟨g, i * 2 + 1, none⟩ = some (.int .i64 (xs[i]).2) := by
  obtain ⟨A', n', cap', e, hn, _, h | ⟨g, hA, hg, hr⟩⟩ := h
  · cases e; omega
  · cases e
    obtain ⟨e1, e2⟩ := cs2_at (fs := xs) (i := i) (by omega)
    exact ⟨g, hA, hr.lt, by omega, hr.cell e1, hr.cell e2⟩

theorem itx_facts {p q : Int} (h : itc p q = 0) : Adj (itx p q) ∧ Ends (itx p q) (p, q) := by
  obtain ⟨ho, ht⟩ := itc_ok h
  obtain ⟨b, rfl⟩ : ∃ b : Nat, q = b := ⟨q.toNat, by have := (okF_iff.1 ho).1; omega⟩
  have e : itx p b = inl p b (terms p b).length := by unfold itx; rw [if_pos h]; rfl
  rw [e]
  exact inl_all ho
theorem sbx_facts {p q k : Int} : Adj (sbx p q k) := by
  unfold sbx
  by_cases h : sbc p q k = 0
  · rw [if_pos h]
    have hi : itc p q = 0 := by
      unfold sbc at h
      by_cases h1 : itc p q = 0
      · exact h1
      · rw [if_neg h1] at h; exact h
    obtain ⟨ho, ht⟩ := itc_ok hi
    obtain ⟨b, rfl⟩ : ∃ b : Nat, q = b := ⟨q.toNat, by have := (okF_iff.1 ho).1; omega⟩
    unfold sbc at h
    rw [if_pos hi] at h
    have hk : 0 ≤ k ∧ k ≤ ((tk p b).length : Int) - 3 := by
      apply Classical.byContradiction
      intro hn
      rw [if_neg hn] at h
      cases h
    unfold tk at *
    rw [Int.toNat_natCast] at *
    have hlt : k.toNat + 2 < (terms p b).length := by omega
    have e : (terms p b).getD (k.toNat + 2) 0 = (terms p b)[k.toNat + 2] := by simp [List.getD, hlt]
    rw [e]
    exact sbx_adj ho hlt
  · rw [if_neg h]
    intro i hi
    simp at hi

set_option maxRecDepth 100000 in
set_option maxHeartbeats 8000000 in
theorem law_Intermediates (A : Option Addr) (n c : Nat) (xs : List Int) (w : World) (h : Rd w w.heap.size 1 A n (u8l xs)) (hn : n ≤ 9223372036854775807) (hx : ∀ x ∈ xs, 0 ≤ x ∧ x ≤ 255) :
    Calls Try.prog 4 #[.slice A n c] w fun e w' => e = .returned (.bool true) ∧ Below w.heap.size w w' := by
  by_cases hbig : 4096 < n
  · go_enter Try.func4, Try.ntmps4
    go_wp2_with fail
    refine (f6big_any A n c _ hn).mono ?_
    rintro e w1 ⟨rfl, rfl⟩
    go_wp2_with fail
    go_ret
    exact ⟨rfl, Below.refl _ _⟩
  · go_enter Try.func4, Try.ntmps4
    go_wp2_with fail
    refine (f6big_any A n c _ hn).mono ?_
    rintro e w1 ⟨rfl, rfl⟩
    go_wp2_with fail
    refine (drawIntermediatesOf_any A n c xs _ h hn hx).mono ?_
    rintro e w1 ⟨p, q, rfl, b1⟩
    have B1 := b1.alloc b1.size (.cells #[.int .i64 p, .int .i64 q] 25)
    have C1 := Below.refl (w1.alloc (.cells #[.int .i64 p, .int .i64 q] 25)).heap.size (w1.alloc (.cells #[.int .i64 p, .int .i64 q] 25))
    have hI1 := implIntermediatesOf_any p q
    have hI2 := specIntermediatesOf_any p q
    have hIF : Hid (itc p q = 0 → Adj (itx p q) ∧ Ends (itx p q) (p, q)) := itx_facts
    generalize itx p q = X at *
    generalize itc p q = ic at *
    have hqi : (ic != ic) = false := by simp
    clear hbig b1
    go_wp2_with fail
    refine (hI1 _).mono ?_
    rintro e w2 ⟨v1, rfl, l1, b2⟩
    have C2 := bch C1 b2
    obtain ⟨x0, x1⟩ := blk2 C2
    clear hI1 C1
    go_wp2_with fail
    refine (hI2 _).mono ?_
    rintro e w3 ⟨v2, rfl, l2, b3⟩
    have C3 := bch C2 b3
    have B3 := bstep B1 C3 B1.size
    have L1 := hide (l1.keep b3)
    have L2 := hide l2
    clear hI2 C2 b2 b3 l1 l2 x0 x1 B1
    go_wp2_with fail
    refine (drawIsIntermediate_any A n c xs _ ((h.below B3).more B3.size) hn hx).mono ?_
    rintro e w4 ⟨a, b, r, s, rfl, b4⟩
    have C4 := bch C3 b4
    have B4 := bch B3 b4
    have L1 := hide (L1.out.keep b4)
    have L2 := hide (L2.out.keep b4)
    have D4 := Below.refl ((w4.alloc (.cells #[.int .i64 a, .int .i64 b] 25)).alloc (.cells #[.int .i64 r, .int .i64 s] 25)).heap.size ((w4.alloc (.cells #[.int .i64 a, .int .i64 b] 25)).alloc (.cells #[.int .i64 r, .int .i64 s] 25))
    have E4 : Below w4.heap.size w4 ((w4.alloc (.cells #[.int .i64 a, .int .i64 b] 25)).alloc (.cells #[.int .i64 r, .int .i64 s] 25)) := below_two
    have hJ1 := implIsIntermediate_any a b r s
    have hJ2 := specIsIntermediate_any a b r s
    generalize isb a b r s = ib at *
    generalize isc a b r s = jc at *
    have hqj : (jc != jc) = false := by simp
    have hqb : (ib != ib) = false := by simp
    clear C3 B3 b4
    go_wp2_with fail
    refine (hJ1 _).mono ?_
    rintro e w5 ⟨rfl, b5⟩
    have D5 := bch D4 b5
    have E5 := bstep E4 D5 E4.size
    obtain ⟨k1, _, _, _⟩ := ((Blk.new w4 25 #[.int .i64 a, .int .i64 b]).alloc (.cells #[.int .i64 r, .int .i64 s] 25)).after D5 (by simp; omega)
    obtain ⟨k2, _, _, _⟩ := (Blk.newAt (w := w4.alloc (.cells #[.int .i64 a, .int .i64 b] 25)) (g := w4.heap.size + 1) (t := 25) (cs := #[.int .i64 r, .int .i64 s]) (by simp)).after D5 (by simp)
    have x0 := k1 0
    have x1 := k1 1
    have x2 := k2 0
    have x3 := k2 1
    clear k1 k2 hJ1 D4 b5
    go_wp2_with fail
    refine (hJ2 _).mono ?_
    rintro e w6 ⟨rfl, b6⟩
    have E6 := bch E5 b6
    have C6 := bch C4 E6
    have B6 := bch B4 E6
    have L1 := hide (L1.out.keep E6)
    have L2 := hide (L2.out.keep E6)
    clear x0 x1 x2 x3 hJ2 b6 E6 E5 E4 D5 C4 B4
    go_wp2_with fail
    refine (drawStepsBetween_any A n c xs _ ((h.below B6).more B6.size) hn hx).mono ?_
    rintro e w7 ⟨a2, b2, k2, rfl, b7⟩
    have C7 := bch C6 b7
    have B7 := bch B6 b7
    have L1 := hide (L1.out.keep b7)
    have L2 := hide (L2.out.keep b7)
    have D7 := Below.refl (w7.alloc (.cells #[.int .i64 a2, .int .i64 b2] 25)).heap.size (w7.alloc (.cells #[.int .i64 a2, .int .i64 b2] 25))
    have E7 : Below w7.heap.size w7 (w7.alloc (.cells #[.int .i64 a2, .int .i64 b2] 25)) := by go_grown
    have hS1 := implSteps_any a2 b2 k2
    have hS2 := specSteps_any a2 b2 k2
    have hSF : Hid (Adj (sbx a2 b2 k2)) := sbx_facts
    generalize sbx a2 b2 k2 = Y at *
    generalize sbc a2 b2 k2 = sc at *
    have hqs : (sc != sc) = false := by simp
    clear C6 B6 b7
    go_wp2_with fail
    refine (hS1 _).mono ?_
    rintro e w8 ⟨v3, rfl, l3, b8⟩
    have D8 := bch D7 b8
    have E8 := bstep E7 D8 E7.size
    obtain ⟨x0, x1⟩ := blk2 D8
    clear hS1 D7
    go_wp2_with fail
    refine (hS2 _).mono ?_
    rintro e w9 ⟨v4, rfl, l4, b9⟩
    have E9 := bch E8 b9
    have C9 := bch C7 E9
    have B9 := bch B7 E9
    have L3 := hide (l3.keep b9)
    have L4 := hide l4
    have L1 := hide (L1.out.keep E9)
    have L2 := hide (L2.out.keep E9)
    clear x0 x1 hS2 b8 b9 E9 E8 E7 D8 C7 B7 l3 l4
    go_wp2_with fail
    refine (drawErrorTimes_any A n c xs _ ((h.below B9).more B9.size) hn hx).mono ?_
    rintro e w10 ⟨a3, b3, r3, s3, rfl, b10⟩
    have C10 := bch C9 b10
    have B10 := bch B9 b10
    have L1 := hide (L1.out.keep b10)
    have L2 := hide (L2.out.keep b10)
    have L3 := hide (L3.out.keep b10)
    have L4 := hide (L4.out.keep b10)
    have D10 := Below.refl ((w10.alloc (.cells #[.int .i64 a3, .int .i64 b3] 25)).alloc (.cells #[.int .i64 r3, .int .i64 s3] 25)).heap.size ((w10.alloc (.cells #[.int .i64 a3, .int .i64 b3] 25)).alloc (.cells #[.int .i64 r3, .int .i64 s3] 25))
    have E10 : Below w10.heap.size w10 ((w10.alloc (.cells #[.int .i64 a3, .int .i64 b3] 25)).alloc (.cells #[.int .i64 r3, .int .i64 s3] 25)) := below_two
    have hT1 := implErrorTimes_any a3 b3 r3 s3
    have hT2 := specErrorTimes_any a3 b3 r3 s3
    obtain ⟨tx, ty, tc, hf⟩ := ert_form a3 b3 r3 s3
    rw [hf] at hT1 hT2
    have hqt : (tc != tc) = false := by simp
    clear C9 B9 b10 hf h hx
    go_wp2_with fail
    refine (hT1 _).mono ?_
    rintro e w11 ⟨rfl, b11⟩
    have D11 := bch D10 b11
    have E11 := (bstep E10 D11 E10.size)
    have E11' := E11.alloc E11.size (.cells #[.int .i64 tx, .int .i64 ty] 25)
    obtain ⟨k1, _, _, _⟩ := (((Blk.new w10 25 #[.int .i64 a3, .int .i64 b3]).alloc (.cells #[.int .i64 r3, .int .i64 s3] 25))).after D11 (by simp; omega)
    obtain ⟨k2', _, _, _⟩ := (Blk.newAt (w := w10.alloc (.cells #[.int .i64 a3, .int .i64 b3] 25)) (g := w10.heap.size + 1) (t := 25) (cs := #[.int .i64 r3, .int .i64 s3]) (by simp)).after D11 (by simp)
    have x0 := k1 0
    have x1 := k1 1
    have x2 := k2' 0
    have x3 := k2' 1
    have hsz := D11.size
    clear k1 k2' hT1 D10 b11
    go_wp2_with fail
    refine (hT2 _).mono ?_
    rintro e w12 ⟨rfl, b12⟩
    have E12 := bch E11' b12
    have E12' := E12.alloc E12.size (.cells #[.int .i64 tx, .int .i64 ty] 25)
    have F12 := (blk2 b12)
    have hlt12 : w11.heap.size < w12.heap.size := by have := b12.size; simp at this; omega
    have C12 := bch C10 E12'
    have B12 := bch B10 E12'
    have L1 := hide (L1.out.keep E12')
    have L2 := hide (L2.out.keep E12')
    have L3 := hide (L3.out.keep E12')
    have L4 := hide (L4.out.keep E12')
    have hK : Hid (Blk (w12.alloc (.cells #[.int .i64 tx, .int .i64 ty] 25)) w11.heap.size 25 #[.int .i64 tx, .int .i64 ty]) := (show Blk w12 w11.heap.size 25 #[.int .i64 tx, .int .i64 ty] from (b12.block _ (by simp)).trans (Blk.new w11 _ _)).alloc _
    have hM : Hid (Blk (w12.alloc (.cells #[.int .i64 tx, .int .i64 ty] 25)) w12.heap.size 25 #[.int .i64 tx, .int .i64 ty]) := Blk.new w12 _ _
    clear x0 x1 x2 x3 hT2 b12 E12 E12' E11 E11' E10 D11 C10 B10 hsz F12
    go_wp2_with fail
    generalize w12.alloc (.cells #[.int .i64 tx, .int .i64 ty] 25) = w13 at *
    generalize w11.heap.size = kb at *
    generalize w12.heap.size = mb at *
    refine (f6fractions_any _ _ _ _ X _ L1.out L2.out).mono ?_
    rintro e w14 ⟨rfl, b14⟩
    have C14 := bch C12 b14
    have B14 := bch B12 b14
    have L2 := hide (L2.out.keep b14)
    have L3 := hide (L3.out.keep b14)
    have L4 := hide (L4.out.keep b14)
    have hK4 := hide (show Blk w14 kb 25 #[.int .i64 tx, .int .i64 ty] from (b14.block _ hK.out.lt).trans hK.out)
    have hM4 := hide (show Blk w14 mb 25 #[.int .i64 tx, .int .i64 ty] from (b14.block _ hM.out.lt).trans hM.out)
    clear b14 hK hM C12 B12
    go_wp2_with fail
    refine (f6fractions_any _ _ _ _ Y _ L3.out L4.out).mono ?_
    rintro e w15 ⟨rfl, b15⟩
    have C15 := bch C14 b15
    have B15 := bch B14 b15
    have L2 := hide (L2.out.keep b15)
    have L4 := hide (L4.out.keep b15)
    obtain ⟨k1, _, _, _⟩ := hK4.out.after b15 hK4.out.lt
    obtain ⟨k2', _, _, _⟩ := hM4.out.after b15 hM4.out.lt
    have x0 := k1 0
    have x1 := k1 1
    have x2 := k2' 0
    have x3 := k2' 1
    clear b15 hK4 hM4 C14 B14 k1 k2' L1 L3
    clear hqi hqj hqb hqs hqt
    have mixed : Try.prog.follows .mixedOrders = true := by kernel_rfl
    obtain ⟨A4, n4, c4, rfl, hn4, hnb4, h4⟩ := L4.out
    obtain ⟨A2, n2, c2, rfl, hn2, hnb2, h2⟩ := L2.out
    have HN4 := hide hn4
    have HN2 := hide hn2
    clear hn4 h4 hn2 h2
    obtain ⟨sb, hsb⟩ : ∃ sb, (sc == 0) = sb := ⟨_, rfl⟩
    go_upto_if 134 with fail
    go_cut [2] (fun x wc => x = .bool false ∧ Below w15.heap.size w15 wc)
    case first =>
      cases sb
      rotate_left 1
      · go_wp2_with fail
        go_loopw [2, 26] (fun rv iv wr => ∃ k : Nat, rv = .bool false ∧ iv = .int .i64 k ∧ 1 ≤ k ∧ (k ≤ n4 ∨ k = 1) ∧ Below w15.heap.size w15 wr) (fun _ iv _ => n4 - (intOf iv).toNat)
        case atStart => exact ⟨1, rfl, rfl, by omega, .inr rfl, Below.refl _ _⟩
        case round =>
          obtain ⟨k, rfl, rfl, hk1, hk2, hbel⟩ := hrel
          by_cases hlt : k < n4
          · obtain ⟨m, hm⟩ : ∃ m, k = m + 1 := ⟨k - 1, by omega⟩
            have hl := L4.out.keep hbel
            obtain ⟨g, rfl, hg, hlX, e1, e2⟩ := hl.cellAt (i := k) hlt
            obtain ⟨g', hgg, _, hlX', e3, e4⟩ := hl.cellAt (i := m) (by omega)
            obtain rfl : g' = g := by injection hgg with h; injection h with h; exact h.symm
            have hnb := (hSF.out m (by omega)).symm
            have e0 : Y[m + 1]'(by omega) = Y[k] := by congr 1; omega
            rw [e0] at hnb
            clear e0
            generalize Y[k] = y1 at *
            generalize Y[m] = y0 at *
            obtain ⟨u1, d1⟩ := y1
            obtain ⟨u0, d0⟩ := y0
            simp only at e1 e2 e3 e4
            have x0 : ∀ d os, (grow (redrawn wr d) os).cell? ⟨g', k * 2, none⟩ = some (.int .i64 u1) := fun d os => cell_regrown e1 d os
            have x1 : ∀ d os, (grow (redrawn wr d) os).cell? ⟨g', k * 2 + 1, none⟩ = some (.int .i64 d1) := fun d os => cell_regrown e2 d os
            have x2 : ∀ d os, (grow (redrawn wr d) os).cell? ⟨g', m * 2, none⟩ = some (.int .i64 u0) := fun d os => cell_regrown e3 d os
            have x3 : ∀ d os, (grow (redrawn wr d) os).cell? ⟨g', m * 2 + 1, none⟩ = some (.int .i64 d0) := fun d os => cell_regrown e4 d os
            have cN : ∀ d os, Calls Try.prog 19 #[.agg #[.int .i64 u1, .int .i64 d1], .agg #[.int .i64 u0, .int .i64 d0]] (grow (redrawn wr d) os) fun e w'' => e = .returned (.bool true) ∧ ∃ p : Regrown, w'' = grow (redrawn wr p.d) p.os := fun d os => Calls.regrown_of (areNb_any _ _ _ _ _ hnb)
            have i1 : (k : Int) < (n4 : Int) := by omega
            have i3 : (m : Int) < (n4 : Int) := by omega
            have i2 : IntKind.i64.wrap ((k : Int) - 1) = (m : Int) := by rw [IntWalk.i64_in _ (by omega)]; omega
            have HM := hide hm
            clear hnb hgg hlX hlX' hl e1 e2 e3 e4 hm
            go_wp2_with fail
            refine wp_region_quiet_below (by assumption) (by kernel_rfl) ?_
            repeat (first | go_big_quiet_step (with_reducible exact cN _ _) | quiet_step ((with_reducible exact cN _ _)))
            refine wpQuiet_nil ?_
            intro _ hw'
            obtain ⟨⟨dq, osq⟩, hw''⟩ := hw'
            subst hw''
            have hb3 := below_regrown wr dq osq
            generalize grow (redrawn wr dq) osq = wn at *
            clear x0 x1 x2 x3 cN
            go_wp2_with fail
            go_roundw
            case rel => exact ⟨k + 1, rfl, by go_num, by omega, .inl (by omega), bch hbel hb3⟩
            case measure => simp [intOf]; omega
          · have hd : ¬ (k : Int) < (n4 : Int) := by omega
            go_wp2_with fail
            go_meet
            case rel => exact ⟨rfl, hbel⟩
      · go_wp2_with fail
        go_meet
        case rel => exact ⟨rfl, Below.refl _ _⟩
    case rest =>
      obtain ⟨rfl, hb⟩ := hcut
      have B16 := bch B15 hb
      have L2' := hide (L2.out.keep hb)
      obtain ⟨z0, z1⟩ := blk2 (bch C15 hb)
      clear x0 x1 x2 x3 hSF L4 HN4 hb B15 L2 C15
      rename_i wc
      by_cases hic : ic = 0
      · obtain ⟨hadj, hends, hlast⟩ := hIF.out hic
        have hd0 : (ic != 0) = false := by rw [hic]; rfl
        have HADJ := hide hadj
        have hpos : 1 ≤ n2 := by have := HN2.out; omega
        clear hadj hic hIF
        go_wp2_with fail
        go_loopw [2, 27] (fun rv iv wr => ∃ k : Nat, rv = .bool false ∧ iv = .int .i64 k ∧ 1 ≤ k ∧ k ≤ n2 ∧ Below wc.heap.size wc wr) (fun _ iv _ => n2 - (intOf iv).toNat)
        case atStart => exact ⟨1, rfl, rfl, by omega, hpos, Below.refl _ _⟩
        case round =>
          obtain ⟨k, rfl, rfl, hk1, hk2, hbel⟩ := hrel
          by_cases hlt : k < n2
          · obtain ⟨m, hm⟩ : ∃ m, k = m + 1 := ⟨k - 1, by omega⟩
            have hl := L2'.out.keep hbel
            obtain ⟨g, rfl, hg, hlX, e1, e2⟩ := hl.cellAt (i := k) hlt
            obtain ⟨g', hgg, _, hlX', e3, e4⟩ := hl.cellAt (i := m) (by omega)
            obtain rfl : g' = g := by injection hgg with h; injection h with h; exact h.symm
            have hnb := HADJ.out m (by omega)
            have e0 : X[m + 1]'(by omega) = X[k] := by congr 1; omega
            rw [e0] at hnb
            clear e0
            generalize X[k] = y1 at *
            generalize X[m] = y0 at *
            obtain ⟨u1, d1⟩ := y1
            obtain ⟨u0, d0⟩ := y0
            simp only at e1 e2 e3 e4
            have x0 : ∀ d os, (grow (redrawn wr d) os).cell? ⟨g', k * 2, none⟩ = some (.int .i64 u1) := fun d os => cell_regrown e1 d os
            have x1 : ∀ d os, (grow (redrawn wr d) os).cell? ⟨g', k * 2 + 1, none⟩ = some (.int .i64 d1) := fun d os => cell_regrown e2 d os
            have x2 : ∀ d os, (grow (redrawn wr d) os).cell? ⟨g', m * 2, none⟩ = some (.int .i64 u0) := fun d os => cell_regrown e3 d os
            have x3 : ∀ d os, (grow (redrawn wr d) os).cell? ⟨g', m * 2 + 1, none⟩ = some (.int .i64 d0) := fun d os => cell_regrown e4 d os
            have cN : ∀ d os, Calls Try.prog 19 #[.agg #[.int .i64 u0, .int .i64 d0], .agg #[.int .i64 u1, .int .i64 d1]] (grow (redrawn wr d) os) fun e w'' => e = .returned (.bool true) ∧ ∃ p : Regrown, w'' = grow (redrawn wr p.d) p.os := fun d os => Calls.regrown_of (areNb_any _ _ _ _ _ hnb)
            have i1 : (k : Int) < (n2 : Int) := by omega
            have i3 : (m : Int) < (n2 : Int) := by omega
            have i2 : IntKind.i64.wrap ((k : Int) - 1) = (m : Int) := by rw [IntWalk.i64_in _ (by omega)]; omega
            have HM := hide hm
            clear hnb hgg hlX hlX' hl e1 e2 e3 e4 hm z0 z1
            go_wp2_with fail
            refine wp_region_quiet_below (by assumption) (by kernel_rfl) ?_
            repeat (first | go_big_quiet_step (with_reducible exact cN _ _) | quiet_step ((with_reducible exact cN _ _)))
            refine wpQuiet_nil ?_
            intro _ hw'
            obtain ⟨⟨dq, osq⟩, hw''⟩ := hw'
            subst hw''
            have hb3 := below_regrown wr dq osq
            generalize grow (redrawn wr dq) osq = wn at *
            clear x0 x1 x2 x3 cN
            go_wp2_with fail
            go_roundw
            case rel => exact ⟨k + 1, rfl, by go_num, by omega, by omega, bch hbel hb3⟩
            case measure => simp [intOf]; omega
          · have hd : ¬ (k : Int) < (n2 : Int) := by omega
            obtain ⟨m, hm⟩ : ∃ m, n2 = m + 1 := ⟨n2 - 1, by omega⟩
            have hl := L2'.out.keep hbel
            obtain ⟨g, rfl, hg, hlX, e1, e2⟩ := hl.cellAt (i := m) (by omega)
            have hX : X[m] = (p, q) := by
              rw [← hlast]
              congr 1
              have := HN2.out
              omega
            rw [hX] at e1 e2
            simp only at e1 e2
            have y0 : wr.cell? ⟨w1.heap.size, 0, none⟩ = some (.int .i64 p) := (hbel.cell (p := ⟨w1.heap.size, 0, none⟩) (World.block_lt_of_cell? _ _ z0)).trans z0
            have y1 : wr.cell? ⟨w1.heap.size, 1, none⟩ = some (.int .i64 q) := (hbel.cell (p := ⟨w1.heap.size, 1, none⟩) (World.block_lt_of_cell? _ _ z1)).trans z1
            have i3 : (m : Int) < (n2 : Int) := by omega
            have i2 : IntKind.i64.wrap ((n2 : Int) - 1) = (m : Int) := by rw [IntWalk.i64_in _ (by omega)]; omega
            have HM := hide hm
            have BF := bch B16 hbel
            clear hX hlast hl hm z0 z1 hlX
            go_wp2_with fail
            go_quiet (fail)
            go_wp2_with fail
            go_ret
            exact ⟨rfl, belowN BF _⟩
      · have hd0 : (ic != 0) = true := by simpa using hic
        go_wp2_with fail
        go_ret
        exact ⟨rfl, B16⟩

theorem u8_rng {xs : List Int} (hw : ∀ z ∈ xs, (Lit.int .u8 z).wf = true) : ∀ x ∈ xs, 0 ≤ x ∧ x ≤ 255 := fun x hx => by
  have := hw x hx
  simp only [Lit.wf, Bool.and_eq_true, decide_eq_true_eq] at this
  exact this
theorem walk_Intermediates (A : Option Addr) (n c : Nat) (xs : List Int) (hw : ∀ z ∈ xs, (Lit.int .u8 z).wf = true) (w : World) (h : Rd w w.heap.size 1 A n (xs.map (Value.int .u8))) (hn : n ≤ 9223372036854775807) :
    Calls Try.prog 4 #[.slice A n c] w fun e w' => e = .returned (.bool true) ∧ Below w.heap.size w w' :=
  law_Intermediates A n c xs w h hn (u8_rng hw)

end Go.Proofs.Ytnjilpldfidbjaa
