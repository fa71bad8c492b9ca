/- The law on linear equations: its walk. -/
import Derived.Test.YtikpiigamnpafaaDoorLinQ
import Derived.Test.YtikpiigamnpafaaDoorF6L
import Derived.Test.YtikpiigamnpafaaDoorLinU
import Derived.Test.YtikpiigamnpafaaDoorLinD2
import Derived.Deep.DeepCutAuto
import Derived.Lib.Strings
namespace Go.Proofs.YtikpiigamnpafaaDoor
open Go.RowKit Go.Sort

theorem f6big_any (A : Option Addr) (n c : Nat) (w : World) (hn : n ≤ 9223372036854775807) :
    Calls Tryd.prog 12 #[.slice A n c] w fun e w' => e = .returned (.bool (decide (4096 < n))) ∧ w = w' := by
  go_enter Tryd.func12, Tryd.ntmps12
  go_wp2
  go_ret
  exact ⟨by simp; omega, rfl⟩
theorem drawSolveLinear_any (A : Option Addr) (n c : Nat) (xs : List Int) (w : World) (h : Rd w w.heap.size 1 A n (u8l xs)) (hn : n ≤ 9223372036854775807) (hx : ∀ x ∈ xs, 0 ≤ x ∧ x ≤ 255) :
    Calls Tryd.prog 13 #[.slice A n c] w fun e w' => ∃ a b c, e = .returned (.tuple #[.int .i64 a, .int .i64 b, .int .i64 c]) ∧ Below w.heap.size w w' := by
  go_enter Tryd.func13, Tryd.ntmps13
  go_wp2_with fail
  refine (l00From_any A n c xs _ h hn hx).mono ?_
  rintro e w1 ⟨g, rfl, hs1, hb1⟩
  go_wp2_with fail
  refine (l21Draw_any g _ 800 _ (hs1.less (by omega))).mono ?_
  rintro e w2 ⟨a, b, d, rfl, hs2, hg2⟩
  have hb2 := belowSrc hb1 hs1 hg2
  clear hs2 hg2 hs1 hb1
  go_wp2_with fail
  go_returns
  exact ⟨_, _, _, rfl, hb2⟩
theorem drawNaturalSolutions_any (A : Option Addr) (n c : Nat) (xs : List Int) (w : World) (h : Rd w w.heap.size 1 A n (u8l xs)) (hn : n ≤ 9223372036854775807) (hx : ∀ x ∈ xs, 0 ≤ x ∧ x ≤ 255) :
    Calls Tryd.prog 18 #[.slice A n c] w fun e w' => ∃ a b c, e = .returned (.tuple #[.int .i64 a, .int .i64 b, .int .i64 c]) ∧ Below w.heap.size w w' := by
  go_enter Tryd.func18, Tryd.ntmps18
  go_wp2_with fail
  refine (l21Plus_any A n c xs _ h hn hx).mono ?_
  rintro e w1 ⟨a, b, d, rfl, hb1⟩
  go_wp2_with fail
  go_returns
  exact ⟨_, _, _, rfl, hb1⟩

set_option maxRecDepth 100000 in
set_option maxHeartbeats 4000000 in
theorem law_Linear (A : Option Addr) (n c : Nat) (xs : List Int) (w : World) (h : Rd w w.heap.size 1 A n (u8l xs)) (hn : n ≤ 9223372036854775807) (hx : ∀ x ∈ xs, 0 ≤ x ∧ x ≤ 255) (ht : Tab w) :
    Calls Tryd.prog 5 #[.slice A n c] w fun e w' => e = .returned (.bool true) ∧ Below w.heap.size w w' := by
  by_cases hbig : 4096 < n
  · go_enter Tryd.func5, Tryd.ntmps5
    go_wp2_with fail
    refine (f6big_any A n c _ hn).mono ?_
    rintro e w1 ⟨rfl, rfl⟩
    go_wp2_with fail
    go_ret
    exact ⟨rfl, Below.refl _ _⟩
  · go_enter Tryd.func5, Tryd.ntmps5
    go_wp2_with fail
    refine (f6big_any A n c _ hn).mono ?_
    rintro e w1 ⟨rfl, rfl⟩
    go_wp2_with fail
    refine (drawSolveLinear_any A n c xs _ h hn hx).mono ?_
    rintro e w1 ⟨a, b, c1, rfl, b1⟩
    have B1 := b1
    obtain ⟨x, y, u, v, bad, d, e1, g, one, hslo, hbzo, Q1, Q2⟩ := slo_facts a b c1
    have hS1 := implSolveLinear_any a b c1
    have hS2 := specSolveLinear_any a b c1
    have hZ1 := implBezoutOf_any a b
    have hZ2 := specBezoutOf_any a b
    rw [hslo] at hS1 hS2
    rw [hbzo] at hZ1 hZ2
    have Q1 := hide Q1
    have Q2 := hide Q2
    clear hslo hbzo b1
    go_wp2_with fail
    refine (hS1 _).mono ?_
    rintro e w2 ⟨rfl, b2⟩
    have B2 := bch B1 b2
    go_wp2_with fail
    refine (hS2 _).mono ?_
    rintro e w3 ⟨rfl, b3⟩
    have B3 := bch B2 b3
    go_wp2_with fail
    refine (hZ1 _).mono ?_
    rintro e w4 ⟨rfl, b4⟩
    have B4 := bch B3 b4
    go_wp2_with fail
    refine (hZ2 _).mono ?_
    rintro e w5 ⟨rfl, b5⟩
    have B5 := bch B4 b5
    clear B1 B2 B3 B4 b2 b3 b4 b5 hS1 hS2 hZ1 hZ2
    go_wp2_with fail
    refine (drawNaturalSolutions_any A n c xs _ ((h.below B5).more B5.size) hn hx).mono ?_
    rintro e w6 ⟨k, l, m, rfl, b6⟩
    have B6 := bch B5 b6
    obtain ⟨N, s, hcno, Q3⟩ := ns_facts k l m
    have hI := implNatural_any k l m
    have hS := specNatural_any k l m
    have hC1 := implCountNatural_any k l m
    have hC2 := specCountNatural_any k l m
    rw [hcno] at hC1 hC2
    have hm : (nsx k l m).length ≤ 1000 := by
      unfold nsx
      split
      · rw [nsk_len]
        rename_i h
        unfold nsc at h
        split at h
        · split at h
          · cases h
          · omega
        · cases h
      · simp
    generalize nsx k l m = X at *
    generalize nsc k l m = cd at *
    obtain ⟨M, hX⟩ : ∃ M, X.length = M := ⟨_, rfl⟩
    rw [hX] at hS hI hm
    have Q3 := hide Q3
    have HX := hide hX
    clear hX B5 b6 hcno
    go_wp2_with fail
    refine (hI _).mono ?_
    rintro e w7 ⟨v7, gs7, rfl, r7, b7⟩
    have B7 := bch B6 b7
    have R7 := hide r7
    obtain ⟨A7, c7, rfl, -⟩ := r7.form
    clear b7 B6 r7
    go_wp2_with fail
    refine (hS _).mono ?_
    rintro e w8 ⟨v8, gs8, rfl, r8, b8⟩
    have B8 := bch B7 b8
    have R7 := hide (R7.out.below b8)
    have R8 := hide r8
    obtain ⟨A8, c8, rfl, -⟩ := r8.form
    clear b8 B7 r8
    go_wp2_with fail
    refine (hC1 _).mono ?_
    rintro e w9 ⟨rfl, b9⟩
    have B9 := bch B8 b9
    have R7 := hide (R7.out.below b9)
    have R8 := hide (R8.out.below b9)
    clear b9 B8
    go_wp2_with fail
    refine (hC2 _).mono ?_
    rintro e w10 ⟨rfl, b10⟩
    have B10 := bch B9 b10
    have R7 := hide (R7.out.below b10)
    have R8 := hide (R8.out.below b10)
    clear b10 B9 hI hS hC1 hC2
    have q1 : (bad != bad) = false := by simp
    have q2 : (x != x) = false := by simp
    have q3 : (y != y) = false := by simp
    have q4 : (u != u) = false := by simp
    have q5 : (v != v) = false := by simp
    have q6 : (one != one) = false := by simp
    have q7 : (d != d) = false := by simp
    have q8 : (e1 != e1) = false := by simp
    have q9 : (g != g) = false := by simp
    have q10 : (cd != cd) = false := by simp
    have q11 : (s != s) = false := by simp
    have q12 : (N != N) = false := by simp
    go_wp2_with fail
    refine (f6lists_any _ _ _ _ M _ _ X _ R7.out R8.out hm).mono ?_
    rintro e w11 ⟨rfl, b11⟩
    have B11 := bch B10 b11
    have R7 := hide (R7.out.below b11)
    have R8 := hide (R8.out.below b11)
    clear b11 B10
    have hT1 := fun w (h : Tab w) => implLinearText_any a b c1 w h
    have hT2 := fun w (h : Tab w) => specLinearText_any a b c1 w h
    generalize ltx a b c1 = lt at *
    go_wp2_with fail
    refine (hT1 _ (ht.below B11)).mono ?_
    rintro e w12 ⟨rfl, b12⟩
    have B12 := bch B11 b12
    have R8 := hide (R8.out.below b12)
    clear b12 B11 R7
    go_wp2_with fail
    refine (hT2 _ (ht.below B12)).mono ?_
    rintro e w13 ⟨rfl, b13⟩
    have B13 := bch B12 b13
    have R8 := hide (R8.out.below b13)
    clear b13 B12 hT1 hT2
    have q13 := bn_self lt
    go_upto_region 15 with fail
    obtain ⟨W, hW⟩ : ∃ W, w13 = W := ⟨_, rfl⟩
    rw [hW] at B13 R8 ⊢
    go_cut [201] (fun v wc => v = .bool false ∧ wc = W)
    case first => as_aux_lemma =>
      rcases Q1.out with g1 | ⟨rfl, p, q, z1, z2, z3, z4, z5⟩
      · go_wp2_with fail
        go_meet
        case rel => exact ⟨rfl, rfl⟩
      · go_wp2_with fail
        go_meet
        case rel => exact ⟨rfl, rfl⟩
    case rest =>
      obtain ⟨rfl, rfl⟩ := hcut
      clear Q1 hW
      go_upto_region 17 with fail
      rcases Q3.out with g1 | ⟨rfl, hN, hX1, hQ⟩
      case inl =>
        have BW := B13
        go_upto_region 25 with fail
        rcases Q2.out with rfl | ⟨rfl, hg0, t, t1, t2, t3⟩ | ⟨rfl, p, q, r, s2, t1, t2, t3, t4, t5, t6, t7, t8, t9, t10, t11, t12, t13⟩
        · go_wp2_with fail
          go_ret
          exact ⟨rfl, BW⟩
        · have q0 : (t != 0) = true := by simpa using t2
          go_wp2_with fail
          go_ret
          exact ⟨rfl, BW⟩
        · have k1 : decide (0 ≤ x) = true := decide_eq_true (by omega)
          have k2 : decide (x < u) = true := decide_eq_true (by omega)
          go_wp2_with fail
          go_ret
          exact ⟨rfl, BW⟩
      case inr =>
        have hNM : N = (M : Int) := by rw [hN, HX.out]
        clear hN
        subst hNM
        have HQ := hide hQ
        have q14 : ((M : Int) != (M : Int)) = false := by simp
        clear hQ hX1 Q3
        go_wp2_with fail
        go_loopw [35] (fun i wr => ∃ z : Nat, i = .int .i64 z ∧ z ≤ M ∧ Below wc.heap.size wc wr) (fun i _ => M - (intOf i).toNat)
        case atStart => exact ⟨0, rfl, by omega, Below.refl _ _⟩
        case round =>
          obtain ⟨z, rfl, hz, hbel⟩ := hrel
          by_cases hlt : z < M
          · have hg : z < gs8.length := by rw [R8.out.gl]; exact hlt
            have hp : z < X.length := by rw [HX.out]; exact hlt
            obtain ⟨A', c', hA, r⟩ := R8.out.form
            injection hA with hA1 hA2 hA3
            subst hA1
            obtain ⟨b, o, rfl, hb, hc⟩ := r.2 (by omega)
            have f1 := hc z _ (sls_at hg)
            obtain ⟨-, hk⟩ := R8.out.blk z hg hp
            obtain ⟨p, q, z1, z2, z3, z4, z5, z6, z7⟩ := HQ.out z hp
            generalize gs8[z] = g8 at *
            generalize (X[z]).1 = X0 at *
            generalize (X[z]).2 = Y0 at *
            have x1 : wr.cell? ⟨b, o + z, none⟩ = some (.slice (some ⟨g8, 0, none⟩) 2 2) := (hbel.cell (p := ⟨b, o + z, none⟩) hb).trans f1
            obtain ⟨d1, -, -, -⟩ := hk.after hbel hk.lt
            have y0 := d1 0
            have y1 := d1 1
            have hzz : (z : Int) < (M : Int) := by omega
            have k1 : decide (X0 < 0) = false := decide_eq_false (by omega)
            have k2 : decide (Y0 < 0) = false := decide_eq_false (by omega)
            clear d1 hk f1 hc r hA2 hA3 hg hp R8 HX HQ Q2 B13 h ht
            go_wp2_with fail
            go_quiet (fail)
            go_wp2_with fail
            go_roundw
            case rel => exact ⟨z + 1, by go_num, by omega, belowN hbel _⟩
            case measure => simp [intOf]; omega
          · have hzM : z = M := by omega
            subst hzM
            have BW := bch B13 hbel
            have hlt : ¬ (z : Int) < (z : Int) := by omega
            clear hbel R8 HX HQ
            go_upto_region 25 with fail
            rcases Q2.out with rfl | ⟨rfl, hg0, t, t1, t2, t3⟩ | ⟨rfl, p, q, r, s2, t1, t2, t3, t4, t5, t6, t7, t8, t9, t10, t11, t12, t13⟩
            · go_wp2_with fail
              go_ret
              exact ⟨rfl, BW⟩
            · have q0 : (t != 0) = true := by simpa using t2
              go_wp2_with fail
              go_ret
              exact ⟨rfl, BW⟩
            · have k1 : decide (0 ≤ x) = true := decide_eq_true (by omega)
              have k2 : decide (x < u) = true := decide_eq_true (by omega)
              go_wp2_with fail
              go_ret
              exact ⟨rfl, BW⟩

end Go.Proofs.YtikpiigamnpafaaDoor
