/- The law FnNextPoints: its walk. -/
import Derived.Test.YtpagfikhcmeciaaNxtP
import Derived.Test.YtpagfikhcmeciaaGapD
import Derived.Test.YtpagfikhcmeciaaDrwZ
import Derived.Deep.DeepCutAuto
namespace Go.Proofs.Ytpagfikhcmeciaa
open Go.RowKit Go.Sort

set_option maxRecDepth 100000 in
set_option maxHeartbeats 8000000 in
theorem law_NextPoints (A : Option Addr) (n c : Nat) (xs : List Int) (w : World) (h : Rd w w.heap.size 1 A n (u8l xs)) (hn : n ≤ 9223372036854775807) (hx : ∀ x ∈ xs, 0 ≤ x ∧ x ≤ 255) :
    Calls Try.prog 4 #[.slice A n c] w fun e w' => e = .returned (.bool true) ∧ Below w.heap.size w w' := by
  by_cases hbig : 4096 < n
  · go_enter Try.func4, Try.ntmps4
    go_wp2_with fail
    refine (f6big_any A n c _ hn).mono ?_
    rintro e w1 ⟨rfl, rfl⟩
    go_wp2_with fail
    go_ret
    exact ⟨rfl, Below.refl _ _⟩
  · go_enter Try.func4, Try.ntmps4
    go_wp2_with fail
    refine (f6big_any A n c _ hn).mono ?_
    rintro e w1 ⟨rfl, rfl⟩
    go_wp2_with fail
    refine (drawFallsInto_any A n c xs _ h hn hx).mono ?_
    rintro e w1 ⟨p, q, kq, rfl, b1⟩
    have hI1 := implFallsInto_any p q kq
    have hS1 := specFallsInto_any p q kq
    have hI2 := implEndsOfMultiples_any p q kq
    have hS2 := specEndsOfMultiples_any p q kq
    obtain ⟨fv, hfv⟩ : ∃ fv, fiv p q kq = fv := ⟨_, rfl⟩
    obtain ⟨fc, hfc⟩ : ∃ fc, fic p q kq = fc := ⟨_, rfl⟩
    rw [hfv, hfc] at hI1 hS1
    generalize ema p q kq = ea at *
    generalize emb p q kq = eb at *
    generalize emc p q kq = ec at *
    have HFV := hide hfv
    have HFC := hide hfc
    have B1 := b1.alloc b1.size (.cells #[.int .i64 p, .int .i64 q] 25)
    have HF := hide (Blk.new w1 25 #[.int .i64 p, .int .i64 q])
    clear b1 hbig hfv hfc
    obtain ⟨HFc, -, -, -⟩ := HF.out.after (Below.refl _ _) HF.out.lt
    have HFx0 := HFc 0
    have HFx1 := HFc 1
    clear HFc
    go_wp2_with fail
    refine (hI1 _).mono ?_
    rintro e w2 ⟨rfl, b2⟩
    have B2 := bch B1 b2
    clear HFx0 HFx1
    have HF := hide (HF.out.bel b2)
    clear b2 B1
    obtain ⟨HFc, -, -, -⟩ := HF.out.after (Below.refl _ _) HF.out.lt
    have HFx0 := HFc 0
    have HFx1 := HFc 1
    clear HFc
    go_wp2_with fail
    refine (hS1 _).mono ?_
    rintro e w3 ⟨rfl, b3⟩
    have B3 := bch B2 b3
    clear HFx0 HFx1
    have HF := hide (HF.out.bel b3)
    clear b3 B2
    obtain ⟨HFc, -, -, -⟩ := HF.out.after (Below.refl _ _) HF.out.lt
    have HFx0 := HFc 0
    have HFx1 := HFc 1
    clear HFc
    go_wp2_with fail
    refine (hI2 _).mono ?_
    rintro e w4 ⟨rfl, b4⟩
    have B4 := bch B3 b4
    clear HFx0 HFx1
    have HF := hide (HF.out.bel b4)
    clear b4 B3
    obtain ⟨HFc, -, -, -⟩ := HF.out.after (Below.refl _ _) HF.out.lt
    have HFx0 := HFc 0
    have HFx1 := HFc 1
    clear HFc
    go_wp2_with fail
    refine (hS2 _).mono ?_
    rintro e w5 ⟨rfl, b5⟩
    have B5 := bch B4 b5
    clear HFx0 HFx1
    have HF := hide (HF.out.bel b5)
    clear b5 B4
    obtain ⟨HFc, -, -, -⟩ := HF.out.after (Below.refl _ _) HF.out.lt
    have HFx0 := HFc 0
    have HFx1 := HFc 1
    clear HFc
    clear hI1 hS1 hI2 hS2
    go_wp2_with fail
    refine (drawNextMultiple_any A n c xs _ ((h.below B5).more B5.size) hn hx).mono ?_
    rintro e w6 ⟨p2, q2, k2, m2, rfl, b6⟩
    have B6 := bch B5 b6
    clear HFx0 HFx1
    have HF := hide (HF.out.bel b6)
    clear b6 B5
    obtain ⟨HFc, -, -, -⟩ := HF.out.after (Below.refl _ _) HF.out.lt
    have HFx0 := HFc 0
    have HFx1 := HFc 1
    clear HFc
    have HA := hide (Blk.new w6 25 #[.int .i64 p2, .int .i64 q2])
    clear HFx0 HFx1
    have HF := hide (HF.out.alloc (.cells #[.int .i64 p2, .int .i64 q2] 25))
    have B6 := B6.alloc B6.size (.cells #[.int .i64 p2, .int .i64 q2] 25)
    obtain ⟨HFc, -, -, -⟩ := HF.out.after (Below.refl _ _) HF.out.lt
    have HFx0 := HFc 0
    have HFx1 := HFc 1
    clear HFc
    obtain ⟨HAc, -, -, -⟩ := HA.out.after (Below.refl _ _) HA.out.lt
    have HAx0 := HAc 0
    have HAx1 := HAc 1
    clear HAc
    have hI3 := implNextMultiple_any p2 q2 k2 m2
    have hS3 := specNextMultiple_any p2 q2 k2 m2
    generalize nmv p2 q2 k2 m2 = nv at *
    generalize nmc p2 q2 k2 m2 = nc at *
    go_wp2_with fail
    refine (hI3 _).mono ?_
    rintro e w7 ⟨rfl, b7⟩
    have B7 := bch B6 b7
    clear HFx0 HFx1
    have HF := hide (HF.out.bel b7)
    clear HAx0 HAx1
    have HA := hide (HA.out.bel b7)
    clear b7 B6
    obtain ⟨HFc, -, -, -⟩ := HF.out.after (Below.refl _ _) HF.out.lt
    have HFx0 := HFc 0
    have HFx1 := HFc 1
    clear HFc
    obtain ⟨HAc, -, -, -⟩ := HA.out.after (Below.refl _ _) HA.out.lt
    have HAx0 := HAc 0
    have HAx1 := HAc 1
    clear HAc
    go_wp2_with fail
    refine (hS3 _).mono ?_
    rintro e w8 ⟨rfl, b8⟩
    have B8 := bch B7 b8
    clear HFx0 HFx1
    have HF := hide (HF.out.bel b8)
    clear HAx0 HAx1
    have HA := hide (HA.out.bel b8)
    clear b8 B7
    obtain ⟨HFc, -, -, -⟩ := HF.out.after (Below.refl _ _) HF.out.lt
    have HFx0 := HFc 0
    have HFx1 := HFc 1
    clear HFc
    obtain ⟨HAc, -, -, -⟩ := HA.out.after (Below.refl _ _) HA.out.lt
    have HAx0 := HAc 0
    have HAx1 := HAc 1
    clear HAc
    clear HAx0 HAx1 HA
    clear hI3 hS3
    go_wp2_with fail
    refine (drawTwoLengths_any A n c xs _ ((h.below B8).more B8.size) hn hx).mono ?_
    rintro e w9 ⟨p3, q3, k3, rfl, b9⟩
    have B9 := bch B8 b9
    clear HFx0 HFx1
    have HF := hide (HF.out.bel b9)
    clear b9 B8
    obtain ⟨HFc, -, -, -⟩ := HF.out.after (Below.refl _ _) HF.out.lt
    have HFx0 := HFc 0
    have HFx1 := HFc 1
    clear HFc
    have HB := hide (Blk.new w9 25 #[.int .i64 p3, .int .i64 q3])
    clear HFx0 HFx1
    have HF := hide (HF.out.alloc (.cells #[.int .i64 p3, .int .i64 q3] 25))
    have B9 := B9.alloc B9.size (.cells #[.int .i64 p3, .int .i64 q3] 25)
    obtain ⟨HFc, -, -, -⟩ := HF.out.after (Below.refl _ _) HF.out.lt
    have HFx0 := HFc 0
    have HFx1 := HFc 1
    clear HFc
    obtain ⟨HBc, -, -, -⟩ := HB.out.after (Below.refl _ _) HB.out.lt
    have HBx0 := HBc 0
    have HBx1 := HBc 1
    clear HBc
    have hI4 := implTwoLengths_any p3 q3 k3
    have hS4 := specTwoLengths_any p3 q3 k3
    generalize tlx p3 q3 k3 = X at *
    generalize tlc p3 q3 k3 = tc at *
    go_wp2_with fail
    refine (hI4 _).mono ?_
    rintro e w10 ⟨v1, rfl, L10, b10⟩
    have B10 := bch B9 b10
    clear HFx0 HFx1
    have HF := hide (HF.out.bel b10)
    clear HBx0 HBx1
    have HB := hide (HB.out.bel b10)
    clear b10 B9
    obtain ⟨HFc, -, -, -⟩ := HF.out.after (Below.refl _ _) HF.out.lt
    have HFx0 := HFc 0
    have HFx1 := HFc 1
    clear HFc
    obtain ⟨HBc, -, -, -⟩ := HB.out.after (Below.refl _ _) HB.out.lt
    have HBx0 := HBc 0
    have HBx1 := HBc 1
    clear HBc
    have L1 := hide L10
    clear L10
    go_wp2_with fail
    refine (hS4 _).mono ?_
    rintro e w11 ⟨v2, rfl, L20, b11⟩
    have B11 := bch B10 b11
    clear HFx0 HFx1
    have HF := hide (HF.out.bel b11)
    clear HBx0 HBx1
    have HB := hide (HB.out.bel b11)
    have L1 := hide (L1.out.keep b11)
    clear b11 B10
    obtain ⟨HFc, -, -, -⟩ := HF.out.after (Below.refl _ _) HF.out.lt
    have HFx0 := HFc 0
    have HFx1 := HFc 1
    clear HFc
    obtain ⟨HBc, -, -, -⟩ := HB.out.after (Below.refl _ _) HB.out.lt
    have HBx0 := HBc 0
    have HBx1 := HBc 1
    clear HBc
    have L2 := hide L20
    clear L20
    clear HBx0 HBx1 HB
    clear hI4 hS4 h hx
    have qq0 : (fc != fc) = false := by simp
    have qq1 : (fv != fv) = false := by simp
    have qq2 : (ec != ec) = false := by simp
    have qq3 : (ea != ea) = false := by simp
    have qq4 : (eb != eb) = false := by simp
    have qq5 : (nc != nc) = false := by simp
    have qq6 : (nv != nv) = false := by simp
    have qq7 : (tc != tc) = false := by simp
    go_wp2_with fail
    refine (f6intsL_any _ _ _ _ X _ L1.out L2.out).mono ?_
    rintro e w12 ⟨rfl, b12⟩
    have B12 := bch B11 b12
    clear HFx0 HFx1
    have HF := hide (HF.out.bel b12)
    have L1 := hide (L1.out.keep b12)
    have L2 := hide (L2.out.keep b12)
    clear b12 B11
    obtain ⟨HFc, -, -, -⟩ := HF.out.after (Below.refl _ _) HF.out.lt
    have HFx0 := HFc 0
    have HFx1 := HFc 1
    clear HFc
    clear L1 L2 qq0 qq1 qq2 qq3 qq4 qq5 qq6 qq7
    go_upto_region 16 with fail
    by_cases h0 : fc = 0
    · have hfi : fic p q kq = 0 := HFC.out.trans h0
      have d0 : (fc != 0) = false := by rw [h0]; rfl
      obtain ⟨f1, f2, f3⟩ := fic_ok hfi
      by_cases h60 : 60 < kq
      · have d1 : decide (60 < kq) = true := decide_eq_true h60
        clear h0 hfi
        go_wp2_with fail
        go_ret
        exact ⟨rfl, B12⟩
      · obtain ⟨m, rfl⟩ : ∃ m : Nat, kq = m := ⟨kq.toNat, by omega⟩
        have d1 : decide (60 < (m : Int)) = false := decide_eq_false h60
        have d2 : decide ((m : Int) < 200) = true := decide_eq_true (by omega)
        obtain ⟨t1, t2⟩ := next_falls hfi (by omega)
        rw [HFV.out] at t1 t2
        have hN1 := implNextMultiple_any p q ((m : Int) + 1) fv
        rw [t1, t2] at hN1
        have hstep := fun i hi => nmv_at (p := p) (q := q) (c := m) f1 (by omega) (by omega) (i := i) hi
        have hwalk := fun i hi => walk_at (p := p) (q := q) (c := m) f1 (by omega) (by omega) (i := i) hi
        obtain ⟨o1, o2, o3⟩ := okF_iff.1 f1
        have hz := ord_zero (p := p) (q := q) (n := m) (by omega) o3 (by omega) (by omega)
        have hNx := fun k w => implNextMultiple_any p q (m : Int) k w
        have HST := hide hstep
        have HWK := hide hwalk
        have hm60 : 1 ≤ m ∧ m ≤ 60 := by omega
        have qm : ((m : Int) != (m : Int)) = false := by simp
        generalize ord (rst p q) m = O at *
        have HZ := hide hz
        clear h0 hfi t1 t2 hstep hwalk f1 f2 f3 h60 hz HFV HFC
        go_wp2_with fail
        refine (hN1 _).mono ?_
        rintro e w40 ⟨rfl, b40⟩
        have HF40 := hide (HF.out.bel b40)
        have B40 := bch B12 b40
        clear hN1 HFx0 HFx1 HF b40 B12
        go_wp2_with fail
        go_loopw [2, 30, 31] (fun rv av iv wr => ∃ i : Nat, rv = .bool false ∧ iv = .int .i64 i ∧ i ≤ m ∧ av = .int .i64 (O.getD (i % m) 0) ∧ Below w40.heap.size w40 wr) (fun _ _ iv _ => m - (intOf iv).toNat)
        case atStart => exact ⟨0, rfl, rfl, by omega, by rw [Nat.zero_mod, HZ.out], Below.refl _ _⟩
        case round =>
          obtain ⟨i, rfl, rfl, hi, rfl, hbel⟩ := hrel
          by_cases hlt : i < m
          · have hmod : i % m = i := Nat.mod_eq_of_lt hlt
            rw [hmod]
            obtain ⟨e1, e2⟩ := HST.out i hlt
            obtain ⟨e3, e4, e5⟩ := HWK.out i hlt
            have hC := hNx (O.getD i 0)
            rw [e1, e2] at hC
            generalize hb : O.getD ((i + 1) % m) 0 = b at *
            generalize O.getD i 0 = a at *
            have HB := hide hb
            have hF := HF40.out.bel hbel
            obtain ⟨d, -, -, -⟩ := hF.after (Below.refl _ _) hF.lt
            have y0 := d 0
            have y1 := d 1
            have i1 : (i : Int) < (m : Int) := by omega
            have c1 : ¬ b < 0 := by omega
            have c2 : ¬ (m : Int) ≤ b := by omega
            have c1' : decide (b < 0) = false := decide_eq_false c1
            have c2' : decide ((m : Int) ≤ b) = false := decide_eq_false c2
            have c4 : IntKind.i64.wrap ((m : Int) - 1) = (m : Int) - 1 := IntWalk.i64_in _ (by omega)
            have c3 : ((b == 0) == ((i : Int) == (m : Int) - 1)) = true := by
              by_cases h : b = 0
              · have h2 := e5.1 h
                rw [beq_iff_eq.2 h, beq_iff_eq.2 h2]; rfl
              · have h2 : ¬ (i : Int) = (m : Int) - 1 := fun h3 => h (e5.2 h3)
                rw [beq_eq_false_iff_ne.2 h, beq_eq_false_iff_ne.2 h2]; rfl
            obtain ⟨s1, hs1⟩ : ∃ s1, (b == 0) = s1 := ⟨_, rfl⟩
            obtain ⟨s2, hs2⟩ : ∃ s2, ((i : Int) == (m : Int) - 1) = s2 := ⟨_, rfl⟩
            rw [hs1, hs2] at c3
            clear e1 e2 e3 e4 e5 hb hmod d hF
            go_wp2_with fail
            refine (hC _).mono ?_
            rintro e w41 ⟨rfl, b41⟩
            have B41 := bch hbel b41
            clear y0 y1 hC b41
            go_wp2_with fail
            go_roundw
            case rel => exact ⟨i + 1, rfl, by go_num, by omega, by rw [HB.out], B41⟩
            case measure => first | (simp [intOf]; done) | (simp [intOf]; omega)
          · have him : i = m := by omega
            subst him
            have i1 : ¬ (i : Int) < (i : Int) := by omega
            have hz0 : O.getD (i % i) 0 = 0 := by rw [Nat.mod_self]; exact HZ.out
            rw [hz0]
            have BW := bch B40 hbel
            go_wp2_with fail
            go_ret
            exact ⟨rfl, BW⟩
    · have d0 : (fc != 0) = true := by simpa using h0
      clear h0
      go_wp2_with fail
      go_ret
      exact ⟨rfl, B12⟩

theorem walk_NextPoints (A : Option Addr) (n c : Nat) (xs : List Int) (hw : ∀ z ∈ xs, (Lit.int .u8 z).wf = true) (w : World) (h : Rd w w.heap.size 1 A n (xs.map (Value.int .u8))) (hn : n ≤ 9223372036854775807) :
    Calls Try.prog 4 #[.slice A n c] w fun e w' => e = .returned (.bool true) ∧ Below w.heap.size w w' :=
  law_NextPoints A n c xs w h hn (u8_rng hw)

end Go.Proofs.Ytpagfikhcmeciaa
