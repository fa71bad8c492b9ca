/- FnMarkovNumbers: the law's walk. -/
import Derived.Test.YtjmllmadoelioaaMkV
import Derived.Deep.RegionLaw
namespace Go.Proofs.Ytjmllmadoelioaa
open Go.RowKit Go.Sort

theorem mem_take_succ {L : List Int} {N : Int} {j : Nat} (h : j < L.length) : decide (N ∈ L.take (j + 1)) = (decide (N ∈ L.take j) || (L[j] == N)) := by
  have this : (N ∈ L.take (j + 1)) ↔ (N ∈ L.take j ∨ N = L[j]) := by rw [List.take_succ_eq_append_getElem h, List.mem_append, List.mem_singleton]
  rw [decide_eq_decide.2 this]
  by_cases h2 : N = L[j]
  · rw [decide_eq_true (Or.inr h2), beq_iff_eq.2 h2.symm, Bool.or_true]
  · rw [beq_eq_false_iff_ne.2 (fun e => h2 e.symm), Bool.or_false]
    exact decide_eq_decide.2 ⟨fun h => h.resolve_right h2, .inl⟩
theorem Rd.cellz {w : World} {B n : Nat} {g : Nat} {L : List Int} (h : Rd w B 1 (some ⟨g, 0, none⟩) n (il L)) (hl : L.length = n) {i : Nat} (hi : i < n) : w.cell? ⟨g, i, none⟩ = some (.int .i64 (L[i]'(by omega))) := by
  obtain ⟨b, o, e, _, hc⟩ := h.cell hi
  have e1 : b = g ∧ o = 0 := by injection e with e; injection e with e1 e2; exact ⟨e1.symm, e2.symm⟩
  obtain ⟨rfl, rfl⟩ := e1
  rw [Nat.zero_add] at hc
  rw [hc, il_at (by omega)]

set_option maxHeartbeats 8000000 in
set_option maxRecDepth 100000 in
theorem law_FnMarkovNumbers (A : Option Addr) (n c : Nat) (xs : List Int) (w : World) (h : Rd w w.heap.size 1 A n (u8l xs)) (hn : n ≤ 9223372036854775807) (hx : ∀ x ∈ xs, 0 ≤ x ∧ x ≤ 255) :
    Calls Try.prog 9 #[.slice A n c] w fun e w' => e = .returned (.bool true) ∧ Below w.heap.size w w' := by
  have hL := a2Long_any A n c
  by_cases hbig : 3000 < n
  · have hd : decide (3000 < n) = true := decide_eq_true hbig
    rw [hd] at hL
    go_enter Try.func9, Try.ntmps9
    go_wp2_with fail
    refine (hL _ hn).mono ?_
    rintro e w1 ⟨rfl, rfl⟩
    go_wp2_with fail
    go_ret
    exact ⟨rfl, Below.refl _ _⟩
  have hd : decide (3000 < n) = false := decide_eq_false hbig
  rw [hd] at hL
  have hA1 := a2At_any A n c w.heap.size xs 0 256 w h (by omega) (by omega) hx (by omega)
  have hA2 := a2At_any A n c w.heap.size xs 1 4 w h (by omega) (by omega) hx (by omega)
  have hA3 := fun w' (hb : Below w.heap.size w w') => a2At_any A n c w.heap.size xs 2 256 w' (h.below hb) (by omega) (by omega) hx (by omega)
  clear h hx hd hbig
  go_enter Try.func9, Try.ntmps9
  go_wp2_with fail
  refine (hL _ hn).mono ?_
  rintro e w1 ⟨rfl, rfl⟩
  go_wp2_with fail
  refine hA1.mono ?_
  rintro e w1 ⟨a, rfl, a0, a9, rfl⟩
  go_wp2_with fail
  refine hA2.mono ?_
  rintro e w1 ⟨b, rfl, b0, b9, rfl⟩
  clear hA1 hA2 hL
  go_wp2_with fail
  have hM : 1 ≤ 1 + a * 4 + b ∧ 1 + a * 4 + b ≤ 1024 := by omega
  generalize 1 + a * 4 + b = M at *
  clear a0 a9 b0 b9
  have hF := fun z hz => mn_facts hM (z := z) hz
  have hsum := psum_all hM
  have hfst := mn_first hM.1
  obtain ⟨hasc, _, _⟩ := puts_asc_mem (zl (allT M))
  have hC0 : countT M ≤ 1048578 := by
    have := allT_len M
    unfold countT
    split <;> omega
  obtain ⟨ex, ec⟩ := mnx_eq hM
  have hN := implMarkovNumbers_any M w
  have hC := implCountTriples_any M
  have hIF := fun N hN => imb_fact (N := N) (M := M) hN
  rw [ec] at hC
  rw [ec, ex] at hN
  generalize countT M = C at *
  generalize puts (zl (allT M)) = L at *
  clear ec ex
  refine hN.mono ?_
  rintro e w1 ⟨v, rfl, ⟨A4, m, cap, rfl, hm, hm2, hl⟩, hb1⟩
  obtain ⟨L0, hL0⟩ := hfst
  have hm1 : 1 ≤ m := by rw [hm, hL0]; simp
  rcases hl with ⟨_, h0⟩ | ⟨g, rfl, hg, hr⟩
  · omega
  have hlt := hr.lt
  have hR := hr.rd
  have HM := hide hm
  have e0 : ∀ h : 0 < L.length, L[0]'h = 1 := fun h => by subst hL0; rfl
  clear hm hL0
  go_wp2_with fail
  refine (hC _).mono ?_
  rintro e w2 ⟨rfl, hb2⟩
  have hR2 := hR.below hb2
  have hB2 := bstep hb1 hb2 hb1.size
  have hfc := hR2.cellz HM.out.symm (i := 0) (by omega)
  rw [e0] at hfc
  have hs2 := hb2.size
  have hpl := psum_le L
  rw [← HM.out] at hsum hpl
  clear hN hC hR hr e0 hb1
  have HASC := hide hasc
  have HF := hide hF
  have HIF := hide hIF
  have HSUM := hide hsum
  clear hasc hF hIF hb2
  have hmz : ((m : Int) == 0) = false := beq_eq_false_iff_ne.2 (by omega)
  go_wp2_with fail
  clear hfc
  go_loopw [8, 9] (fun sv iv wr => ∃ (j s : Nat), iv = .int .i64 j ∧ j ≤ m ∧ psum L j = s ∧ sv = .int .i64 s ∧ Below w2.heap.size w2 wr) (fun _ iv _ => m - (intOf iv).toNat)
  case atStart => exact ⟨0, 0, rfl, by omega, rfl, rfl, Below.refl _ _⟩
  case round =>
    obtain ⟨j, s, rfl, hj, hs, rfl, hbel⟩ := hrel
    have hRr := hR2.below (hbel.mono hs2)
    have HS := hide hs
    have hps := hpl j
    rw [hs] at hps
    clear hs
    by_cases hlt : j < m
    · obtain ⟨hjl⟩ : PLift (j < L.length) := ⟨by have := HM.out; omega⟩
      have y1 := hRr.cellz HM.out.symm hlt
      obtain ⟨f1, f2, f3, f4, f5, f6, f7, f8, f9, f10, f11, f12, f13⟩ := HF.out _ (List.getElem_mem hjl)
      have hstep := psum_succ hjl
      have hps2 := hpl (j + 1)
      rw [hstep] at hps2
      have hprev : j = 0 ∨ ∃ (i : Nat) (y : Int), j = i + 1 ∧ wr.cell? ⟨g, i, none⟩ = some (.int .i64 y) ∧ y < L[j] := by
        rcases Nat.eq_zero_or_pos j with h0 | h0
        · exact .inl h0
        · obtain ⟨i, rfl⟩ : ∃ i, j = i + 1 := ⟨j - 1, by omega⟩
          exact .inr ⟨i, _, rfl, hRr.cellz HM.out.symm (by omega), mn_asc HASC.out hjl⟩
      have HSTEP := hide hstep
      have HI := implIsMarkov_any L[j]
      have HT := implTriplesOf_any L[j]
      have HG := implLagrangeSquare_any L[j]
      rw [f3, f4] at HI
      rw [f4, f5] at HT
      rw [f7] at HG
      clear hstep f3 f4 f5 f7
      generalize L[j] = z at *
      obtain ⟨T, hT⟩ : ∃ T, T = tof z := ⟨_, rfl⟩
      rw [← hT] at HT HSTEP f6 f13 hps2
      clear hT
      generalize lsn z = gn at *
      generalize lsd z = gd at *
      have hjz : (j : Int) < (m : Int) := by omega
      have d1 : decide (z < 1) = false := decide_eq_false (by omega)
      have d2 : decide (M < z) = false := decide_eq_false (by omega)
      go_wp2_with fail
      have hgl : g < wr.heap.size := by have := hbel.size; omega
      have HI2 := fun w' => HI w'
      have D1 : decide (gd < 1) = false := decide_eq_false (by omega)
      have D2 : decide (9 * gd ≤ gn) = false := decide_eq_false (by omega)
      have D3 : decide (gn < 5 * gd) = false := decide_eq_false (by omega)
      rcases hprev with hj0 | ⟨i, y, hji, y2, hlty⟩
      all_goals first
        | (have d3 : decide (0 < (j : Int)) = false := decide_eq_false (by omega)
           have d5 : ¬ 0 < j := by omega
           have d6 : decide (0 < j) = false := decide_eq_false d5
           clear hj0
           go_quiet (fail)
           clear d3 d5 d6)
        | (have d3 : decide (0 < (j : Int)) = true := decide_eq_true (by omega)
           have d5 : 0 < j := by omega
           have d6 : decide (0 < j) = true := decide_eq_true d5
           have d4 : decide (z ≤ y) = false := decide_eq_false (by omega)
           have i1 : (i : Int) < (m : Int) := by omega
           have i2 : IntKind.i64.wrap ((j : Int) - 1) = (i : Int) := by rw [IntWalk.i64_in _ (by omega)]; omega
           clear hji
           go_quiet (fail)
           clear d3 d5 d6 d4 i1 i2 y2)
      all_goals as_aux_lemma =>
        clear d1 d2
        go_wp2_with fail
        refine (HI _).mono ?_
        rintro e w3 ⟨rfl, hb3'⟩
        have hb3 : Below wr.heap.size wr w3 := (belowN (Below.refl _ _) nq).trans hb3'
        have hB3 := bstep hbel hb3 hbel.size
        have y3 := (hb3.cell (p := ⟨g, j, none⟩) hgl).trans y1
        have s3 := hb3.size
        clear hb3' y1 HI HI2
        go_wp2_with fail
        refine (HT _).mono ?_
        rintro e w4 ⟨v, rfl, ⟨A2, kk, cap2, rfl, hkk, hkk2, hl2⟩, hb4⟩
        have hB4 := bstep hB3 hb4 hB3.size
        have y4 := (hb4.cell (p := ⟨g, j, none⟩) (show g < w3.heap.size by omega)).trans y3
        have hT4 := LstT.rd hkk hl2
        have s4 := hb4.size
        have HKK := hide hkk
        have hk0 : 1 ≤ kk := by omega
        have hkz : ((kk : Int) == 0) = false := beq_eq_false_iff_ne.2 (by omega)
        rw [← hkk] at hps2
        clear y3 hl2 HT hb4 hkk f6
        go_wp2_with fail
        refine (HG _).mono ?_
        rintro e w5 ⟨rfl, hb5⟩
        have hB5 := bstep hB4 hb5 hB4.size
        have y5 := (hb5.cell (p := ⟨g, j, none⟩) (show g < w4.heap.size by omega)).trans y4
        have hT5 := hT4.below hb5
        have s5 := hb5.size
        clear y4 hT4 HG
        go_wp2_with fail
        have hb6 : Below w5.heap.size w5 (w5.alloc (.cells #[.int .i64 gn, .int .i64 gd] 44)) := (Below.refl _ _).alloc (Nat.le_refl _) _
        have hg5 : g < w5.heap.size := by omega
        have hov : (s : Int) + (kk : Int) ≤ 1048578 := by have := HS.out; omega
        generalize w5.alloc (.cells #[.int .i64 gn, .int .i64 gd] 44) = w6 at *
        have hB6 := bstep hB5 hb6 hB5.size
        have s6 := hb6.size
        have y6 := (hb6.cell (p := ⟨g, j, none⟩) hg5).trans y5
        have hT6 := hT5.below (hb6.mono (by omega))
        clear y5 hT5 hb5 hb3 hps2 hB3 hB4 hB5 D1 D2 D3
        go_loopw [16] (fun kv wi => ∃ k : Nat, kv = .int .i64 k ∧ k ≤ kk ∧ Below w6.heap.size w6 wi) (fun kv _ => kk - (intOf kv).toNat)
        case atStart => exact ⟨0, rfl, by omega, Below.refl _ _⟩
        case round =>
          obtain ⟨k, rfl, hk, hbi⟩ := hrel
          by_cases hlk : k < kk
          · have hkl : k < T.length := by have := HKK.out; omega
            obtain ⟨b2, o2, rfl, hbb2, z1, z2, z3⟩ := (hT6.below (hbi.mono (by omega))).cell3 HKK.out.symm hlk
            obtain ⟨v1, v2⟩ := f13 _ (List.getElem_mem hkl)
            have y7 := (hbi.cell (p := ⟨g, j, none⟩) (show g < w6.heap.size by omega)).trans y6
            rw [v2] at z3 v1
            have VT := fun w' => specValidTriple_grown T[k].x T[k].y z w' v1
            generalize T[k].x = x at *
            generalize T[k].y = yy at *
            have hkz2 : (k : Int) < (kk : Int) := by omega
            clear v1 v2
            have hb26 : b2 < wr.heap.size := by have := hbi.size; omega
            have hg26 : g < wr.heap.size := by have := hbi.size; omega
            go_wp2_with fail
            have mixed : Try.prog.follows .mixedOrders = true := by kernel_rfl
            have l1 := cell_grown (a := ⟨b2, o2 + k * 3, none⟩) hb26 z1
            have l2 := cell_grown (a := ⟨b2, o2 + k * 3 + 1, none⟩) hb26 z2
            have l3 := cell_grown (a := ⟨b2, o2 + k * 3 + 2, none⟩) hb26 z3
            have l4 := cell_grown (a := ⟨g, j, none⟩) hg26 y7
            go_quiet_grown (first | (with_reducible exact Calls.grown_of (VT _)))
            have hb7 := (grow_below wr nq osq)
            go_wp2_with fail
            go_roundw
            case rel => exact ⟨k + 1, by go_num, by omega, bstep hbi hb7 hbi.size⟩
            case measure => simp [intOf]; omega
          · have hkk9 : k = kk := by omega
            subst hkk9
            go_wp2_with fail
            go_roundw
            case rel =>
              refine ⟨j + 1, s + k, by go_num, by omega, ?_, by go_num, bstep hB6 hbi hB6.size⟩
              rw [HSTEP.out, HS.out, HKK.out]
            case measure => simp [intOf]; omega
    · have hjm : j = m := by omega
      subst hjm
      go_wp2_with fail
      refine (hA3 _ (hB2.trans (hbel.mono hB2.size))).mono ?_
      rintro e w3 ⟨v2, rfl, v20, v29, rfl⟩
      go_wp2_with fail
      have hN : 1 ≤ 1 + v2 ∧ 1 + v2 ≤ 1000 := by omega
      generalize 1 + v2 = N at *
      obtain ⟨nc, hIN⟩ := HIF.out N hN
      have HI := implIsMarkov_any N
      rw [nc] at HI
      refine (HI _).mono ?_
      rintro e w4 ⟨rfl, hb4⟩
      have hB4 := bstep hbel hb4 hbel.size
      have hR4 := hRr.below (hb4.mono (by have := hbel.size; omega))
      have hSC : ((s : Int) == C) = true := beq_iff_eq.2 (by rw [← HS.out]; exact hsum)
      have hBW : Below w.heap.size w w4 := hB2.trans (hB4.mono hB2.size)
      generalize imb N = ib at *
      clear HI nc hsum hpl hps HS hRr hR2 hb4 hB4 hbel
      go_wp2_with fail
      go_loopw [20, 21] (fun fv iv wi => ∃ i : Nat, iv = .int .i64 i ∧ i ≤ j ∧ fv = .bool (decide (N ∈ L.take i)) ∧ w4 = wi) (fun _ iv _ => j - (intOf iv).toNat)
      case atStart => exact ⟨0, rfl, by omega, by simp, rfl⟩
      case round =>
        obtain ⟨i, rfl, hi, rfl, rfl⟩ := hrel
        by_cases hil : i < j
        · have hil2 : i < L.length := by have := HM.out; omega
          have y1 := hR4.cellz HM.out.symm hil
          have HST := hide (mem_take_succ (N := N) hil2)
          generalize L[i] = z at *
          have hiz : (i : Int) < (j : Int) := by omega
          generalize decide (N ∈ L.take i) = f at *
          cases f
          all_goals
            go_wp2_with fail
            go_roundw
            case rel => exact ⟨i + 1, by go_num, by omega, by rw [HST.out]; rfl, by first | rfl | trivial⟩
            case measure => simp [intOf]; omega
        · have hij : i = j := by omega
          subst hij
          have hf : decide (N ∈ L.take i) = decide (N ∈ L) := by rw [List.take_of_length_le (by have := HM.out; omega)]
          have HF2 := hide hf
          generalize decide (N ∈ L.take i) = f at *
          clear hf
          by_cases hMN : M < N
          · have d1 : decide (M < N) = true := decide_eq_true hMN
            go_wp2_with fail
            go_ret
            exact ⟨rfl, hBW⟩
          · have d1 : decide (M < N) = false := decide_eq_false hMN
            have q1 : (ib == f) = true := by rw [hIN.resolve_left hMN, HF2.out]; simp
            go_wp2_with fail
            go_ret
            exact ⟨rfl, hBW⟩

theorem walk_FnMarkovNumbers (A : Option Addr) (n c : Nat) (xs : List Int) (hw : ∀ z ∈ xs, (Lit.int .u8 z).wf = true) (w : World) (h : Rd w w.heap.size 1 A n (xs.map (Value.int .u8))) (hn : n ≤ 9223372036854775807) :
    Calls Try.prog 9 #[.slice A n c] w fun e w' => e = .returned (.bool true) ∧ Below w.heap.size w w' :=
  law_FnMarkovNumbers A n c xs w h hn (fun x hx => by
    have := hw x hx
    simp only [Lit.wf, Bool.and_eq_true, decide_eq_true_eq] at this
    exact this)

end Go.Proofs.Ytjmllmadoelioaa
