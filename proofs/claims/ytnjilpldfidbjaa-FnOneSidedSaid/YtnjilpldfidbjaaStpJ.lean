/- IsIntermediate: walks and law. -/
import Derived.Test.YtnjilpldfidbjaaStpI
namespace Go.Proofs.Ytnjilpldfidbjaa
open Go.RowKit

def isf (a b : Int) (f : Int × Int) : Bool := decide (f.1 = a) && decide (f.2 = b)
def anyF (a b : Int) (xs : List (Int × Int)) (k : Nat) : Bool := (xs.take k).any (isf a b)
theorem anyF_succ {a b : Int} {xs : List (Int × Int)} {k : Nat} (h : k < xs.length) : anyF a b xs (k + 1) = (anyF a b xs k || isf a b xs[k]) := by
  unfold anyF
  rw [List.take_succ_eq_append_getElem h, List.any_append]
  simp
theorem anyF_all (a b : Int) (xs : List (Int × Int)) : anyF a b xs xs.length = xs.any (isf a b) := by simp [anyF]
theorem anyF_true {a b : Int} {xs : List (Int × Int)} {k : Nat} (h : k < xs.length) (h2 : isf a b xs[k] = true) : xs.any (isf a b) = true := List.any_eq_true.2 ⟨_, List.getElem_mem h, h2⟩

set_option maxRecDepth 100000 in
theorem indexF_any (A : Option Addr) (n c : Nat) (xs : List (Int × Int)) (a b : Int) (w : World) (hn : n ≤ 1000000000) (hl : xs.length = n) (h : Rd w w.heap.size 2 A n (cs2 xs)) :
    Calls Try.prog 82 #[.slice A n c, .agg #[.int .i64 a, .int .i64 b]] w fun e w' => ∃ r : Int, e = .returned (.int .i64 r) ∧ decide (0 ≤ r) = xs.any (isf a b) ∧ Below w.heap.size w w' := by
  go_enter Try.func82, Try.ntmps82
  go_wp2
  go_loopw [8] (fun i wr => ∃ k : Nat, i = .int .i64 k ∧ k ≤ n ∧ anyF a b xs k = false ∧ Blk wr w.heap.size 25 #[.int .i64 a, .int .i64 b] ∧ Below w.heap.size w wr) (fun i _ => n - (intOf i).toNat)
  case atStart => exact ⟨0, rfl, by omega, rfl, Blk.new _ _ _, by go_grown⟩
  case round =>
    obtain ⟨k, rfl, hk, hany, hblk, hbel⟩ := hrel
    obtain ⟨a1, _, a3, HB⟩ := hblk.after (Below.refl _ _) hblk.lt
    have x0 := a1 0
    have x1 := a1 1
    clear a1 hblk
    by_cases hlt : k < n
    · obtain ⟨bb, o, rfl, _, e1, e2⟩ := (h.below hbel).cell2 hl hlt
      have hs := anyF_succ (a := a) (b := b) (xs := xs) (k := k) (by omega)
      rw [hany, Bool.false_or] at hs
      have ht := anyF_true (a := a) (b := b) (xs := xs) (k := k) (by omega)
      generalize hf : xs[k]'(by omega) = f at *
      obtain ⟨u, v⟩ := f
      simp only at e1 e2
      have HS := hide hs
      have HT := hide ht
      have i1 : (k : Int) < (n : Int) := by omega
      clear hs ht h hany hf hl
      by_cases hu : u = a
      · by_cases hv : v = b
        · subst hu hv
          go_wp2_with fail
          go_quiet (fail)
          go_wp2_with fail
          go_ret
          exact ⟨k, rfl, by rw [HT.out (by simp [isf])]; simp, belowN hbel _⟩
        · have q1 : (b == v) = false := beq_eq_false_iff_ne.2 (fun h => hv h.symm)
          have q2 : ¬ b = v := fun h => hv h.symm
          subst hu
          go_wp2_with fail
          go_quiet (fail)
          go_wp2_with fail
          go_roundw
          case rel => exact ⟨k + 1, by go_num, by omega, by rw [HS.out]; simp [isf, hv], HB.out.drewN _, belowN hbel _⟩
          case measure => simp [intOf]; omega
      · have q1 : (a == u) = false := beq_eq_false_iff_ne.2 (fun h => hu h.symm)
        have q2 : ¬ a = u := fun h => hu h.symm
        go_wp2_with fail
        go_quiet (fail)
        go_wp2_with fail
        go_roundw
        case rel => exact ⟨k + 1, by go_num, by omega, by rw [HS.out]; simp [isf, hu], HB.out.drewN _, belowN hbel _⟩
        case measure => simp [intOf]; omega
    · have hkn : k = n := by omega
      subst hkn
      rw [← hl, anyF_all] at hany
      have HA := hide hany
      clear h hl hany
      go_wp2
      go_ret
      exact ⟨-1, rfl, by rw [HA.out]; rfl, hbel⟩

set_option maxRecDepth 100000 in
theorem containsF_any (v : Value) (B : Nat) (xs : List (Int × Int)) (a b : Int) (w : World) (h : LstF w B v xs) :
    Calls Try.prog 56 #[v, .agg #[.int .i64 a, .int .i64 b]] w fun e w' => e = .returned (.bool (xs.any (isf a b))) ∧ Below w.heap.size w w' := by
  obtain ⟨A, n, c, rfl, hn, hb, h⟩ := h
  have hr := LstF.rd hn h
  clear h
  have hI := fun w => indexF_any A n c xs a b w hb hn.symm
  clear hn
  generalize xs.any (isf a b) = res at *
  go_enter Try.func56, Try.ntmps56
  have HR : Hid (Rd (w.alloc (.cells #[.int .i64 a, .int .i64 b] 25)) (w.alloc (.cells #[.int .i64 a, .int .i64 b] 25)).heap.size 2 A n (cs2 xs)) := hide ((hr.below ((Below.refl w.heap.size w).alloc (Nat.le_refl _) _)).more (by simp))
  clear hr
  go_wp2_with fail
  refine (hI _ HR.out).mono ?_
  rintro e w1 ⟨r, rfl, hr, hb1⟩
  have HRR := hide hr
  have hB := bstep (show Below w.heap.size w _ by go_grown) hb1 (by simp)
  clear hr hI
  go_wp2_with fail
  go_ret
  exact ⟨by rw [← HRR.out]; rfl, hB⟩

def isb (p q a b : Int) : Bool := okF a b && (itx p q).any (isf a b)
def isc (p q a b : Int) : Int := if okF a b = true then itc p q else 1

set_option maxRecDepth 100000 in
theorem implIsIntermediate_any (p q a b : Int) (w : World) :
    Calls Try.prog 24 #[.agg #[.int .i64 p, .int .i64 q], .agg #[.int .i64 a, .int .i64 b]] w fun e w' => e = .returned (.tuple #[.bool (isb p q a b), .int .i64 (isc p q a b)]) ∧ Below w.heap.size w w' := by
  have hV := implValid_any a b
  have hI := implIntermediatesOf_any p q
  have hK := fun v B w => containsF_any v B (itx p q) a b w
  have hb0 : Below w.heap.size w ((w.alloc (.cells #[.int .i64 p, .int .i64 q] 25)).alloc (.cells #[.int .i64 a, .int .i64 b] 25)) := by go_grown
  have HB0 := hide hb0
  by_cases ho : okF a b = true
  · have e1 : isc p q a b = itc p q := by unfold isc; rw [if_pos ho]
    have e2 : isb p q a b = (itx p q).any (isf a b) := by unfold isb; rw [ho, Bool.true_and]
    rw [ho] at hV
    rw [e1, e2]
    clear e1 e2 hb0
    go_enter Try.func24, Try.ntmps24
    go_wp2_with fail
    refine (hV _).mono ?_
    rintro e w1 ⟨rfl, hb1⟩
    obtain ⟨a1, _, k3, HA⟩ := ((Blk.new w 25 #[.int .i64 p, .int .i64 q]).alloc (.cells #[.int .i64 a, .int .i64 b] 25)).after hb1 (by simp; omega)
    obtain ⟨b1, _, k4, HB⟩ := (Blk.newAt (w := w.alloc (.cells #[.int .i64 p, .int .i64 q] 25)) (g := w.heap.size + 1) (t := 25) (cs := #[.int .i64 a, .int .i64 b]) (by simp)).after hb1 (by simp)
    have x0 := a1 0
    have x1 := a1 1
    have hB := bstep HB0.out hb1 (by simp; omega)
    clear a1 b1 hb1 hV
    go_wp2_with fail
    refine (hI _).mono ?_
    rintro e w2 ⟨v, rfl, hl, hb2⟩
    obtain ⟨b1, _, _, _⟩ := HB.out.after hb2 k4
    have y0 := b1 0
    have y1 := b1 1
    have hB2 := bstep hB hb2 hB.size
    have HL := hide hl
    clear x0 x1 b1 hb2 hl
    go_wp2_with fail
    refine (hK _ _ _ HL.out).mono ?_
    rintro e w3 ⟨rfl, hb3⟩
    go_wp2_with fail
    go_returns
    exact ⟨rfl, bstep hB2 hb3 hB2.size⟩
  · have hf : okF a b = false := by simpa using ho
    have e1 : isc p q a b = 1 := by unfold isc; rw [if_neg ho]
    have e2 : isb p q a b = false := by unfold isb; rw [hf, Bool.false_and]
    rw [hf] at hV
    rw [e1, e2]
    clear e1 e2 hb0 ho hf
    go_enter Try.func24, Try.ntmps24
    go_wp2_with fail
    refine (hV _).mono ?_
    rintro e w1 ⟨rfl, hb1⟩
    have hB := bstep HB0.out hb1 (by simp; omega)
    go_wp2_with fail
    go_returns
    exact ⟨rfl, hB⟩

set_option maxRecDepth 100000 in
theorem specIsIntermediate_any (p q a b : Int) (w : World) :
    Calls Try.prog 25 #[.agg #[.int .i64 p, .int .i64 q], .agg #[.int .i64 a, .int .i64 b]] w fun e w' => e = .returned (.tuple #[.bool (isb p q a b), .int .i64 (isc p q a b)]) ∧ Below w.heap.size w w' := by
  have hV := l02Ok_any a b
  have hC := l19Code_any p q
  have hb0 : Below w.heap.size w ((w.alloc (.cells #[.int .i64 p, .int .i64 q] 25)).alloc (.cells #[.int .i64 a, .int .i64 b] 25)) := by go_grown
  have HB0 := hide hb0
  by_cases ho : okF a b = true
  · have e1 : isc p q a b = itc p q := by unfold isc; rw [if_pos ho]
    have e2 : isb p q a b = (itx p q).any (isf a b) := by unfold isb; rw [ho, Bool.true_and]
    rw [ho] at hV
    rw [e1, e2]
    clear e1 e2 hb0
    by_cases hi0 : itc p q = 0
    · obtain ⟨hop, ht⟩ := itc_ok hi0
      obtain ⟨o1, o2, _⟩ := okF_iff.1 hop
      obtain ⟨b', rfl⟩ : ∃ b' : Nat, q = b' := ⟨q.toNat, by omega⟩
      rw [Int.toNat_natCast] at ht
      have hx : itx p b' = inl p b' (terms p b').length := by unfold itx; rw [hi0]; rfl
      have hL := fun w => l19All_any p b' w hop ht
      rw [hi0] at hC
      rw [hi0, hx]
      generalize inl p b' (terms p b').length = xs at *
      clear hx hi0
      obtain ⟨res, hres⟩ : ∃ res, xs.any (isf a b) = res := ⟨_, rfl⟩
      rw [hres]
      have HRES := hide hres
      clear hres
      go_enter Try.func25, Try.ntmps25
      go_wp2_with fail
      refine (hV _).mono ?_
      rintro e w1 ⟨rfl, hb1⟩
      obtain ⟨a1, _, k3, HA⟩ := ((Blk.new w 25 #[.int .i64 p, .int .i64 b']).alloc (.cells #[.int .i64 a, .int .i64 b] 25)).after hb1 (by simp; omega)
      obtain ⟨b1, _, k4, HB⟩ := (Blk.newAt (w := w.alloc (.cells #[.int .i64 p, .int .i64 b'] 25)) (g := w.heap.size + 1) (t := 25) (cs := #[.int .i64 a, .int .i64 b]) (by simp)).after hb1 (by simp)
      have x0 := a1 0
      have x1 := a1 1
      have hB := bstep HB0.out hb1 (by simp; omega)
      clear a1 b1 hb1 hV
      go_wp2_with fail
      refine (hC _).mono ?_
      rintro e w2 ⟨rfl, hb2⟩
      obtain ⟨a1, _, k3, HA⟩ := HA.out.after hb2 k3
      obtain ⟨b1, _, k4, HB⟩ := HB.out.after hb2 k4
      clear x0 x1
      have x0 := a1 0
      have x1 := a1 1
      have hB2 := bstep hB hb2 hB.size
      clear a1 b1 hb2
      go_wp2_with fail
      refine (hL _).mono ?_
      rintro e w3 ⟨v, rfl, hl, hb3⟩
      obtain ⟨A, n, c, rfl, hn, hbn, hl⟩ := hl
      have hr := LstF.rd hn hl
      obtain ⟨b1, _, k4, HB⟩ := HB.out.after hb3 k4
      have hB3 := bstep hB2 hb3 hB2.size
      have HBn := hide HB.out
      have HN := hide hn
      clear x0 x1 b1 hb3 hl hL hn
      go_wp2_with fail
      go_loopw [8] (fun i wr => ∃ k : Nat, i = .int .i64 k ∧ k ≤ n ∧ anyF a b xs k = false ∧ Below w3.heap.size w3 wr) (fun i _ => n - (intOf i).toNat)
      case atStart => exact ⟨0, rfl, by omega, rfl, Below.refl _ _⟩
      case round =>
        obtain ⟨k, rfl, hk, hany, hbel⟩ := hrel
        obtain ⟨b1, _, _, _⟩ := HBn.out.after hbel k4
        have x0 := b1 0
        have x1 := b1 1
        clear b1
        have HBZ := hide (bstep hB3 hbel hB3.size)
        by_cases hlt : k < n
        · obtain ⟨bb, o, rfl, _, e1, e2⟩ := (hr.below hbel).cell2 HN.out.symm hlt
          have hkx : k < xs.length := by rw [← HN.out]; exact hlt
          have hs := anyF_succ (a := a) (b := b) (xs := xs) (k := k) hkx
          rw [hany, Bool.false_or] at hs
          have ht := anyF_true (a := a) (b := b) (xs := xs) (k := k) hkx
          generalize hf : xs[k]'hkx = f at *
          obtain ⟨u, v⟩ := f
          simp only at e1 e2
          have HS := hide hs
          have HT := hide ht
          have i1 : (k : Int) < (n : Int) := by omega
          clear hs ht hr hany hf
          by_cases hu : u = a
          · by_cases hv : v = b
            · subst hu hv
              go_wp2_with fail
              go_quiet (fail)
              go_wp2_with fail
              go_returns
              exact ⟨by rw [← HRES.out, HT.out (by simp [isf])]; rfl, belowN HBZ.out _⟩
            · have q1 : (v == b) = false := beq_eq_false_iff_ne.2 hv
              subst hu
              go_wp2_with fail
              go_quiet (fail)
              go_wp2_with fail
              go_roundw
              case rel => exact ⟨k + 1, by go_num, by omega, by rw [HS.out]; simp [isf, hv], belowN hbel _⟩
              case measure => simp [intOf]; omega
          · have q1 : (u == a) = false := beq_eq_false_iff_ne.2 hu
            go_wp2_with fail
            go_quiet (fail)
            go_wp2_with fail
            go_roundw
            case rel => exact ⟨k + 1, by go_num, by omega, by rw [HS.out]; simp [isf, hu], belowN hbel _⟩
            case measure => simp [intOf]; omega
        · have hkn : k = n := by omega
          subst hkn
          have hkk := HN.out
          rw [hkk, anyF_all, HRES.out] at hany
          have HA2 := hide hany
          clear hr hany hkk
          go_wp2
          go_returns
          exact ⟨by rw [HA2.out]; rfl, HBZ.out⟩
    · have hx : itx p q = [] := by unfold itx; rw [if_neg hi0]
      rw [hx]
      generalize itc p q = c at *
      have hb : (c != 0) = true := by simp [hi0]
      clear hx
      go_enter Try.func25, Try.ntmps25
      go_wp2_with fail
      refine (hV _).mono ?_
      rintro e w1 ⟨rfl, hb1⟩
      obtain ⟨a1, _, k3, HA⟩ := ((Blk.new w 25 #[.int .i64 p, .int .i64 q]).alloc (.cells #[.int .i64 a, .int .i64 b] 25)).after hb1 (by simp; omega)
      have x0 := a1 0
      have x1 := a1 1
      have hB := bstep HB0.out hb1 (by simp; omega)
      clear a1 hb1 hV
      go_wp2_with fail
      refine (hC _).mono ?_
      rintro e w2 ⟨rfl, hb2⟩
      have hB2 := bstep hB hb2 hB.size
      go_wp2_with fail
      go_returns
      exact ⟨rfl, hB2⟩
  · have hf : okF a b = false := by simpa using ho
    have e1 : isc p q a b = 1 := by unfold isc; rw [if_neg ho]
    have e2 : isb p q a b = false := by unfold isb; rw [hf, Bool.false_and]
    rw [hf] at hV
    rw [e1, e2]
    clear e1 e2 hb0 ho hf
    go_enter Try.func25, Try.ntmps25
    go_wp2_with fail
    refine (hV _).mono ?_
    rintro e w1 ⟨rfl, hb1⟩
    have hB := bstep HB0.out hb1 (by simp; omega)
    go_wp2_with fail
    go_returns
    exact ⟨rfl, hB⟩

end Go.Proofs.Ytnjilpldfidbjaa
