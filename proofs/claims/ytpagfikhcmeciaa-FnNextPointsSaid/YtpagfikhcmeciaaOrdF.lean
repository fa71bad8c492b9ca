/- EndsOfMultiples, NextMultiple, FallsInto: the program's and the reference's walks. -/
import Derived.Test.YtpagfikhcmeciaaOrdE
namespace Go.Proofs.Ytpagfikhcmeciaa
open Go.RowKit

def emc (p q c : Int) : Int := if gpc p q c = 0 then (if c < 2 then 3 else 0) else gpc p q c
def ema (p q c : Int) : Int := if emc p q c = 0 then (ord (rst p q) c.toNat).getD 1 0 else 0
def emb (p q c : Int) : Int := if emc p q c = 0 then (ord (rst p q) c.toNat).getD (c.toNat - 1) 0 else 0
def nmc (p q c k : Int) : Int := if gpc p q c = 0 then (if 0 ≤ k ∧ k ≤ c - 1 then 0 else 3) else gpc p q c
def nmv (p q c k : Int) : Int := if nmc p q c k = 0 then (ord (rst p q) c.toNat).getD (((ord (rst p q) c.toNat).idxOf k + 1) % c.toNat) 0 else 0
def fic (p q c : Int) : Int := if gpc p q c = 0 then (if c = q then 3 else 0) else gpc p q c
def fip (p q c : Int) : Nat := insK (rst p q) (ord (rst p q) c.toNat) c c.toNat
def fiv (p q c : Int) : Int := if fic p q c = 0 then (ord (rst p q) c.toNat).getD (fip p q c - 1) 0 else 0

/-- What slices.Index hands back: the first place of a number, or -1. -/
def Idx (L : List Int) (x r : Int) : Prop := (r = -1 ∧ x ∉ L) ∨ ∃ i : Nat, i < L.length ∧ r = i ∧ L.getD i 0 = x
theorem idx_at {L : List Int} {i : Nat} {x : Int} (hn : L.Nodup) (hi : i < L.length) (h : L.getD i 0 = x) : L.idxOf x = i := by
  rw [getD_getElem hi] at h
  subst h
  exact hn.idxOf_getElem i hi

theorem index_any (A : Option Addr) (n c : Nat) (L : List Int) (x : Int) (w : World) (hn : n ≤ 1000000000) (hl : L.length = n) (h : Rd w w.heap.size 1 A n (il L)) :
    Calls Try.prog 56 #[.slice A n c, .int .i64 x] w fun e w' => ∃ r : Int, e = .returned (.int .i64 r) ∧ Idx L x r ∧ w = w' := by
  go_enter Try.func56, Try.ntmps56
  go_wp2
  go_loopw [8] (fun i wr => ∃ k : Nat, i = .int .i64 k ∧ k ≤ n ∧ x ∉ L.take k ∧ wr = w) (fun i _ => n - (intOf i).toNat)
  case atStart => exact ⟨0, rfl, by omega, by simp, rfl⟩
  case round =>
    obtain ⟨k, rfl, hk, hx, rfl⟩ := hrel
    by_cases hlt : k < n
    · obtain ⟨b, o, rfl, _, hc⟩ := h.2 (by omega)
      have e1 := hc k _ (il_getD (zs := L) (i := k) (by omega))
      have hs : x ≠ L.getD k 0 → x ∉ L.take (k + 1) := by
        intro hne
        rw [List.take_succ_eq_append_getElem (by omega), ← getD_getElem (by omega), List.mem_append, List.mem_singleton]
        exact fun h => h.elim hx hne
      have hi : Idx L (L.getD k 0) k := .inr ⟨k, by omega, rfl, rfl⟩
      generalize L.getD k 0 = y at *
      have HS := hide hs
      have i1 : (k : Int) < (n : Int) := by omega
      by_cases hxy : x = y
      · subst hxy
        have HI := hide hi
        clear hs hi h hx hl hc
        go_wp2
        go_ret
        exact ⟨_, rfl, HI.out, rfl⟩
      · have q1 : (x == y) = false := beq_eq_false_iff_ne.2 hxy
        clear hs hi h hx hl hc
        go_wp2
        go_roundw
        case rel => exact ⟨k + 1, by go_num, by omega, HS.out hxy, trivial⟩
        case measure => simp [intOf]; omega
    · have hkn : k = n := by omega
      have hi : Idx L x (-1) := .inl ⟨rfl, by rw [List.take_of_length_le (by omega)] at hx; exact hx⟩
      have HI := hide hi
      clear h hx hl hi
      go_wp2
      go_ret
      exact ⟨_, rfl, HI.out, rfl⟩

set_option maxRecDepth 100000 in
theorem implEndsOfMultiples_any (p q c : Int) (w : World) :
    Calls Try.prog 24 #[.agg #[.int .i64 p, .int .i64 q], .int .i64 c] w fun e w' => e = .returned (.tuple #[.int .i64 (ema p q c), .int .i64 (emb p q c), .int .i64 (emc p q c)]) ∧ Below w.heap.size w w' := by
  have hC := checkPoints_any p q c
  by_cases h0 : gpc p q c = 0
  · obtain ⟨ho, hc, hcq⟩ := gpc_ok h0
    by_cases h2 : c < 2
    · have e0 : emc p q c = 3 := by unfold emc; rw [if_pos h0, if_pos h2]
      have HR := hide (show (ema p q c = 0 ∧ emb p q c = 0) ∧ emc p q c = 3 by unfold ema emb; rw [e0]; simp)
      have hc1 : (c == 1) = true := by have : c = 1 := by omega
                                       subst this; rfl
      rw [h0] at hC
      clear e0
      go_enter Try.func24, Try.ntmps24
      go_wp2_with fail
      refine (hC _).mono ?_
      rintro e w1 ⟨rfl, hb1⟩
      obtain ⟨a1, _, k3, _⟩ := (Blk.new w 25 #[.int .i64 p, .int .i64 q]).after hb1 (by simp)
      have x0 := a1 0
      have x1 := a1 1
      have hB := bstep (show Below w.heap.size w _ by go_grown) hb1 (by simp)
      clear a1 hb1
      go_wp2_with fail
      go_returns
      exact ⟨by rw [HR.out.1.1, HR.out.1.2, HR.out.2]; rfl, hB⟩
    · obtain ⟨m, rfl⟩ : ∃ m : Nat, c = ((m + 2 : Nat) : Int) := ⟨(c - 2).toNat, by omega⟩
      have e0 : emc p q ((m + 2 : Nat) : Int) = 0 := by unfold emc; rw [if_pos h0, if_neg h2]
      have HR := hide (show (ema p q ((m + 2 : Nat) : Int) = (ord (rst p q) (m + 2)).getD 1 0 ∧ emb p q ((m + 2 : Nat) : Int) = (ord (rst p q) (m + 2)).getD (m + 1) 0) ∧ emc p q ((m + 2 : Nat) : Int) = 0 by unfold ema emb; rw [e0, if_pos rfl, if_pos rfl, Int.toNat_natCast]; exact ⟨⟨rfl, rfl⟩, rfl⟩)
      have hL := fun w => implOrd_any p q (m + 2) w ho ⟨by omega, by omega⟩ hcq
      have hl := ord_len (rst p q) (m + 2)
      generalize ord (rst p q) (m + 2) = O at *
      rw [h0] at hC
      obtain ⟨c, hcc⟩ : ∃ c : Int, c = ((m + 2 : Nat) : Int) := ⟨_, rfl⟩
      have hcm : c = (m : Int) + 2 := by omega
      rw [← hcc] at hC hL HR ⊢
      have hc1 : (c == 1) = false := beq_eq_false_iff_ne.2 (by omega)
      have hc2 : decide (c < 2) = false := decide_eq_false (by omega)
      have hs1 : c - 1 = (m : Int) + 1 := by omega
      have hs2 : IntKind.i64.wrap (c - 1) = (m : Int) + 1 := by rw [IntWalk.i64_in _ (by omega)]; omega
      have hs3 : IntKind.i64.wrap ((m : Int) + 1) = (m : Int) + 1 := IntWalk.i64_in _ (by omega)
      have HCM := hide hcm
      clear e0 h0 hcc h2 ho hcm hcq hc
      go_enter Try.func24, Try.ntmps24
      go_wp2_with fail
      refine (hC _).mono ?_
      rintro e w1 ⟨rfl, hb1⟩
      obtain ⟨a1, _, k3, _⟩ := (Blk.new w 25 #[.int .i64 p, .int .i64 q]).after hb1 (by simp)
      have x0 := a1 0
      have x1 := a1 1
      have hB := bstep (show Below w.heap.size w _ by go_grown) hb1 (by simp)
      clear a1 hb1
      go_wp2_with fail
      refine (hL _).mono ?_
      rintro e w2 ⟨g, cap, rfl, hg, hr, hb2⟩
      have y1 := hr.cell (il_getD (zs := O) (i := 1) (by omega))
      have y2 := hr.cell (il_getD (zs := O) (i := m + 1) (by omega))
      have hB2 := bstep hB hb2 hB.size
      generalize O.getD 1 0 = u at *
      generalize O.getD (m + 1) 0 = v at *
      clear hr hl
      have n1 : (1 : Int) < ((m + 2 : Nat) : Int) := by omega
      have n2 : (m : Int) + 1 < ((m + 2 : Nat) : Int) := by omega
      have n3 : m + 1 < m + 2 := by omega
      have n4 : 1 < m + 2 := by omega
      have n5 : (m : Int) + 1 < (m : Int) + 2 := by omega
      have n6 : (1 : Int) < (m : Int) + 2 := by omega
      have n8 : (m : Int) + 2 - 1 = (m : Int) + 1 := by omega
      clear hc1 hc2
      go_wp2_with fail
      go_quiet (fail)
      go_wp2_with fail
      go_returns
      exact ⟨by rw [HR.out.1.1, HR.out.1.2, HR.out.2]; rfl, belowN hB2 _⟩
  · have HR := hide (show (ema p q c = 0 ∧ emb p q c = 0) ∧ emc p q c = gpc p q c by unfold ema emb emc; rw [if_neg h0, if_neg h0, if_neg h0]; exact ⟨⟨rfl, rfl⟩, rfl⟩)
    generalize gpc p q c = d at *
    have hb : (d != 0) = true := by simp [h0]
    have hb' : (d == 0) = false := by simp [h0]
    go_enter Try.func24, Try.ntmps24
    go_wp2_with fail
    refine (hC _).mono ?_
    rintro e w1 ⟨rfl, hb1⟩
    obtain ⟨a1, _, k3, _⟩ := (Blk.new w 25 #[.int .i64 p, .int .i64 q]).after hb1 (by simp)
    have x0 := a1 0
    have x1 := a1 1
    have hB := bstep (show Below w.heap.size w _ by go_grown) hb1 (by simp)
    clear a1 hb1
    go_wp2_with fail
    go_returns
    exact ⟨by rw [HR.out.1.1, HR.out.1.2, HR.out.2]; rfl, hB⟩

set_option maxRecDepth 100000 in
theorem specEndsOfMultiples_any (p q c : Int) (w : World) :
    Calls Try.prog 25 #[.agg #[.int .i64 p, .int .i64 q], .int .i64 c] w fun e w' => e = .returned (.tuple #[.int .i64 (ema p q c), .int .i64 (emb p q c), .int .i64 (emc p q c)]) ∧ Below w.heap.size w w' := by
  have hC := l20Code_any p q c
  by_cases h0 : gpc p q c = 0
  · obtain ⟨ho, hc, hcq⟩ := gpc_ok h0
    by_cases h2 : c < 2
    · have e0 : emc p q c = 3 := by unfold emc; rw [if_pos h0, if_pos h2]
      have HR := hide (show (ema p q c = 0 ∧ emb p q c = 0) ∧ emc p q c = 3 by unfold ema emb; rw [e0]; simp)
      have hc1 : (c == 1) = true := by have : c = 1 := by omega
                                       subst this; rfl
      rw [h0] at hC
      clear e0
      go_enter Try.func25, Try.ntmps25
      go_wp2_with fail
      refine (hC _).mono ?_
      rintro e w1 ⟨rfl, hb1⟩
      obtain ⟨a1, _, k3, _⟩ := (Blk.new w 25 #[.int .i64 p, .int .i64 q]).after hb1 (by simp)
      have x0 := a1 0
      have x1 := a1 1
      have hB := bstep (show Below w.heap.size w _ by go_grown) hb1 (by simp)
      clear a1 hb1
      go_wp2_with fail
      go_returns
      exact ⟨by rw [HR.out.1.1, HR.out.1.2, HR.out.2]; rfl, hB⟩
    · obtain ⟨m, rfl⟩ : ∃ m : Nat, c = ((m + 2 : Nat) : Int) := ⟨(c - 2).toNat, by omega⟩
      have e0 : emc p q ((m + 2 : Nat) : Int) = 0 := by unfold emc; rw [if_pos h0, if_neg h2]
      have HR := hide (show (ema p q ((m + 2 : Nat) : Int) = (ord (rst p q) (m + 2)).getD 1 0 ∧ emb p q ((m + 2 : Nat) : Int) = (ord (rst p q) (m + 2)).getD (m + 1) 0) ∧ emc p q ((m + 2 : Nat) : Int) = 0 by unfold ema emb; rw [e0, if_pos rfl, if_pos rfl, Int.toNat_natCast]; exact ⟨⟨rfl, rfl⟩, rfl⟩)
      have hL := fun w => specOrd_any p q (m + 2) w ho (by omega)
      have hl := ord_len (rst p q) (m + 2)
      generalize ord (rst p q) (m + 2) = O at *
      rw [h0] at hC
      obtain ⟨c, hcc⟩ : ∃ c : Int, c = ((m + 2 : Nat) : Int) := ⟨_, rfl⟩
      have hcm : c = (m : Int) + 2 := by omega
      rw [← hcc] at hC hL HR ⊢
      have hc1 : (c == 1) = false := beq_eq_false_iff_ne.2 (by omega)
      have hc2 : decide (c < 2) = false := decide_eq_false (by omega)
      have hs1 : c - 1 = (m : Int) + 1 := by omega
      have hs2 : IntKind.i64.wrap (c - 1) = (m : Int) + 1 := by rw [IntWalk.i64_in _ (by omega)]; omega
      have hs3 : IntKind.i64.wrap ((m : Int) + 1) = (m : Int) + 1 := IntWalk.i64_in _ (by omega)
      have HCM := hide hcm
      clear e0 h0 hcc h2 ho hcm hcq hc
      go_enter Try.func25, Try.ntmps25
      go_wp2_with fail
      refine (hC _).mono ?_
      rintro e w1 ⟨rfl, hb1⟩
      obtain ⟨a1, _, k3, _⟩ := (Blk.new w 25 #[.int .i64 p, .int .i64 q]).after hb1 (by simp)
      have x0 := a1 0
      have x1 := a1 1
      have hB := bstep (show Below w.heap.size w _ by go_grown) hb1 (by simp)
      clear a1 hb1
      go_wp2_with fail
      refine (hL _).mono ?_
      rintro e w2 ⟨g, cap, rfl, hg, hr, hb2⟩
      have y1 := hr.cell (il_getD (zs := O) (i := 1) (by omega))
      have y2 := hr.cell (il_getD (zs := O) (i := m + 1) (by omega))
      have hB2 := bstep hB hb2 hB.size
      generalize O.getD 1 0 = u at *
      generalize O.getD (m + 1) 0 = v at *
      clear hr hl
      have n1 : (1 : Int) < ((m + 2 : Nat) : Int) := by omega
      have n2 : (m : Int) + 1 < ((m + 2 : Nat) : Int) := by omega
      have n3 : m + 1 < m + 2 := by omega
      have n4 : 1 < m + 2 := by omega
      have n5 : (m : Int) + 1 < (m : Int) + 2 := by omega
      have n6 : (1 : Int) < (m : Int) + 2 := by omega
      have n8 : (m : Int) + 2 - 1 = (m : Int) + 1 := by omega
      clear hc1 hc2
      go_wp2_with fail
      go_quiet (fail)
      go_wp2_with fail
      go_returns
      exact ⟨by rw [HR.out.1.1, HR.out.1.2, HR.out.2]; rfl, belowN hB2 _⟩
  · have HR := hide (show (ema p q c = 0 ∧ emb p q c = 0) ∧ emc p q c = gpc p q c by unfold ema emb emc; rw [if_neg h0, if_neg h0, if_neg h0]; exact ⟨⟨rfl, rfl⟩, rfl⟩)
    generalize gpc p q c = d at *
    have hb : (d != 0) = true := by simp [h0]
    have hb' : (d == 0) = false := by simp [h0]
    go_enter Try.func25, Try.ntmps25
    go_wp2_with fail
    refine (hC _).mono ?_
    rintro e w1 ⟨rfl, hb1⟩
    obtain ⟨a1, _, k3, _⟩ := (Blk.new w 25 #[.int .i64 p, .int .i64 q]).after hb1 (by simp)
    have x0 := a1 0
    have x1 := a1 1
    have hB := bstep (show Below w.heap.size w _ by go_grown) hb1 (by simp)
    clear a1 hb1
    go_wp2_with fail
    go_returns
    exact ⟨by rw [HR.out.1.1, HR.out.1.2, HR.out.2]; rfl, hB⟩

set_option maxRecDepth 100000 in
theorem implNextMultiple_any (p q c k : Int) (w : World) :
    Calls Try.prog 27 #[.agg #[.int .i64 p, .int .i64 q], .int .i64 c, .int .i64 k] w fun e w' => e = .returned (.tuple #[.int .i64 (nmv p q c k), .int .i64 (nmc p q c k)]) ∧ Below w.heap.size w w' := by
  have hC := checkPoints_any p q c
  by_cases h0 : gpc p q c = 0
  · obtain ⟨ho, hc, hcq⟩ := gpc_ok h0
    obtain ⟨m, rfl⟩ : ∃ m : Nat, c = m := ⟨c.toNat, by omega⟩
    have hL := fun w => implOrd_any p q m w ho ⟨by omega, by omega⟩ hcq
    have hnd := ord_nodup (rst p q) m
    have hm := fun x => mem_ord (r := rst p q) (n := m) (x := x)
    have hl := ord_len (rst p q) m
    have eV : nmv p q m k = if nmc p q m k = 0 then (ord (rst p q) m).getD (((ord (rst p q) m).idxOf k + 1) % m) 0 else 0 := by unfold nmv; rw [Int.toNat_natCast]
    have eC : nmc p q m k = if 0 ≤ k ∧ k ≤ m - 1 then 0 else 3 := by unfold nmc; rw [if_pos h0]
    generalize ord (rst p q) m = O at *
    rw [h0] at hC
    clear h0 ho hcq
    by_cases hk : 0 ≤ k ∧ k ≤ (m : Int) - 1
    · rw [if_pos hk] at eC
      rw [eC, if_pos rfl] at eV
      obtain ⟨i, hi, hik⟩ := List.mem_iff_getElem.1 ((hm k).2 (by omega))
      rw [← getD_getElem hi] at hik
      rw [idx_at hnd hi hik] at eV
      have ht : (i + 1) % m < m := Nat.mod_lt _ (by omega)
      have ht2 : ((i : Int) + 1).tmod (m : Int) = (((i + 1) % m : Nat) : Int) := by rw [Int.tmod_eq_emod_of_nonneg (by omega), Int.natCast_emod]; simp
      obtain ⟨t, htt⟩ : ∃ t, (i + 1) % m = t := ⟨_, rfl⟩
      rw [htt] at eV ht ht2
      have HR := hide (show nmv p q m k = O.getD t 0 ∧ nmc p q m k = 0 from ⟨eV, eC⟩)
      have m0 : ¬ (m : Int) = 0 := by omega
      have s1 : IntKind.i64.wrap ((i : Int) + 1) = (i : Int) + 1 := IntWalk.i64_in _ (by omega)
      have s2 : IntKind.i64.wrap (t : Int) = (t : Int) := IntWalk.i64_in _ (by omega)
      have e1 := inB_of hk
      have HT := hide htt
      clear eV eC htt
      go_enter Try.func27, Try.ntmps27
      go_wp2_with fail
      refine (hC _).mono ?_
      rintro e w1 ⟨rfl, hb1⟩
      obtain ⟨a1, _, k3, _⟩ := (Blk.new w 25 #[.int .i64 p, .int .i64 q]).after hb1 (by simp)
      have x0 := a1 0
      have x1 := a1 1
      have hB := bstep (show Below w.heap.size w _ by go_grown) hb1 (by simp)
      clear a1 hb1
      go_wp2_with fail
      refine (hL _).mono ?_
      rintro e w2 ⟨g, cap, rfl, hg, hr, hb2⟩
      have hB2 := bstep hB hb2 hB.size
      have y1 := hr.cell (il_getD (zs := O) (i := t) (by omega))
      have hX := index_any (some ⟨g, 0, none⟩) m cap O k w2 (by omega) hl hr.rd
      go_wp2_with fail
      refine hX.mono ?_
      rintro e w3 ⟨r, rfl, hr3, rfl⟩
      have hri : r = (i : Int) := by
        rcases hr3 with ⟨_, hno⟩ | ⟨j, hj, rfl, hjk⟩
        · exact absurd ((hm k).2 (by omega)) hno
        · have := idx_at hnd hj hjk
          have := idx_at hnd hi hik
          omega
      subst hri
      generalize O.getD t 0 = v at *
      have n1 : (t : Int) < (m : Int) := by omega
      clear hr hX hr3 hL hm hnd hk hi hik hl
      go_wp2_with fail
      go_returns
      exact ⟨by rw [HR.out.1, HR.out.2]; rfl, hB2⟩
    · rw [if_neg hk] at eC
      rw [eC, if_neg (by decide)] at eV
      have HR := hide (show nmv p q m k = 0 ∧ nmc p q m k = 3 from ⟨eV, eC⟩)
      clear eV eC
      go_enter Try.func27, Try.ntmps27
      go_wp2_with fail
      refine (hC _).mono ?_
      rintro e w1 ⟨rfl, hb1⟩
      obtain ⟨a1, _, k3, _⟩ := (Blk.new w 25 #[.int .i64 p, .int .i64 q]).after hb1 (by simp)
      have x0 := a1 0
      have x1 := a1 1
      have hB := bstep (show Below w.heap.size w _ by go_grown) hb1 (by simp)
      clear a1 hb1
      go_wp2_with fail
      refine (hL _).mono ?_
      rintro e w2 ⟨g, cap, rfl, hg, hr, hb2⟩
      have hB2 := bstep hB hb2 hB.size
      have hX := index_any (some ⟨g, 0, none⟩) m cap O k w2 (by omega) hl hr.rd
      go_wp2_with fail
      refine hX.mono ?_
      rintro e w3 ⟨r, rfl, hr3, rfl⟩
      have hri : r = -1 := by
        rcases hr3 with ⟨h, _⟩ | ⟨j, hj, rfl, hjk⟩
        · exact h
        · exfalso
          have := (hm k).1 (by rw [← hjk]; exact getD_mem hj)
          omega
      subst hri
      clear hr hX hr3 hL hm hnd hk hl
      go_wp2_with fail
      go_returns
      exact ⟨by rw [HR.out.1, HR.out.2]; rfl, hB2⟩
  · have HR := hide (show nmv p q c k = 0 ∧ nmc p q c k = gpc p q c by unfold nmv nmc; rw [if_neg h0, if_neg h0]; exact ⟨rfl, rfl⟩)
    generalize gpc p q c = d at *
    have hb : (d != 0) = true := by simp [h0]
    have hb' : (d == 0) = false := by simp [h0]
    go_enter Try.func27, Try.ntmps27
    go_wp2_with fail
    refine (hC _).mono ?_
    rintro e w1 ⟨rfl, hb1⟩
    obtain ⟨a1, _, k3, _⟩ := (Blk.new w 25 #[.int .i64 p, .int .i64 q]).after hb1 (by simp)
    have x0 := a1 0
    have x1 := a1 1
    have hB := bstep (show Below w.heap.size w _ by go_grown) hb1 (by simp)
    clear a1 hb1
    go_wp2_with fail
    go_returns
    exact ⟨by rw [HR.out.1, HR.out.2]; rfl, hB⟩

set_option maxRecDepth 100000 in
theorem specNextMultiple_any (p q c k : Int) (w : World) :
    Calls Try.prog 28 #[.agg #[.int .i64 p, .int .i64 q], .int .i64 c, .int .i64 k] w fun e w' => e = .returned (.tuple #[.int .i64 (nmv p q c k), .int .i64 (nmc p q c k)]) ∧ Below w.heap.size w w' := by
  have hC := l20Code_any p q c
  by_cases h0 : gpc p q c = 0
  · obtain ⟨ho, hc, hcq⟩ := gpc_ok h0
    obtain ⟨m, rfl⟩ : ∃ m : Nat, c = m := ⟨c.toNat, by omega⟩
    have hL := fun w => specOrd_any p q m w ho (by omega)
    have hnd := ord_nodup (rst p q) m
    have hm := fun x => mem_ord (r := rst p q) (n := m) (x := x)
    have hl := ord_len (rst p q) m
    have eV : nmv p q m k = if nmc p q m k = 0 then (ord (rst p q) m).getD (((ord (rst p q) m).idxOf k + 1) % m) 0 else 0 := by unfold nmv; rw [Int.toNat_natCast]
    have eC : nmc p q m k = if 0 ≤ k ∧ k ≤ m - 1 then 0 else 3 := by unfold nmc; rw [if_pos h0]
    generalize ord (rst p q) m = O at *
    rw [h0] at hC
    clear h0 ho hcq
    by_cases hk : 0 ≤ k ∧ k ≤ (m : Int) - 1
    · rw [if_pos hk] at eC
      rw [eC, if_pos rfl] at eV
      obtain ⟨i, hi, hik⟩ := List.mem_iff_getElem.1 ((hm k).2 (by omega))
      rw [← getD_getElem hi] at hik
      rw [idx_at hnd hi hik] at eV
      have ht : (i + 1) % m < m := Nat.mod_lt _ (by omega)
      have ht2 : ((i : Int) + 1).tmod (m : Int) = (((i + 1) % m : Nat) : Int) := by rw [Int.tmod_eq_emod_of_nonneg (by omega), Int.natCast_emod]; simp
      obtain ⟨t, htt⟩ : ∃ t, (i + 1) % m = t := ⟨_, rfl⟩
      rw [htt] at eV ht ht2
      have HR := hide (show nmv p q m k = O.getD t 0 ∧ nmc p q m k = 0 from ⟨eV, eC⟩)
      have m0 : ¬ (m : Int) = 0 := by omega
      have s1 : IntKind.i64.wrap ((i : Int) + 1) = (i : Int) + 1 := IntWalk.i64_in _ (by omega)
      have s2 : IntKind.i64.wrap (t : Int) = (t : Int) := IntWalk.i64_in _ (by omega)
      have e1 := inB_of hk
      have HT := hide htt
      clear eV eC htt
      have q1 : ∀ w', Calls Try.prog 53 #[.int .i64 k, .int .i64 0, .int .i64 ((m : Int) - 1)] w' fun e w'' => e = .returned (.bool true) ∧ w' = w'' := fun w' => by have := l00In_any k 0 ((m : Int) - 1) w'; rwa [e1] at this
      go_enter Try.func28, Try.ntmps28
      go_wp2_with fail
      refine (hC _).mono ?_
      rintro e w1 ⟨rfl, hb1⟩
      obtain ⟨a1, _, k3, _⟩ := (Blk.new w 25 #[.int .i64 p, .int .i64 q]).after hb1 (by simp)
      have x0 := a1 0
      have x1 := a1 1
      have hB := bstep (show Below w.heap.size w _ by go_grown) hb1 (by simp)
      clear a1 hb1
      go_wp2_with fail
      refine (q1 _).mono ?_
      rintro e w2 ⟨rfl, rfl⟩
      go_wp2_with fail
      refine (hL _).mono ?_
      rintro e w2 ⟨g, cap, rfl, hg, hr, hb2⟩
      have hB2 := bstep hB hb2 hB.size
      have y1 := hr.cell (il_getD (zs := O) (i := t) (by omega))
      have hne : ∀ j, j < i → O.getD j 0 ≠ k := by
        intro j hj h
        have := idx_at hnd (show j < O.length by omega) h
        have := idx_at hnd hi hik
        omega
      generalize hv : O.getD t 0 = v at *
      have HV := hide hv
      have HR2 := hide hr
      have HNE := hide hne
      rw [hl] at hi
      clear hr hL hm hnd hk hv hne q1 e1
      go_wp2_with fail
      go_loopw [10] (fun kk wr => ∃ j : Nat, kk = .int .i64 j ∧ j ≤ i ∧ wr = w2) (fun kk _ => m - (intOf kk).toNat)
      case atStart => exact ⟨0, rfl, by omega, rfl⟩
      case round =>
        obtain ⟨j, rfl, hj, rfl⟩ := hrel
        have y2 := HR2.out.cell (il_getD (zs := O) (i := j) (by omega))
        have n1 : (t : Int) < (m : Int) := by omega
        have n2 : (j : Int) < (m : Int) := by omega
        by_cases hji : j < i
        · have hne := HNE.out j hji
          generalize O.getD j 0 = x at *
          have q1 : (x == k) = false := beq_eq_false_iff_ne.2 hne
          have HHL := hide hl
          clear hik hl
          go_wp2_with fail
          go_roundw
          case rel => exact ⟨j + 1, by go_num, by omega, trivial⟩
          case measure => simp [intOf]; omega
        · have : j = i := by omega
          subst this
          rw [hik] at y2
          have q1 : (k == k) = true := beq_self_eq_true k
          clear hik hl
          go_wp2_with fail
          go_returns
          exact ⟨by rw [HR.out.1, HR.out.2]; rfl, hB2⟩
    · rw [if_neg hk] at eC
      rw [eC, if_neg (by decide)] at eV
      have HR := hide (show nmv p q m k = 0 ∧ nmc p q m k = 3 from ⟨eV, eC⟩)
      have e1 := inB_no hk
      have q1 : ∀ w', Calls Try.prog 53 #[.int .i64 k, .int .i64 0, .int .i64 ((m : Int) - 1)] w' fun e w'' => e = .returned (.bool false) ∧ w' = w'' := fun w' => by have := l00In_any k 0 ((m : Int) - 1) w'; rwa [e1] at this
      clear eV eC
      go_enter Try.func28, Try.ntmps28
      go_wp2_with fail
      refine (hC _).mono ?_
      rintro e w1 ⟨rfl, hb1⟩
      obtain ⟨a1, _, k3, _⟩ := (Blk.new w 25 #[.int .i64 p, .int .i64 q]).after hb1 (by simp)
      have x0 := a1 0
      have x1 := a1 1
      have hB := bstep (show Below w.heap.size w _ by go_grown) hb1 (by simp)
      clear a1 hb1
      go_wp2_with fail
      refine (q1 _).mono ?_
      rintro e w2 ⟨rfl, rfl⟩
      go_wp2_with fail
      go_returns
      exact ⟨by rw [HR.out.1, HR.out.2]; rfl, hB⟩
  · have HR := hide (show nmv p q c k = 0 ∧ nmc p q c k = gpc p q c by unfold nmv nmc; rw [if_neg h0, if_neg h0]; exact ⟨rfl, rfl⟩)
    generalize gpc p q c = d at *
    have hb : (d != 0) = true := by simp [h0]
    have hb' : (d == 0) = false := by simp [h0]
    go_enter Try.func28, Try.ntmps28
    go_wp2_with fail
    refine (hC _).mono ?_
    rintro e w1 ⟨rfl, hb1⟩
    obtain ⟨a1, _, k3, _⟩ := (Blk.new w 25 #[.int .i64 p, .int .i64 q]).after hb1 (by simp)
    have x0 := a1 0
    have x1 := a1 1
    have hB := bstep (show Below w.heap.size w _ by go_grown) hb1 (by simp)
    clear a1 hb1
    go_wp2_with fail
    go_returns
    exact ⟨by rw [HR.out.1, HR.out.2]; rfl, hB⟩

end Go.Proofs.Ytpagfikhcmeciaa
