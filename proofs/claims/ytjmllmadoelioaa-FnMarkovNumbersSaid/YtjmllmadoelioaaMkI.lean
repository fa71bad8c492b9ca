/- IsMarkov, LagrangeSquare: the program's and the reference's walks, and the laws'. -/
import Derived.Test.YtjmllmadoelioaaMkN
import Derived.Test.YtjmllmadoelioaaMkO
import Derived.Test.YtjmllmadoelioaaIdx
import Derived.Test.YtjmllmadoelioaaFrP
import Derived.Test.YtjmllmadoelioaaEqF
namespace Go.Proofs.Ytjmllmadoelioaa
open Go.RowKit

theorem contains_any (A : Option Addr) (n c : Nat) (L : List Int) (x : Int) (w : World) (hn : n ≤ 1000000000) (hl : L.length = n) (h : Rd w w.heap.size 1 A n (il L)) :
    Calls Try.prog 46 #[.slice A n c, .int .i64 x] w fun e w' => e = .returned (.bool (decide (x ∈ L))) ∧ w = w' := by
  have hI := index_any A n c L x w hn hl h
  go_enter Try.func46, Try.ntmps46
  go_wp2_with fail
  refine hI.mono ?_
  rintro e w1 ⟨r, rfl, hr, rfl⟩
  have hd : decide (0 ≤ r) = decide (x ∈ L) := by
    rcases hr with ⟨rfl, hno⟩ | ⟨i, hi, rfl, hx⟩
    · rw [decide_eq_false hno]; rfl
    · have hm : x ∈ L := by
        rw [← hx, getD_getElem hi]; exact List.getElem_mem hi
      rw [decide_eq_true hm, decide_eq_true (by omega)]
  have HD := hide hd
  clear hd hr h hl
  go_wp2_with fail
  go_ret
  exact ⟨by rw [← HD.out]; rfl, rfl⟩

theorem mem_tof {M : Int} : M ∈ puts (zl (allT M)) ↔ 0 < (tof M).length := by
  rw [(puts_asc_mem _).2.1]
  unfold tof
  rw [(ofs_facts M (allT M)).1.length_eq]
  constructor
  · intro h
    obtain ⟨t, ht, hz⟩ := List.mem_map.1 h
    apply List.length_pos_iff.2
    intro he
    have : t ∈ ofz M (allT M) := List.mem_filter.2 ⟨ht, by simpa using hz⟩
    rw [he] at this; cases this
  · intro h
    obtain ⟨t, ht⟩ := List.exists_mem_of_length_pos h
    obtain ⟨h1, h2⟩ := List.mem_filter.1 ht
    exact List.mem_map.2 ⟨t, h1, by simpa using h2⟩

/-- Whether a number is a Markov number. -/
def imb (M : Int) : Bool := inB M 1 1000000 && decide (0 < (tof M).length)
theorem imb_eq (M : Int) : imb M = (inB M 1 1000000 && decide (M ∈ mnx M)) := by
  unfold imb mnx
  by_cases h : inB M 1 1000000 = true
  · rw [h, if_pos rfl]
    by_cases hm : 0 < (tof M).length
    · rw [decide_eq_true hm, decide_eq_true (mem_tof.2 hm)]
    · rw [decide_eq_false hm, decide_eq_false (fun h => hm (mem_tof.1 h))]
  · have : inB M 1 1000000 = false := by simpa using h
    rw [this]; rfl

set_option maxRecDepth 100000 in
theorem implIsMarkov_any (M : Int) (w : World) :
    Calls Try.prog 20 #[.int .i64 M] w fun e w' => e = .returned (.tuple #[.bool (imb M), .int .i64 (mcode M)]) ∧ Below w.heap.size w w' := by
  have hN := implMarkovNumbers_any M
  by_cases hb : inB M 1 1000000 = true
  · have ec : mcode M = 0 := by unfold mcode; rw [if_pos hb]
    have eb : imb M = decide (M ∈ mnx M) := by rw [imb_eq, hb]; rfl
    rw [ec] at hN
    rw [ec, eb]
    generalize mnx M = L at *
    go_enter Try.func20, Try.ntmps20
    go_wp2_with fail
    refine (hN _).mono ?_
    rintro e w1 ⟨v, rfl, ⟨A, n, cap, rfl, hn, hn2, hl⟩, hb1⟩
    have hC := contains_any A n cap L M w1 hn2 hn.symm (Lst.rd hn hl)
    clear hl hn hN
    go_wp2_with fail
    refine hC.mono ?_
    rintro e w2 ⟨rfl, rfl⟩
    go_wp2_with fail
    go_returns
    exact ⟨rfl, hb1⟩
  · have hb' : inB M 1 1000000 = false := by simpa using hb
    have ec : mcode M = 2 := by unfold mcode; rw [if_neg hb]
    have eb : imb M = false := by unfold imb; rw [hb']; rfl
    rw [ec] at hN
    rw [ec, eb]
    go_enter Try.func20, Try.ntmps20
    go_wp2_with fail
    refine (hN _).mono ?_
    rintro e w1 ⟨v, rfl, _, hb1⟩
    go_wp2_with fail
    go_returns
    exact ⟨rfl, hb1⟩

set_option maxRecDepth 100000 in
theorem specIsMarkov_any (M : Int) (w : World) :
    Calls Try.prog 19 #[.int .i64 M] w fun e w' => e = .returned (.tuple #[.bool (imb M), .int .i64 (mcode M)]) ∧ Below w.heap.size w w' := by
  by_cases hb : inB M 1 1000000 = true
  · obtain ⟨h1, h2⟩ := inB_iff.1 hb
    have ec : mcode M = 0 := by unfold mcode; rw [if_pos hb]
    have eb : imb M = decide (0 < (tof M).length) := by unfold imb; rw [hb]; rfl
    rw [ec, eb]
    have hO := fun w => l22Of_any M w h1 h2
    have hlen : (tof M).length ≤ 1048578 := by
      have := ofs_len M (allT M)
      have := allT_len M
      unfold tof; omega
    generalize tof M = L at *
    obtain ⟨n, hn⟩ : ∃ n, L.length = n := ⟨_, rfl⟩
    rw [hn] at hO hlen ⊢
    clear hn ec eb
    go_enter Try.func19, Try.ntmps19
    go_wp2_with fail
    refine (l22Most_any _ _).mono ?_
    rintro e w' ⟨rfl, rfl⟩
    rw [hb]
    go_wp2_with fail
    refine (hO _).mono ?_
    rintro e w1 ⟨g, cap, rfl, hg, _, hb1⟩
    go_wp2_with fail
    go_returns
    exact ⟨by simp, hb1⟩
  · have hb' : inB M 1 1000000 = false := by simpa using hb
    have ec : mcode M = 2 := by unfold mcode; rw [if_neg hb]
    have eb : imb M = false := by unfold imb; rw [hb']; rfl
    rw [ec, eb]
    go_enter Try.func19, Try.ntmps19
    go_wp2_with fail
    refine (l22Most_any _ _).mono ?_
    rintro e w' ⟨rfl, rfl⟩
    rw [hb']
    go_wp2_with fail
    go_returns
    exact ⟨rfl, Below.refl _ _⟩

theorem law_IsMarkov (M : Int) (w : World) :
    Calls Try.prog 5 #[.int .i64 M] w fun e w' => e = .returned (.bool true) ∧ Below w.heap.size w w' := by
  have hS := specIsMarkov_any M
  have hI := implIsMarkov_any M
  generalize imb M = b at *
  generalize mcode M = c at *
  go_enter Try.func5, Try.ntmps5
  go_wp2_with fail
  refine (hS _).mono ?_
  rintro e w1 ⟨rfl, hb1⟩
  go_wp2_with fail
  refine (hI _).mono ?_
  rintro e w2 ⟨rfl, hb2⟩
  have hB := bstep hb1 hb2 hb1.size
  have q1 : (b != b) = false := by simp
  go_wp2_with fail
  go_ret
  exact ⟨rfl, hB⟩

/-- The square of a Lagrange number: its code and its two numbers. -/
def lsc (M : Int) : Int := if 1 ≤ M ∧ M ≤ 10000 then (if 0 < (tof M).length then 0 else 3) else 2
def lsn (M : Int) : Int := if lsc M = 0 then (9 * M * M - 4) / (Int.gcd (9 * M * M - 4) (M * M) : Nat) else 0
def lsd (M : Int) : Int := if lsc M = 0 then M * M / (Int.gcd (9 * M * M - 4) (M * M) : Nat) else 0
theorem ls_bd {M : Int} (h : 1 ≤ M ∧ M ≤ 10000) : (9 ≤ 9 * M ∧ 9 * M ≤ 90000) ∧ (5 ≤ 9 * M * M - 4 ∧ 9 * M * M - 4 ≤ 899999996) ∧ 1 ≤ M * M ∧ M * M ≤ 100000000 := by
  have h1 : 1 * 1 ≤ M * M := Int.mul_le_mul h.1 h.1 (by omega) (by omega)
  have h2 : M * M ≤ 10000 * 10000 := Int.mul_le_mul h.2 h.2 (by omega) (by omega)
  rw [Int.mul_assoc]
  omega

set_option maxRecDepth 100000 in
theorem specLagrangeSquare_any (M : Int) (w : World) :
    Calls Try.prog 26 #[.int .i64 M] w fun e w' => e = .returned (.tuple #[.agg #[.int .i64 (lsn M), .int .i64 (lsd M)], .int .i64 (lsc M)]) ∧ Below w.heap.size w w' := by
  by_cases hM : 1 ≤ M ∧ M ≤ 10000
  · have e1 := inB_of hM
    have hO := fun w => l22Of_any M w hM.1 (by omega)
    have hlen : (tof M).length ≤ 1048578 := by
      have := ofs_len M (allT M)
      have := allT_len M
      unfold tof; omega
    by_cases h0 : 0 < (tof M).length
    · have ec : lsc M = 0 := by unfold lsc; rw [if_pos hM, if_pos h0]
      obtain ⟨b1, b2, b3⟩ := ls_bd hM
      have hMk := fun w => l02Make_any (9 * M * M - 4) (M * M) w (by omega) (by omega) (by omega)
      have HR := hide (show (lsn M = (9 * M * M - 4) / (Int.gcd (9 * M * M - 4) (M * M) : Nat) ∧ lsd M = M * M / (Int.gcd (9 * M * M - 4) (M * M) : Nat)) ∧ lsc M = 0 by unfold lsn lsd; rw [ec]; exact ⟨⟨rfl, rfl⟩, rfl⟩)
      have s1 : IntKind.i64.wrap (9 * M) = 9 * M := IntWalk.i64_in _ (by omega)
      have s2 : IntKind.i64.wrap (9 * M * M) = 9 * M * M := IntWalk.i64_in _ (by omega)
      have s3 : IntKind.i64.wrap (9 * M * M - 4) = 9 * M * M - 4 := IntWalk.i64_in _ (by omega)
      have s4 : IntKind.i64.wrap (M * M) = M * M := IntWalk.i64_in _ (by omega)
      generalize (9 * M * M - 4) / (Int.gcd (9 * M * M - 4) (M * M) : Nat) = X at *
      generalize M * M / (Int.gcd (9 * M * M - 4) (M * M) : Nat) = Y at *
      generalize tof M = L at *
      obtain ⟨n, hn⟩ : ∃ n, L.length = n := ⟨_, rfl⟩
      rw [hn] at hO hlen h0
      have hn0 : ((n : Int) == 0) = false := beq_eq_false_iff_ne.2 (by omega)
      clear hn ec
      go_enter Try.func26, Try.ntmps26
      go_wp2_with fail
      refine (l00In_any _ _ _ _).mono ?_
      rintro e w1 ⟨rfl, rfl⟩
      rw [e1]
      go_wp2_with fail
      refine (hO _).mono ?_
      rintro e w1 ⟨g, cap, rfl, hg, _, hb1⟩
      obtain ⟨c1, c2, c3, H1⟩ := (Blk.new w 44 #[.int .i64 0, .int .i64 0]).after hb1 (by simp)
      have hB := bstep (show Below w.heap.size w _ by go_grown) hb1 (by simp)
      clear c1 c2 hb1
      go_wp2_with fail
      refine (hMk _).mono ?_
      rintro e w2 ⟨rfl, hb2⟩
      obtain ⟨k1, k2, k3, H2⟩ := H1.out.after hb2 c3
      have k4 := k1 0
      have k5 := k1 1
      have hB2 := bstep hB hb2 hB.size
      go_wp2_with fail
      have z3 := H2.out.set2 (x := .int .i64 X) (y := .int .i64 Y)
      obtain ⟨z4, _, _, _⟩ := z3.after (Below.refl _ _) z3.lt
      refine bodyPost_ret (v := .tuple #[.agg #[.int .i64 X, .int .i64 Y], .int .i64 0]) (by simp [results, Try.results26, go_sem, z4]) rfl ⟨by rw [HR.out.1.1, HR.out.1.2, HR.out.2], ?_⟩
      exact (hB2.setCell (Nat.le_refl _) _).setCell (Nat.le_refl _) _
    · have ec : lsc M = 3 := by unfold lsc; rw [if_pos hM, if_neg h0]
      have HR := hide (show (lsn M = 0 ∧ lsd M = 0) ∧ lsc M = 3 by unfold lsn lsd; rw [ec]; exact ⟨⟨rfl, rfl⟩, rfl⟩)
      generalize tof M = L at *
      obtain ⟨n, hn⟩ : ∃ n, L.length = n := ⟨_, rfl⟩
      rw [hn] at hO hlen h0
      have hn0 : ((n : Int) == 0) = true := by have : n = 0 := by omega
                                               subst this; rfl
      clear hn ec
      go_enter Try.func26, Try.ntmps26
      go_wp2_with fail
      refine (l00In_any _ _ _ _).mono ?_
      rintro e w1 ⟨rfl, rfl⟩
      rw [e1]
      go_wp2_with fail
      refine (hO _).mono ?_
      rintro e w1 ⟨g, cap, rfl, hg, _, hb1⟩
      obtain ⟨k1, k2, k3, H2⟩ := (Blk.new w 44 #[.int .i64 0, .int .i64 0]).after hb1 (by simp)
      have k4 := k1 0
      have k5 := k1 1
      have hB2 := bstep (show Below w.heap.size w _ by go_grown) hb1 (by simp)
      clear hb1
      go_wp2_with fail
      have z3 := H2.out.set2 (x := .int .i64 0) (y := .int .i64 0)
      obtain ⟨z4, _, _, _⟩ := z3.after (Below.refl _ _) z3.lt
      refine bodyPost_ret (v := .tuple #[.agg #[.int .i64 0, .int .i64 0], .int .i64 3]) (by simp [results, Try.results26, go_sem, z4]) rfl ⟨by rw [HR.out.1.1, HR.out.1.2, HR.out.2], ?_⟩
      exact (hB2.setCell (Nat.le_refl _) _).setCell (Nat.le_refl _) _
  · have e1 := inB_no hM
    have ec : lsc M = 2 := by unfold lsc; rw [if_neg hM]
    have HR := hide (show (lsn M = 0 ∧ lsd M = 0) ∧ lsc M = 2 by unfold lsn lsd; rw [ec]; exact ⟨⟨rfl, rfl⟩, rfl⟩)
    go_enter Try.func26, Try.ntmps26
    go_wp2_with fail
    refine (l00In_any _ _ _ _).mono ?_
    rintro e w1 ⟨rfl, rfl⟩
    rw [e1]
    go_wp2_with fail
    refine bodyPost_ret (v := .tuple #[.agg #[.int .i64 0, .int .i64 0], .int .i64 2]) (by simp [results, Try.results26, go_sem]) rfl ⟨by rw [HR.out.1.1, HR.out.1.2, HR.out.2], ?_⟩
    go_grown

set_option maxRecDepth 100000 in
theorem implLagrangeSquare_any (M : Int) (w : World) :
    Calls Try.prog 27 #[.int .i64 M] w fun e w' => e = .returned (.tuple #[.agg #[.int .i64 (lsn M), .int .i64 (lsd M)], .int .i64 (lsc M)]) ∧ Below w.heap.size w w' := by
  have hI := implIsMarkov_any M
  by_cases hM : 1 ≤ M ∧ M ≤ 10000
  · have hb : inB M 1 1000000 = true := inB_of (by omega)
    have em : mcode M = 0 := by unfold mcode; rw [if_pos hb]
    have eb : imb M = decide (0 < (tof M).length) := by unfold imb; rw [hb]; rfl
    rw [em, eb] at hI
    have hg4 : decide (10000 < M) = false := decide_eq_false (by omega)
    by_cases h0 : 0 < (tof M).length
    · have ec : lsc M = 0 := by unfold lsc; rw [if_pos hM, if_pos h0]
      rw [decide_eq_true h0] at hI
      obtain ⟨b1, b2, b3⟩ := ls_bd hM
      have hMk := fun w => plainOf_any (9 * M * M - 4) (M * M) w (by omega) (by omega)
      have HR := hide (show (lsn M = (9 * M * M - 4) / (Int.gcd (9 * M * M - 4) (M * M) : Nat) ∧ lsd M = M * M / (Int.gcd (9 * M * M - 4) (M * M) : Nat)) ∧ lsc M = 0 by unfold lsn lsd; rw [ec]; exact ⟨⟨rfl, rfl⟩, rfl⟩)
      have s1 : IntKind.i64.wrap (9 * M) = 9 * M := IntWalk.i64_in _ (by omega)
      have s2 : IntKind.i64.wrap (9 * M * M) = 9 * M * M := IntWalk.i64_in _ (by omega)
      have s3 : IntKind.i64.wrap (9 * M * M - 4) = 9 * M * M - 4 := IntWalk.i64_in _ (by omega)
      have s4 : IntKind.i64.wrap (M * M) = M * M := IntWalk.i64_in _ (by omega)
      generalize (9 * M * M - 4) / (Int.gcd (9 * M * M - 4) (M * M) : Nat) = X at *
      generalize M * M / (Int.gcd (9 * M * M - 4) (M * M) : Nat) = Y at *
      clear ec em eb h0
      go_enter Try.func27, Try.ntmps27
      go_wp2_with fail
      refine (hI _).mono ?_
      rintro e w1 ⟨rfl, hb1⟩
      obtain ⟨c1, c2, c3, H1⟩ := (Blk.new w 44 #[.int .i64 0, .int .i64 0]).after hb1 (by simp)
      have hB := bstep (show Below w.heap.size w _ by go_grown) hb1 (by simp)
      clear c1 c2 hb1
      go_wp2_with fail
      refine (hMk _).mono ?_
      rintro e w2 ⟨rfl, hb2⟩
      obtain ⟨k1, k2, k3, H2⟩ := H1.out.after hb2 c3
      have k4 := k1 0
      have k5 := k1 1
      have hB2 := bstep hB hb2 hB.size
      go_wp2_with fail
      have z3 := H2.out.set2 (x := .int .i64 X) (y := .int .i64 Y)
      obtain ⟨z4, _, _, _⟩ := z3.after (Below.refl _ _) z3.lt
      refine bodyPost_ret (v := .tuple #[.agg #[.int .i64 X, .int .i64 Y], .int .i64 0]) (by simp [results, Try.results27, go_sem, z4]) rfl ⟨by rw [HR.out.1.1, HR.out.1.2, HR.out.2], ?_⟩
      exact (hB2.setCell (Nat.le_refl _) _).setCell (Nat.le_refl _) _
    · have ec : lsc M = 3 := by unfold lsc; rw [if_pos hM, if_neg h0]
      rw [decide_eq_false h0] at hI
      have HR := hide (show (lsn M = 0 ∧ lsd M = 0) ∧ lsc M = 3 by unfold lsn lsd; rw [ec]; exact ⟨⟨rfl, rfl⟩, rfl⟩)
      clear ec em eb h0
      go_enter Try.func27, Try.ntmps27
      go_wp2_with fail
      refine (hI _).mono ?_
      rintro e w1 ⟨rfl, hb1⟩
      obtain ⟨k1, k2, k3, H2⟩ := (Blk.new w 44 #[.int .i64 0, .int .i64 0]).after hb1 (by simp)
      have k4 := k1 0
      have k5 := k1 1
      have hB2 := bstep (show Below w.heap.size w _ by go_grown) hb1 (by simp)
      clear hb1
      go_wp2_with fail
      have z3 := H2.out.set2 (x := .int .i64 0) (y := .int .i64 0)
      obtain ⟨z4, _, _, _⟩ := z3.after (Below.refl _ _) z3.lt
      refine bodyPost_ret (v := .tuple #[.agg #[.int .i64 0, .int .i64 0], .int .i64 3]) (by simp [results, Try.results27, go_sem, z4]) rfl ⟨by rw [HR.out.1.1, HR.out.1.2, HR.out.2], ?_⟩
      exact (hB2.setCell (Nat.le_refl _) _).setCell (Nat.le_refl _) _
  · have ec : lsc M = 2 := by unfold lsc; rw [if_neg hM]
    have HR := hide (show (lsn M = 0 ∧ lsd M = 0) ∧ lsc M = 2 by unfold lsn lsd; rw [ec]; exact ⟨⟨rfl, rfl⟩, rfl⟩)
    have hor : (mcode M != 0) = true ∨ ((mcode M != 0) = false ∧ decide (10000 < M) = true) := by
      unfold mcode
      by_cases hb : inB M 1 1000000 = true
      · rw [if_pos hb]
        have := inB_iff.1 hb
        exact .inr ⟨rfl, decide_eq_true (by omega)⟩
      · rw [if_neg hb]; exact .inl rfl
    generalize mcode M = c at *
    generalize imb M = b at *
    clear ec
    rcases hor with hc | ⟨hc, hd⟩
    all_goals
      go_enter Try.func27, Try.ntmps27
      go_wp2_with fail
      refine (hI _).mono ?_
      rintro e w1 ⟨rfl, hb1⟩
      obtain ⟨k1, k2, k3, H2⟩ := (Blk.new w 44 #[.int .i64 0, .int .i64 0]).after hb1 (by simp)
      have k4 := k1 0
      have k5 := k1 1
      have hB2 := bstep (show Below w.heap.size w _ by go_grown) hb1 (by simp)
      clear hb1
      go_wp2_with fail
      have z3 := H2.out.set2 (x := .int .i64 0) (y := .int .i64 0)
      obtain ⟨z4, _, _, _⟩ := z3.after (Below.refl _ _) z3.lt
      refine bodyPost_ret (v := .tuple #[.agg #[.int .i64 0, .int .i64 0], .int .i64 2]) (by simp [results, Try.results27, go_sem, z4]) rfl ⟨by rw [HR.out.1.1, HR.out.1.2, HR.out.2], ?_⟩
      exact (hB2.setCell (Nat.le_refl _) _).setCell (Nat.le_refl _) _

theorem law_LagrangeSquare (M : Int) (w : World) :
    Calls Try.prog 7 #[.int .i64 M] w fun e w' => e = .returned (.bool true) ∧ Below w.heap.size w w' := by
  have hS := specLagrangeSquare_any M
  have hI := implLagrangeSquare_any M
  generalize lsn M = a at *
  generalize lsd M = b at *
  generalize lsc M = c at *
  go_enter Try.func7, Try.ntmps7
  go_wp2_with fail
  refine (hS _).mono ?_
  rintro e w2 ⟨rfl, hb2⟩
  go_wp2_with fail
  have hW := hide (Blk.new w2 44 #[.int .i64 a, .int .i64 b])
  refine (hI _).mono ?_
  rintro e w4 ⟨rfl, hb4⟩
  obtain ⟨k1, k2, k3, _⟩ := hW.out.after hb4 (by simp)
  have k4 := k1 0
  have k5 := k1 1
  have s2 := hb2.size
  have hB4 := bstep (show Below w.heap.size w _ from hb2.alloc s2 _) hb4 (by simp; omega)
  have N4 := hB4.size
  clear hb4 hW hS hI
  go_wp2_with fail
  refine (eqFraction_any a b _).mono ?_
  rintro e w5 ⟨rfl, hb5⟩
  go_wp2_with fail
  go_ret
  exact ⟨rfl, bstep (show Below w.heap.size w _ from hB4.alloc hB4.size _) hb5 (by simp; omega)⟩

end Go.Proofs.Ytjmllmadoelioaa
