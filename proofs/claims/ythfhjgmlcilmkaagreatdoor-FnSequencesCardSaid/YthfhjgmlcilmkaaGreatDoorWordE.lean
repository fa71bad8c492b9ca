/- CuttingSequence: the program's and the reference's, and the law. -/
import Derived.Test.YthfhjgmlcilmkaaGreatDoorWordC
import Derived.Test.YthfhjgmlcilmkaaGreatDoorFracL
import Derived.Test.YthfhjgmlcilmkaaGreatDoorNumF
import Derived.StillTailTactics
namespace Go.Proofs.YthfhjgmlcilmkaaGreatDoor
open Go.RowKit

def cuv (p q n : Int) : Value := if okF p q = true then (if 0 ≤ p ∧ p ≤ q ∧ 0 ≤ n ∧ n ≤ 400 then .tuple #[str (cut p.toNat q.toNat n.toNat), .int .i64 0] else .tuple #[str [], .int .i64 2]) else .tuple #[str [], .int .i64 1]
theorem cuv_some (p q n : Int) : ∃ (s : ByteArray) (c : Int), cuv p q n = .tuple #[.string s, .int .i64 c] := by
  unfold cuv; split
  · split <;> exact ⟨_, _, rfl⟩
  · exact ⟨_, _, rfl⟩

theorem cut_facts {p q k : Nat} (hq : 0 < q) (hq2 : q ≤ 1000000000) (hp : p ≤ q) (hk : k < 400) : ∃ a b c d v : Nat, (k : Int) * p = a ∧ ((k : Int) + 1) * p = b ∧ a ≤ 400000000000 ∧ b ≤ 400000000000 ∧ c ≤ 400000000000 ∧ d ≤ 400000000000 ∧
    (a : Int).tdiv q = c ∧ (b : Int).tdiv q = d ∧ (a : Int) / q = c ∧ (b : Int) / q = d ∧ 48 + (d : Int) - c = v ∧ (c : Int) ≤ d ∧ (d : Int) ≤ c + 1 ∧ (cul p q k).toNat = v := by
  have b1 : k * p ≤ 400 * 1000000000 := Nat.mul_le_mul (by omega) (by omega)
  have b2 : (k + 1) * p ≤ 400 * 1000000000 := Nat.mul_le_mul (by omega) (by omega)
  have m1 := Nat.div_le_self (k * p) q
  have m2 := Nat.div_le_self ((k + 1) * p) q
  obtain ⟨s1, s2⟩ := cut_step (p := p) (q := q) (k := k) hq hp
  refine ⟨k * p, (k + 1) * p, k * p / q, (k + 1) * p / q, 48 + ((k + 1) * p / q - k * p / q), by simp, by simp, b1, b2, by omega, by omega, ?_, ?_, by simp, by simp, by omega, by omega, by omega, ?_⟩
  · rw [Int.tdiv_eq_ediv_of_nonneg (Int.natCast_nonneg _)]; simp
  · rw [Int.tdiv_eq_ediv_of_nonneg (Int.natCast_nonneg _)]; simp
  · unfold cul
    rw [UInt8.toNat_ofNat']
    exact Nat.mod_eq_of_lt (by omega)

set_option maxRecDepth 100000 in
theorem implCuttingSequence_any (p q n : Int) (w : World) :
    Calls Tryz.prog 6 #[.agg #[.int .i64 p, .int .i64 q], .int .i64 n] w fun e w' => e = .returned (cuv p q n) ∧ Below w.heap.size w w' := by
  have hV := implValid_any p q
  by_cases ho : okF p q = true
  · rw [ho] at hV
    obtain ⟨⟨o1, o2⟩, ⟨o3, o4⟩, _⟩ := okF_iff.1 ho
    by_cases hr : 0 ≤ p ∧ p ≤ q ∧ 0 ≤ n ∧ n ≤ 400
    · have HR := hide (show cuv p q n = _ by unfold cuv; rw [if_pos ho, if_pos hr])
      obtain ⟨r1, r2, r3, r4⟩ := hr
      obtain ⟨a, rfl⟩ := Int.eq_ofNat_of_zero_le r1
      obtain ⟨b, rfl⟩ := Int.eq_ofNat_of_zero_le (show 0 ≤ q by omega)
      obtain ⟨c, rfl⟩ := Int.eq_ofNat_of_zero_le r3
      have e1 := inB_of ⟨r3, r4⟩
      have d1 : decide ((a : Int) < 0) = false := decide_eq_false (by omega)
      have d2 : decide (b < a) = false := decide_eq_false (by omega)
      have q1 : ∀ w', Calls Tryz.prog 23 #[.int .i64 c, .int .i64 0, .int .i64 400] w' fun e w'' => e = .returned (.bool true) ∧ w' = w'' := fun w' => by have := within_any c 0 400 w'; rwa [e1] at this
      obtain ⟨i0, hi, hz0, hz1, hz2⟩ := info_parts info_u8
      have hmk : ∀ w : World, (Instr.makeSlice 22 (.int .i64 (c : Int)) (.int .i64 (c : Int))).run Tryz.prog w = .ok (.slice (some ⟨w.heap.size, 0, none⟩) c c) (w.alloc (.cells (Array.replicate c (.int .u8 0)) 5)) := by
        intro w
        have := run_make w 22 5 i0 (.int .u8 0) Tryz.underlying22 hi hz0 .i64 .i64 (c : Int) (c : Int) (by omega) (by omega) (by rw [hz2]; omega) (by omega)
        rw [this, hz1, Nat.mul_one]
        rw [Int.toNat_natCast, made_u8]
      clear e1
      go_enter Tryz.func6, Tryz.ntmps6
      go_wp2_with fail
      refine (hV _).mono ?_
      rintro e w1 ⟨rfl, hb1⟩
      obtain ⟨c1, c2, c3, HX⟩ := (Blk.new w 25 #[.int .i64 a, .int .i64 b]).after hb1 (by simp)
      have c0 := c1 0
      have c4 := c1 1
      have hB1 := bstep (show Below w.heap.size w _ by go_grown) hb1 (by simp)
      have g0 : w.heap.size < w1.heap.size := c3
      clear hb1 c3 hV
      go_wp2_with fail
      refine (q1 _).mono ?_
      rintro e w2 ⟨rfl, rfl⟩
      go_wp2
      clear c0 c1 c2 c4
      go_loopw [33] (fun i wr => ∃ k : Nat, i = .int .i64 k ∧ k ≤ c ∧ Blk wr w.heap.size 25 #[.int .i64 a, .int .i64 b] ∧ Row wr w1.heap.size 5 1 c c (bl ((cut a b c).take k) ++ List.replicate (c - k) (Value.int .u8 0)) ∧ Below w.heap.size w wr) (fun i _ => c - (intOf i).toNat)
      case atStart =>
        refine ⟨0, rfl, by omega, HX.out.alloc _, ?_, ?_⟩
        · have := Row.lit (w := w1) (g := w1.heap.size) (e := 5) (k := 1) (n := c) (cs := Array.replicate c (.int .u8 0)) rfl (by simp) (by simp [maxLen]; omega)
          simpa [bl] using this
        · exact hB1.alloc hB1.size _
      case round =>
        obtain ⟨k, rfl, hk, hblk, hrow, hbel⟩ := hrel
        by_cases hlt : k < c
        · have hkl : k = ((cut a b c).take k).length := by rw [List.length_take, cut_len]; omega
          obtain ⟨m, hm⟩ : ∃ m, c - k = m + 1 := ⟨c - k - 1, by omega⟩
          rw [hm] at hrow
          have hm2 : c - (k + 1) = m := by omega
          have hc := hrow.cell (fill_get (m := m) hkl)
          have hf := hrow.frozen k
          obtain ⟨x, y, u, t, v, e1, e2, e3, e4, e5, e6, e7, e8, _, _, e9, e10, e11, e12⟩ := cut_facts (p := a) (q := b) (k := k) (by omega) (by omega) (by omega) (by omega)
          have hs := cut_succ (p := a) (q := b) hlt
          obtain ⟨k1, k2, _, _⟩ := hblk.after (Below.refl wr.heap.size wr) hblk.lt
          have k3 := k1 0
          have k4 := k1 1
          have hq0 : ¬ b = 0 := by omega
          have s1 : IntKind.u8.wrap (v : Int) = v := by rw [IntKind.wrap_u8]; omega
          have s2 : IntKind.i64.wrap ((k : Int) + 1) = k + 1 := IntWalk.i64_in _ (by omega)
          have s3 : IntKind.i64.wrap (x : Int) = x := IntWalk.i64_in _ (by omega)
          have s4 : IntKind.i64.wrap (y : Int) = y := IntWalk.i64_in _ (by omega)
          have s5 : IntKind.i64.wrap (u : Int) = u := IntWalk.i64_in _ (by omega)
          have s6 : IntKind.i64.wrap (t : Int) = t := IntWalk.i64_in _ (by omega)
          have s7 : IntKind.i64.wrap (48 + (t : Int)) = 48 + t := IntWalk.i64_in _ (by omega)
          have s8 : IntKind.i64.wrap (v : Int) = v := IntWalk.i64_in _ (by omega)
          have HE := hide e12
          have HS := hide hs
          have HB := hide hblk
          have HW := hide hrow
          have HK := hide hkl
          clear hs hrow e12 hkl hm hblk
          go_wp2_with fail
          go_still_tail 20, (by kernel_rfl)
          change wpList _ _ _ _ _ wr.drew
          go_wp2_with fail
          go_roundw
          case rel =>
            refine ⟨k + 1, rfl, by omega, (HB.out.drewN 1).far (by simp; omega) _, ?_, ?_⟩
            · have := (HW.out.drewN 1).store k (.int .u8 (v : Int))
              rw [HS.out, hm2, ← fill_step, HE.out, ← HK.out]
              exact this
            · exact (belowN hbel 1).setCell (by simp; omega) _
          case measure => simp [intOf]; omega
        · have hk2 : k = c := by omega
          subst hk2
          have hr2 : Row wr w1.heap.size 5 1 k k (bl (cut a b k)) := by
            rw [cut_all, Nat.sub_self] at hrow
            simpa using hrow
          have hstr := str_of_row hr2 (by rw [cut_len])
          go_wp2
          go_returns
          exact ⟨by rw [HR.out]; first | done | rfl, hbel⟩
    · have HR := hide (show cuv p q n = _ by unfold cuv; rw [if_pos ho, if_neg hr])
      by_cases r1 : p < 0
      · go_enter Tryz.func6, Tryz.ntmps6
        go_wp2_with fail
        refine (hV _).mono ?_
        rintro e w1 ⟨rfl, hb1⟩
        obtain ⟨c1, c2, c3, HX⟩ := (Blk.new w 25 #[.int .i64 p, .int .i64 q]).after hb1 (by simp)
        have c0 := c1 0
        have c4 := c1 1
        have d1 : decide (p < 0) = true := decide_eq_true r1
        go_wp2_with fail
        go_returns
        exact ⟨by rw [HR.out]; first | done | rfl, bstep (by go_grown) hb1 (by simp)⟩
      · have d1 : decide (p < 0) = false := decide_eq_false r1
        by_cases r2 : q < p
        · go_enter Tryz.func6, Tryz.ntmps6
          go_wp2_with fail
          refine (hV _).mono ?_
          rintro e w1 ⟨rfl, hb1⟩
          obtain ⟨c1, c2, c3, HX⟩ := (Blk.new w 25 #[.int .i64 p, .int .i64 q]).after hb1 (by simp)
          have c0 := c1 0
          have c4 := c1 1
          have d2 : decide (q < p) = true := decide_eq_true r2
          go_wp2_with fail
          go_returns
          exact ⟨by rw [HR.out]; first | done | rfl, bstep (by go_grown) hb1 (by simp)⟩
        · have d2 : decide (q < p) = false := decide_eq_false r2
          have q1 : ∀ w', Calls Tryz.prog 23 #[.int .i64 n, .int .i64 0, .int .i64 400] w' fun e w'' => e = .returned (.bool false) ∧ w' = w'' := fun w' => by have := within_any n 0 400 w'; rwa [inB_no (by omega)] at this
          go_enter Tryz.func6, Tryz.ntmps6
          go_wp2_with fail
          refine (hV _).mono ?_
          rintro e w1 ⟨rfl, hb1⟩
          obtain ⟨c1, c2, c3, HX⟩ := (Blk.new w 25 #[.int .i64 p, .int .i64 q]).after hb1 (by simp)
          have c0 := c1 0
          have c4 := c1 1
          go_wp2_with fail
          refine (q1 _).mono ?_
          rintro e w2 ⟨rfl, rfl⟩
          go_wp2_with fail
          go_returns
          exact ⟨by rw [HR.out]; first | done | rfl, bstep (by go_grown) hb1 (by simp)⟩
  · have hf : okF p q = false := by simpa using ho
    rw [hf] at hV
    have HR := hide (show cuv p q n = _ by unfold cuv; rw [if_neg ho])
    go_enter Tryz.func6, Tryz.ntmps6
    go_wp2_with fail
    refine (hV _).mono ?_
    rintro e w1 ⟨rfl, hb1⟩
    go_wp2_with fail
    go_returns
    exact ⟨by rw [HR.out]; first | done | rfl, bstep (by go_grown) hb1 (by simp)⟩

set_option maxRecDepth 100000 in
theorem specCuttingSequence_any (p q n : Int) (w : World) :
    Calls Tryz.prog 7 #[.agg #[.int .i64 p, .int .i64 q], .int .i64 n] w fun e w' => e = .returned (cuv p q n) ∧ Below w.heap.size w w' := by
  have hV := l02Ok_any p q
  by_cases ho : okF p q = true
  · rw [ho] at hV
    obtain ⟨⟨o1, o2⟩, ⟨o3, o4⟩, _⟩ := okF_iff.1 ho
    by_cases hr : 0 ≤ p ∧ p ≤ q ∧ 0 ≤ n ∧ n ≤ 400
    · have HR := hide (show cuv p q n = _ by unfold cuv; rw [if_pos ho, if_pos hr])
      obtain ⟨r1, r2, r3, r4⟩ := hr
      obtain ⟨a, rfl⟩ := Int.eq_ofNat_of_zero_le r1
      obtain ⟨b, rfl⟩ := Int.eq_ofNat_of_zero_le (show 0 ≤ q by omega)
      obtain ⟨c, rfl⟩ := Int.eq_ofNat_of_zero_le r3
      have e1 := inB_of ⟨r3, r4⟩
      have d1 : decide ((a : Int) < 0) = false := decide_eq_false (by omega)
      have d2 : decide (b < a) = false := decide_eq_false (by omega)
      have q1 : ∀ w', Calls Tryz.prog 25 #[.int .i64 c, .int .i64 0, .int .i64 400] w' fun e w'' => e = .returned (.bool true) ∧ w' = w'' := fun w' => by have := l00In_any c 0 400 w'; rwa [e1] at this
      obtain ⟨i0, hi, hz0, hz1, hz2⟩ := info_parts info_u8
      clear e1
      go_enter Tryz.func7, Tryz.ntmps7
      go_wp2_with fail
      refine (hV _).mono ?_
      rintro e w1 ⟨rfl, hb1⟩
      obtain ⟨c1, c2, c3, HX⟩ := (Blk.new w 25 #[.int .i64 a, .int .i64 b]).after hb1 (by simp)
      have c0 := c1 0
      have c4 := c1 1
      have hB1 := bstep (show Below w.heap.size w _ by go_grown) hb1 (by simp)
      have g0 : w.heap.size < w1.heap.size := c3
      clear hb1 c3 hV
      go_wp2_with fail
      refine (q1 _).mono ?_
      rintro e w2 ⟨rfl, rfl⟩
      go_wp2
      clear c0 c1 c2 c4
      go_loopw [6, 7] (fun v i wr => ∃ (k g d : Nat), i = .int .i64 k ∧ k ≤ c ∧ v = .slice (some ⟨g, 0, none⟩) k d ∧ w.heap.size < g ∧ Blk wr w.heap.size 25 #[.int .i64 a, .int .i64 b] ∧ Row wr g 5 1 k d (bl ((cut a b c).take k)) ∧ Below w.heap.size w wr) (fun _ i _ => c - (intOf i).toNat)
      case atStart =>
        exact ⟨0, w1.heap.size, 0, rfl, by omega, rfl, g0, HX.out.alloc _, Row.lit (by simp) (by rfl) (by simp [maxLen]), hB1.alloc hB1.size _⟩
      case round =>
        obtain ⟨k, g, d, rfl, hk, rfl, hg, hblk, hrow, hbel⟩ := hrel
        have sz := hbel.size
        by_cases hlt : k < c
        · have hkl : k = ((cut a b c).take k).length := by rw [List.length_take, cut_len]; omega
          obtain ⟨x, y, u, t, v, e1, e2, e3, e4, e5, e6, _, _, e7, e8, e9, e10, e11, e12⟩ := cut_facts (p := a) (q := b) (k := k) (by omega) (by omega) (by omega) (by omega)
          have hs := cut_succ (p := a) (q := b) hlt
          obtain ⟨k1, k2, k5, _⟩ := hblk.after (Below.refl wr.heap.size wr) hblk.lt
          have k3 := k1 0
          have k4 := k1 1
          have q2 : ∀ w', Calls Tryz.prog 26 #[.int .i64 y, .int .i64 b] w' fun e w'' => e = .returned (.int .i64 t) ∧ w' = w'' := fun w' => by have := specFloor_any y b w' (by omega) (by omega) (by omega) (by omega); rwa [e8] at this
          have q3 : ∀ w', Calls Tryz.prog 26 #[.int .i64 x, .int .i64 b] w' fun e w'' => e = .returned (.int .i64 u) ∧ w' = w'' := fun w' => by have := specFloor_any x b w' (by omega) (by omega) (by omega) (by omega); rwa [e7] at this
          have s1 : IntKind.u8.wrap (v : Int) = v := by rw [IntKind.wrap_u8]; omega
          have s9 : 48 + ((t : Int) - u) = v := by omega
          have HE := hide e12
          have HS := hide hs
          have HB := hide hblk
          have HW := hide hrow
          have HK := hide hkl
          have hcap := hrow.cap_
          clear hs hrow e12 hkl hblk e7 e8 e9
          go_wp2_with fail
          go_quiet (first | (with_reducible exact qS (q2 _)) | (with_reducible exact qS (q3 _)))
          go_wp2_with (at_builtin; refine wpList_append_lies _ rfl (.tmp 49) (.tmp 53) _ rfl 0 5 i0 _ 1 1 Tryz.underlying22 hi hz0 hz1 hz2 rfl (by omega) (.slice (some ⟨g, 0, none⟩) k d) k (bl ((cut a b c).take k)) (by rfl) (((HW.out.drewN _).alloc _).own (Nat.zero_le g)) ⟨wr.heap.size, 0, none⟩ 1 1 [Value.int .u8 (v : Int)] (by rfl) (by rfl) (news_new (by simp)) (fun z hz => by rw [List.mem_singleton] at hz; subst hz; rfl) (by omega) (by simp only [maxLen]; omega) (by omega) (Nat.zero_le _) (wr.heap.size + 1) (by simp) ?_; intro g1 cc w1 hown1 hgrow1 hat1 hlt1)
          go_roundw
          case rel =>
            have hg1 : w.heap.size < g1 := by
              rcases at_old hat1 with h | h <;> omega
            refine ⟨k + 1, g1, cc, rfl, by omega, rfl, hg1, ?_, ?_, ?_⟩
            · exact ((HB.out.drewN _).alloc _).grown hgrow1 (by simp [Value.ownBlock]; omega)
            · have := (Row.of_own hown1).1
              have hb : bl [cul a b k] = [Value.int .u8 (v : Int)] := by show [Value.int .u8 ((cul a b k).toNat : Int)] = _; rw [HE.out]
              rw [HS.out, bl_append, hb]; simpa using this
            · exact ((belowN hbel _).alloc (by simpa using sz) _).grown hgrow1 (by simp; omega) (fun k h => by simp [Value.ownBlock] at h; omega)
          case measure => simp [intOf]; omega
        · have hk2 : k = c := by omega
          subst hk2
          rw [cut_all] at hrow
          have hstr := str_of_row hrow (by rw [cut_len])
          go_wp2
          go_returns
          exact ⟨by rw [HR.out]; first | done | rfl, hbel⟩
    · have HR := hide (show cuv p q n = _ by unfold cuv; rw [if_pos ho, if_neg hr])
      by_cases r1 : p < 0
      · go_enter Tryz.func7, Tryz.ntmps7
        go_wp2_with fail
        refine (hV _).mono ?_
        rintro e w1 ⟨rfl, hb1⟩
        obtain ⟨c1, c2, c3, HX⟩ := (Blk.new w 25 #[.int .i64 p, .int .i64 q]).after hb1 (by simp)
        have c0 := c1 0
        have c4 := c1 1
        have d1 : decide (p < 0) = true := decide_eq_true r1
        go_wp2_with fail
        go_returns
        exact ⟨by rw [HR.out]; first | done | rfl, bstep (by go_grown) hb1 (by simp)⟩
      · have d1 : decide (p < 0) = false := decide_eq_false r1
        by_cases r2 : q < p
        · go_enter Tryz.func7, Tryz.ntmps7
          go_wp2_with fail
          refine (hV _).mono ?_
          rintro e w1 ⟨rfl, hb1⟩
          obtain ⟨c1, c2, c3, HX⟩ := (Blk.new w 25 #[.int .i64 p, .int .i64 q]).after hb1 (by simp)
          have c0 := c1 0
          have c4 := c1 1
          have d2 : decide (q < p) = true := decide_eq_true r2
          go_wp2_with fail
          go_returns
          exact ⟨by rw [HR.out]; first | done | rfl, bstep (by go_grown) hb1 (by simp)⟩
        · have d2 : decide (q < p) = false := decide_eq_false r2
          have q1 : ∀ w', Calls Tryz.prog 25 #[.int .i64 n, .int .i64 0, .int .i64 400] w' fun e w'' => e = .returned (.bool false) ∧ w' = w'' := fun w' => by have := l00In_any n 0 400 w'; rwa [inB_no (by omega)] at this
          go_enter Tryz.func7, Tryz.ntmps7
          go_wp2_with fail
          refine (hV _).mono ?_
          rintro e w1 ⟨rfl, hb1⟩
          obtain ⟨c1, c2, c3, HX⟩ := (Blk.new w 25 #[.int .i64 p, .int .i64 q]).after hb1 (by simp)
          have c0 := c1 0
          have c4 := c1 1
          go_wp2_with fail
          refine (q1 _).mono ?_
          rintro e w2 ⟨rfl, rfl⟩
          go_wp2_with fail
          go_returns
          exact ⟨by rw [HR.out]; first | done | rfl, bstep (by go_grown) hb1 (by simp)⟩
  · have hf : okF p q = false := by simpa using ho
    rw [hf] at hV
    have HR := hide (show cuv p q n = _ by unfold cuv; rw [if_neg ho])
    go_enter Tryz.func7, Tryz.ntmps7
    go_wp2_with fail
    refine (hV _).mono ?_
    rintro e w1 ⟨rfl, hb1⟩
    go_wp2_with fail
    go_returns
    exact ⟨by rw [HR.out]; first | done | rfl, bstep (by go_grown) hb1 (by simp)⟩

end Go.Proofs.YthfhjgmlcilmkaaGreatDoor
