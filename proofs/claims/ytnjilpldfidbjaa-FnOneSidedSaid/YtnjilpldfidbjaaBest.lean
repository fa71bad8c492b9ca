/- BestBelow: the program's and the reference's, and the law. -/
import Derived.Test.YtnjilpldfidbjaaBbl
import Derived.Test.YtnjilpldfidbjaaHeldF
import Derived.Test.YtnjilpldfidbjaaNumD
import Derived.Test.YtnjilpldfidbjaaNumF
import Derived.Test.YtnjilpldfidbjaaMake
import Derived.Test.YtnjilpldfidbjaaFracL
namespace Go.Proofs.Ytnjilpldfidbjaa
open Go.RowKit

theorem info_frac : (Try.prog.info? 25).map (fun i => (i.zero, i.size, i.bytes)) = some (some (.agg #[.int .i64 0, .int .i64 0]), 2, 16) := by kernel_rfl

theorem checkBetween_any (p q k h : Int) (w : World) :
    Calls Try.prog 33 #[.agg #[.int .i64 p, .int .i64 q], .int .i64 k, .int .i64 h] w fun e w' => e = .returned (.int .i64 (if okF p q = true then (if 1 ≤ k ∧ k ≤ h then 0 else 2) else 1)) ∧ Below w.heap.size w w' := by
  have hV := implValid_any p q
  by_cases ho : okF p q = true
  · rw [ho] at hV
    rw [if_pos ho]
    by_cases hk : 1 ≤ k ∧ k ≤ h
    · have e1 := inB_of hk
      rw [if_pos hk]
      go_enter Try.func33, Try.ntmps33
      go_wp2_with fail
      refine (hV _).mono ?_
      rintro e w1 ⟨rfl, hb1⟩
      have hB := bstep (show Below w.heap.size w _ by go_grown) hb1 (by simp)
      go_wp2_with fail
      refine (within_any _ _ _ _).mono ?_
      rintro e w2 ⟨rfl, rfl⟩
      rw [e1]
      go_wp2_with fail
      go_ret
      exact ⟨rfl, hB⟩
    · have e1 := inB_no hk
      rw [if_neg hk]
      go_enter Try.func33, Try.ntmps33
      go_wp2_with fail
      refine (hV _).mono ?_
      rintro e w1 ⟨rfl, hb1⟩
      have hB := bstep (show Below w.heap.size w _ by go_grown) hb1 (by simp)
      go_wp2_with fail
      refine (within_any _ _ _ _).mono ?_
      rintro e w2 ⟨rfl, rfl⟩
      rw [e1]
      go_wp2_with fail
      go_ret
      exact ⟨rfl, hB⟩
  · have hf : okF p q = false := by simpa using ho
    rw [hf] at hV
    rw [if_neg ho]
    go_enter Try.func33, Try.ntmps33
    go_wp2_with fail
    refine (hV _).mono ?_
    rintro e w1 ⟨rfl, hb1⟩
    have hB := bstep (show Below w.heap.size w _ by go_grown) hb1 (by simp)
    go_wp2_with fail
    go_ret
    exact ⟨rfl, hB⟩

set_option maxRecDepth 100000 in
set_option maxHeartbeats 2000000 in
theorem implBestBelow_any (p q k : Int) (w : World) :
    Calls Try.prog 7 #[.agg #[.int .i64 p, .int .i64 q], .int .i64 k] w fun e w' => ∃ v, e = .returned (.tuple #[v, .int .i64 (bbc p q k)]) ∧ LstF w' w.heap.size v (bbx p q k) ∧ Below w.heap.size w w' := by
  have hC := checkBetween_any p q k 10000
  by_cases hok : okF p q = true ∧ 1 ≤ k ∧ k ≤ 10000
  · obtain ⟨ho, hk⟩ := hok
    obtain ⟨o1, o2, _⟩ := okF_iff.1 ho
    have e1 : bbc p q k = 0 := by unfold bbc; rw [if_pos ho, if_pos hk]
    have e2 : bbx p q k = bbl p q (min k q).toNat := by unfold bbx; rw [if_pos ⟨ho, hk⟩]
    rw [if_pos ho, if_pos hk] at hC
    rw [e1, e2]
    obtain ⟨M, hM⟩ : ∃ M : Nat, min k q = M := ⟨(min k q).toNat, by omega⟩
    have hM1 : 1 ≤ M ∧ M ≤ 10000 ∧ (M : Int) ≤ q := by omega
    rw [hM, Int.toNat_natCast]
    obtain ⟨i0, hinf, hz0, hz1, hz2⟩ := info_parts info_frac
    clear e1 e2 ho
    go_enter Try.func7, Try.ntmps7
    go_wp2_with fail
    refine (hC _).mono ?_
    rintro e w1 ⟨rfl, hb1⟩
    obtain ⟨_, _, k3, HA⟩ := (Blk.new w 25 #[.int .i64 p, .int .i64 q]).after hb1 (by simp)
    have hB := bstep (show Below w.heap.size w _ by go_grown) hb1 (by simp)
    clear hC hb1
    go_wp2_with fail
    go_loopw [7, 8] (fun v i wr => ∃ j : Nat, i = .int .i64 ((j : Int) + 1) ∧ j ≤ M ∧ ((j = 0 ∧ v = .slice none 0 0) ∨ ∃ g c, 0 < j ∧ v = .slice (some ⟨g, 0, none⟩) (bbl p q j).length c ∧ w.heap.size + 1 ≤ g ∧ Row wr g 25 2 (bbl p q j).length c (cs2 (bbl p q j))) ∧ Blk wr w.heap.size 25 #[.int .i64 p, .int .i64 q] ∧ Below w.heap.size w wr) (fun _ i _ => M + 1 - (intOf i).toNat)
    case atStart => exact ⟨0, rfl, by omega, .inl ⟨rfl, rfl⟩, HA.out, hB⟩
    case round =>
      obtain ⟨j, rfl, hj, hv, hblk, hbel⟩ := hrel
      have sz := hbel.size
      obtain ⟨a1, _, a3, HB⟩ := hblk.after (Below.refl _ _) hblk.lt
      have x0 := a1 0
      have x1 := a1 1
      clear a1 hblk
      by_cases hlt : j < M
      · have hn := floor_bd (p := p) (q := q) (d := j + 1) o2 (by omega) (by omega)
        have hpd := mulp_bd (p := p) (d := j + 1) o2 (by omega)
        have hbb : bbl p q (j + 1) = if nearer (bbl p q j) (p * (j + 1 : Nat) / q) ((j + 1 : Nat) : Int) = true then bbl p q j ++ [(p * (j + 1 : Nat) / q, ((j + 1 : Nat) : Int))] else bbl p q j := rfl
        have hcast : ((j + 1 : Nat) : Int) = (j : Int) + 1 := by simp
        rw [hcast] at hn hpd hbb
        have hF := fun w => floorDiv_any (p * ((j : Int) + 1)) q w (by omega) (by omega) (by omega) (by omega)
        obtain ⟨pd, hpdd⟩ : ∃ pd, p * ((j : Int) + 1) = pd := ⟨_, rfl⟩
        rw [hpdd] at hn hpd hbb hF
        generalize pd / q = n at *
        rcases hv with ⟨hj0, rfl⟩ | ⟨g, c, hj0, rfl, hg, hrow⟩
        · have hb0 : bbl p q j = [] := by rw [hj0]; rfl
          have hb1 : bbl p q (j + 1) = [(n, (j : Int) + 1)] := by rw [hbb, hb0]; simp [nearer]
          have HBB := hide hb1
          clear hb1 hbb hb0 hj0
          rcases Int.lt_or_le q k with hqk | hqk
          all_goals
            go_wp2_with fail
            refine (hF _).mono ?_
            rintro e w2 ⟨rfl, rfl⟩
            go_wp2_with fail
            go_quiet (fail)
            go_wp2_with (at_builtin; refine wpList_append_lies _ rfl (.tmp 58) (.tmp 60) _ rfl 0 25 i0 _ 2 16 Try.underlying28 hinf hz0 hz1 hz2 rfl (by omega) (.slice none 0 0) 0 [] (by rfl) (World.ownsRow_nil _ _ _ _) ⟨wr.heap.size + 1, 0, none⟩ 1 1 (cs2 [(n, (j : Int) + 1)]) (by rfl) (by rfl) (news_new (by simp)) (one2 _) (by omega) (by simp only [maxLen]; omega) (by omega) (Nat.zero_le _) (wr.heap.size + 1 + 1) (by simp) ?_; intro g1 cc w2 hown1 hgrow1 hat1 hlt1)
            go_roundw
            case rel =>
              have hg1 : g1 = wr.heap.size + 1 + 1 := by rcases hat1 with h | h; · cases h
                                                         · exact h
              refine ⟨j + 1, by simp, by omega, .inr ⟨g1, cc, by omega, by rw [HBB.out]; rfl, by omega, by rw [HBB.out]; exact (Row.of_own hown1).1⟩, (((HB.out.alloc _).drewN _).alloc _).grown hgrow1 (fun h => by cases h), ?_⟩
              exact ((belowN (hbel.alloc sz _) _).alloc (by simp; omega) _).grown hgrow1 (by simp; omega) (fun k h => by cases h)
            case measure => simp [intOf]; omega
        · obtain ⟨L, l, eL, l1, l2, l3, l4⟩ := bbl_inv (p := p) (q := q) j hj0
          obtain ⟨len, hlen⟩ : ∃ len, (bbl p q j).length = len + 1 := ⟨L.length, by rw [eL]; simp⟩
          have hll : len < (bbl p q j).length := by omega
          obtain ⟨ca, cb⟩ := cs2_at hll
          have hlast : (bbl p q j)[len]'hll = l := by
            have : len = L.length := by rw [eL] at hlen; simp at hlen; omega
            simp only [eL, this]
            simp
          rw [hlast] at ca cb
          rw [hlen] at hrow ⊢
          have hca := hrow.cell ca
          have hcb := hrow.cell cb
          have hlb := bbl_len p q j
          have hl1 := floor_bd (p := p) (q := q) (d := l.2.toNat) o2 (by omega) (by omega)
          rw [Int.toNat_of_nonneg (by omega), ← l3] at hl1
          have hnear : nearer (bbl p q j) n ((j : Int) + 1) = decide (l.1 * ((j : Int) + 1) < n * l.2) := by unfold nearer; rw [eL]; simp
          rw [hnear] at hbb
          obtain ⟨lx, ly⟩ := l
          simp only at l1 l2 l3 hl1 hca hcb hbb
          have hcap := hrow.cap_
          have HW := hide hrow
          have HLEN := hide hlen
          have b1 := mulp_bd (p := lx) (d := j + 1) hl1 (by omega)
          rw [hcast] at b1
          obtain ⟨u, hu⟩ : ∃ u, lx * ((j : Int) + 1) = u := ⟨_, rfl⟩
          have b2 := mulp_bd (p := n) (d := ly.toNat) hn (by omega)
          rw [Int.toNat_of_nonneg (by omega)] at b2
          obtain ⟨v, hv⟩ : ∃ v, n * ly = v := ⟨_, rfl⟩
          rw [hu] at b1 hbb
          rw [hv] at b2 hbb
          have hcan : (len : Int) + 1 - 1 = len := by omega
          have i1 : (len : Int) < (len : Int) + 1 := by omega
          have hz : ((len : Int) + 1 == 0) = false := beq_eq_false_iff_ne.2 (by omega)
          have s1 : IntKind.i64.wrap u = u := IntWalk.i64_in _ (by omega)
          have s2 : IntKind.i64.wrap v = v := IntWalk.i64_in _ (by omega)
          have s3 : IntKind.i64.wrap (len : Int) = len := IntWalk.i64_in _ (by omega)
          have hne : ¬ g = wr.heap.size := by have := hrow.lt; omega
          have hne2 : g < wr.heap.size := hrow.lt
          have hlen4 : len + 1 ≤ 10000 := by omega
          clear eL hnear hlast ca cb hll hrow l3 l4 hlen hlb
          by_cases hd : u < v
          · have hb1 : bbl p q (j + 1) = bbl p q j ++ [(n, (j : Int) + 1)] := by rw [hbb, if_pos (decide_eq_true hd)]
            have HBB := hide hb1
            clear hb1 hbb
            rcases Int.lt_or_le q k with hqk | hqk
            all_goals
              go_wp2_with fail
              refine (hF _).mono ?_
              rintro e w2 ⟨rfl, rfl⟩
              go_wp2_with fail
              go_quiet (fail)
              go_wp2_with (at_builtin; refine wpList_append_lies _ rfl (.tmp 58) (.tmp 60) _ rfl 0 25 i0 _ 2 16 Try.underlying28 hinf hz0 hz1 hz2 rfl (by omega) (.slice (some ⟨g, 0, none⟩) (len + 1) c) (len + 1) (cs2 (bbl p q j)) (by rfl) ((((HW.out.alloc _).drewN _).alloc _).own (Nat.zero_le g)) ⟨wr.heap.size + 1, 0, none⟩ 1 1 (cs2 [(n, (j : Int) + 1)]) (by rfl) (by rfl) (news_new (by simp)) (one2 _) (by omega) (by simp only [maxLen]; omega) (by omega) (Nat.zero_le _) (wr.heap.size + 1 + 1) (by simp) ?_; intro g1 cc w2 hown1 hgrow1 hat1 hlt1)
              go_roundw
              case rel =>
                have hg1 : w.heap.size + 1 ≤ g1 := by
                  rcases at_old hat1 with h | h <;> omega
                refine ⟨j + 1, by simp, by omega, .inr ⟨g1, cc, by omega, by rw [HBB.out, List.length_append, HLEN.out]; rfl, by omega, ?_⟩, (((HB.out.alloc _).drewN _).alloc _).grown hgrow1 (fun h => by simp [Value.ownBlock] at h; omega), ?_⟩
                · have := (Row.of_own hown1).1
                  rw [HBB.out, List.length_append, HLEN.out, cs2_append]; exact this
                · exact ((belowN (hbel.alloc sz _) _).alloc (by simp; omega) _).grown hgrow1 (by simp; omega) (fun k h => by simp [Value.ownBlock] at h; omega)
              case measure => simp [intOf]; omega
          · have hb1 : bbl p q (j + 1) = bbl p q j := by rw [hbb, if_neg (by simpa using hd)]
            have HBB := hide hb1
            clear hb1 hbb
            rcases Int.lt_or_le q k with hqk | hqk
            all_goals
              go_wp2_with fail
              refine (hF _).mono ?_
              rintro e w2 ⟨rfl, rfl⟩
              go_wp2_with fail
              go_quiet (fail)
              go_wp2
              go_roundw
              case rel =>
                refine ⟨j + 1, by simp, by omega, .inr ⟨g, c, by omega, by rw [HBB.out, HLEN.out], by omega, by rw [HBB.out, HLEN.out]; exact (HW.out.alloc _).drewN _⟩, (HB.out.alloc _).drewN _, ?_⟩
                exact belowN (hbel.alloc sz _) _
              case measure => simp [intOf]; omega
      · have hjM : j = M := by omega
        subst hjM
        rcases hv with ⟨hj0, rfl⟩ | ⟨g, c, hj0, rfl, hg, hrow⟩
        · omega
        · have hlb := bbl_len p q j
          have HL := hide (LstF.of_row (B := w.heap.size) hrow (by omega) (by omega))
          clear hrow hlb
          rcases Int.lt_or_le q k with hqk | hqk
          all_goals
            go_wp2
            go_returns
            exact ⟨_, rfl, HL.out, hbel⟩
  · have e2 : bbx p q k = [] := by unfold bbx; rw [if_neg hok]
    have e1 : (if okF p q = true then (if 1 ≤ k ∧ k ≤ 10000 then (0 : Int) else 2) else 1) = bbc p q k := rfl
    rw [e1] at hC
    have hc : bbc p q k ≠ 0 := by
      unfold bbc
      by_cases ho : okF p q = true
      · rw [if_pos ho, if_neg (fun h => hok ⟨ho, h⟩)]; decide
      · rw [if_neg ho]; decide
    rw [e2]
    generalize bbc p q k = c at *
    have hb : (c != 0) = true := by simp [hc]
    clear e1 e2 hok
    go_enter Try.func7, Try.ntmps7
    go_wp2_with fail
    refine (hC _).mono ?_
    rintro e w1 ⟨rfl, hb1⟩
    have hB := bstep (show Below w.heap.size w _ by go_grown) hb1 (by simp)
    go_wp2_with fail
    go_returns
    exact ⟨_, rfl, LstF.nil_ _ _, hB⟩

end Go.Proofs.Ytnjilpldfidbjaa
