/- BestBelow in the reference, and the law. -/
import Derived.Test.YtnjilpldfidbjaaBest
import Derived.Deep.RegionHeld3
namespace Go.Proofs.Ytnjilpldfidbjaa
open Go.RowKit

theorem quot_bd' {x : Int} {g : Nat} (hg : 0 < g) {M : Int} (_ : (g : Int) ∣ x) (h : 0 ≤ x ∧ x ≤ M) : 0 ≤ x / (g : Int) ∧ x / (g : Int) ≤ M := by
  have h1 := Int.ediv_nonneg h.1 (show (0 : Int) ≤ g by omega)
  have h2 := Int.ediv_le_self (g : Int) h.1
  omega
def sg3 (u v : Int) : Int := if u < v then -1 else if v < u then 1 else 0
set_option maxRecDepth 100000 in
theorem l02Sign_any (a b c d u v : Int) (w : World) (hu : a * d = u) (hv : c * b = v) (bu : -1000000000000000000 ≤ u ∧ u ≤ 1000000000000000000) (bv : -1000000000000000000 ≤ v ∧ v ≤ 1000000000000000000) :
    Calls Try.prog 74 #[.agg #[.int .i64 a, .int .i64 b], .agg #[.int .i64 c, .int .i64 d]] w fun e w' => e = .returned (.int .i64 (sg3 u v)) ∧ Below w.heap.size w w' := by
  by_cases h1 : u < v
  · have e : sg3 u v = -1 := if_pos h1
    rw [e]
    go_enter Try.func74, Try.ntmps74
    go_wp2
    go_ret
    exact ⟨rfl, by go_grown⟩
  · by_cases h2 : v < u
    · have e : sg3 u v = 1 := by unfold sg3; rw [if_neg h1, if_pos h2]
      rw [e]
      go_enter Try.func74, Try.ntmps74
      go_wp2
      go_ret
      exact ⟨rfl, by go_grown⟩
    · have e : sg3 u v = 0 := by unfold sg3; rw [if_neg h1, if_neg h2]
      rw [e]
      go_enter Try.func74, Try.ntmps74
      go_wp2
      go_ret
      exact ⟨rfl, by go_grown⟩

theorem l19Asked_any (p q k : Int) (w : World) :
    Calls Try.prog 38 #[.agg #[.int .i64 p, .int .i64 q], .int .i64 k] w fun e w' => e = .returned (.int .i64 (if okF p q = true then (if 1 ≤ k ∧ k ≤ 1000000000 then 0 else 2) else 1)) ∧ Below w.heap.size w w' := by
  have hV := l02Ok_any p q
  by_cases ho : okF p q = true
  · rw [ho] at hV
    rw [if_pos ho]
    by_cases hk : 1 ≤ k ∧ k ≤ 1000000000
    · have e1 := inB_of hk
      rw [if_pos hk]
      go_enter Try.func38, Try.ntmps38
      go_wp2_with fail
      refine (hV _).mono ?_
      rintro e w1 ⟨rfl, hb1⟩
      have hB := bstep (show Below w.heap.size w _ by go_grown) hb1 (by simp)
      go_wp2_with fail
      refine (l00In_any _ _ _ _).mono ?_
      rintro e w2 ⟨rfl, rfl⟩
      rw [e1]
      go_wp2_with fail
      go_ret
      exact ⟨rfl, hB⟩
    · have e1 := inB_no hk
      rw [if_neg hk]
      go_enter Try.func38, Try.ntmps38
      go_wp2_with fail
      refine (hV _).mono ?_
      rintro e w1 ⟨rfl, hb1⟩
      have hB := bstep (show Below w.heap.size w _ by go_grown) hb1 (by simp)
      go_wp2_with fail
      refine (l00In_any _ _ _ _).mono ?_
      rintro e w2 ⟨rfl, rfl⟩
      rw [e1]
      go_wp2_with fail
      go_ret
      exact ⟨rfl, hB⟩
  · have hf : okF p q = false := by simpa using ho
    rw [hf] at hV
    rw [if_neg ho]
    go_enter Try.func38, Try.ntmps38
    go_wp2_with fail
    refine (hV _).mono ?_
    rintro e w1 ⟨rfl, hb1⟩
    have hB := bstep (show Below w.heap.size w _ by go_grown) hb1 (by simp)
    go_wp2_with fail
    go_ret
    exact ⟨rfl, hB⟩

theorem l19Small_any (p q k : Int) (w : World) :
    Calls Try.prog 35 #[.agg #[.int .i64 p, .int .i64 q], .int .i64 k] w fun e w' => e = .returned (.int .i64 (bbc p q k)) ∧ Below w.heap.size w w' := by
  have hA := l19Asked_any p q k
  by_cases ho : okF p q = true
  · rw [if_pos ho] at hA
    by_cases hk : 1 ≤ k ∧ k ≤ 1000000000
    · rw [if_pos hk] at hA
      by_cases h4 : k ≤ 10000
      · have HR := hide (show bbc p q k = 0 by unfold bbc; rw [if_pos ho, if_pos ⟨hk.1, h4⟩])
        go_enter Try.func35, Try.ntmps35
        go_wp2_with fail
        refine (hA _).mono ?_
        rintro e w1 ⟨rfl, hb1⟩
        have hB := bstep (show Below w.heap.size w _ by go_grown) hb1 (by simp)
        go_wp2_with fail
        go_ret
        exact ⟨by rw [HR.out]; rfl, hB⟩
      · have HR := hide (show bbc p q k = 2 by unfold bbc; rw [if_pos ho, if_neg (by omega)])
        go_enter Try.func35, Try.ntmps35
        go_wp2_with fail
        refine (hA _).mono ?_
        rintro e w1 ⟨rfl, hb1⟩
        have hB := bstep (show Below w.heap.size w _ by go_grown) hb1 (by simp)
        go_wp2_with fail
        go_ret
        exact ⟨by rw [HR.out]; rfl, hB⟩
    · rw [if_neg hk] at hA
      have HR := hide (show bbc p q k = 2 by unfold bbc; rw [if_pos ho, if_neg (by omega)])
      go_enter Try.func35, Try.ntmps35
      go_wp2_with fail
      refine (hA _).mono ?_
      rintro e w1 ⟨rfl, hb1⟩
      have hB := bstep (show Below w.heap.size w _ by go_grown) hb1 (by simp)
      go_wp2_with fail
      go_ret
      exact ⟨by rw [HR.out]; rfl, hB⟩
  · rw [if_neg ho] at hA
    have HR := hide (show bbc p q k = 1 by unfold bbc; rw [if_neg ho])
    go_enter Try.func35, Try.ntmps35
    go_wp2_with fail
    refine (hA _).mono ?_
    rintro e w1 ⟨rfl, hb1⟩
    have hB := bstep (show Below w.heap.size w _ by go_grown) hb1 (by simp)
    go_wp2_with fail
    go_ret
    exact ⟨by rw [HR.out]; rfl, hB⟩

set_option maxRecDepth 100000 in
set_option maxHeartbeats 2000000 in
theorem l19List_any (p q k : Int) (M : Nat) (w : World) (o1 : 1 ≤ q ∧ q ≤ 1000000000) (o2 : -1000000000 ≤ p ∧ p ≤ 1000000000) (hk : 1 ≤ k ∧ k ≤ 10000) (hM : min k q = M) :
    Calls Try.prog 36 #[.agg #[.int .i64 p, .int .i64 q], .int .i64 k, .int .i64 1] w fun e w' => ∃ v, e = .returned v ∧ LstF w' w.heap.size v (bbl p q M) ∧ Below w.heap.size w w' := by
  have hM1 : 1 ≤ M ∧ M ≤ 10000 ∧ (M : Int) ≤ q ∧ (M : Int) ≤ k := by omega
  obtain ⟨i0, hinf, hz0, hz1, hz2⟩ := info_parts info_frac
  go_enter Try.func36, Try.ntmps36
  go_wp2_with fail
  go_loopw [7, 8] (fun v i wr => ∃ j g c : Nat, i = .int .i64 ((j : Int) + 1) ∧ j ≤ M ∧ v = .slice (some ⟨g, 0, none⟩) (bbl p q j).length c ∧ w.heap.size + 1 ≤ g ∧ Row wr g 25 2 (bbl p q j).length c (cs2 (bbl p q j)) ∧ Blk wr w.heap.size 25 #[.int .i64 p, .int .i64 q] ∧ Below w.heap.size w wr) (fun _ i _ => M + 1 - (intOf i).toNat)
  case atStart => exact ⟨0, w.heap.size + 1, 0, rfl, by omega, rfl, by omega, Row.lit (n := 0) (cs := #[]) (by simp) rfl (by simp [maxLen]), (Blk.new w _ _).alloc _, by go_grown⟩
  case round =>
    obtain ⟨j, g, c, rfl, hj, rfl, hg, hrow, hblk, hbel⟩ := hrel
    have sz := hbel.size
    obtain ⟨a1, _, a3, HB⟩ := hblk.after (Below.refl _ _) hblk.lt
    have x0 := a1 0
    have x1 := a1 1
    clear a1 hblk
    by_cases hlt : j < M
    · have hn := floor_bd (p := p) (q := q) (d := j + 1) o2 (by omega) (by omega)
      have hpd := mulp_bd (p := p) (d := j + 1) o2 (by omega)
      have hbb : bbl p q (j + 1) = if nearer (bbl p q j) (p * (j + 1 : Nat) / q) ((j + 1 : Nat) : Int) = true then bbl p q j ++ [(p * (j + 1 : Nat) / q, ((j + 1 : Nat) : Int))] else bbl p q j := rfl
      have hgc := bbl_gcd (p := p) (q := q) (k := j) (by omega)
      have hcast : ((j + 1 : Nat) : Int) = (j : Int) + 1 := by simp
      rw [hcast] at hn hpd hbb hgc
      have hF := fun w => specFloor_any (p * ((j : Int) + 1)) q w (by omega) (by omega) (by omega) (by omega)
      obtain ⟨pd, hpdd⟩ : ∃ pd, p * ((j : Int) + 1) = pd := ⟨_, rfl⟩
      rw [hpdd] at hn hpd hbb hF hgc
      generalize pd / q = n at *
      have hMk := l02Make_any n ((j : Int) + 1)
      have d1 : (j : Int) + 1 ≤ k := by omega
      have d2 : (j : Int) + 1 ≤ q := by omega
      by_cases hone : Int.gcd n ((j : Int) + 1) = 1
      · rw [hone] at hMk
        simp only [Int.natCast_one, Int.ediv_one] at hMk
        by_cases hj0 : (bbl p q j).length = 0
        · have hb0 : bbl p q j = [] := List.length_eq_zero_iff.1 hj0
          have hb1 : bbl p q (j + 1) = [(n, (j : Int) + 1)] := by rw [hbb, hb0]; simp [nearer]
          have HBB := hide hb1
          have HW := hide hrow
          have HL := hide hj0
          have HB0 := hide hb0
          have hglt := hrow.lt
          rw [hj0] at hrow ⊢
          clear hb1 hbb hb0 hj0 hgc hone
          have HW0 := hide hrow
          clear hrow
          go_wp2_with fail
          refine (hF _).mono ?_
          rintro e w2 ⟨rfl, rfl⟩
          go_wp2_with fail
          refine (hMk _ (by omega) (by omega) (by omega)).mono ?_
          rintro e w2 ⟨rfl, hb2⟩
          go_wp2_with fail
          go_quiet (fail)
          have hb2' := hb2.size
          go_wp2_with (at_builtin; refine wpList_append_lies _ rfl (.tmp 65) (.tmp 67) _ rfl 0 25 i0 _ 2 16 Try.underlying28 hinf hz0 hz1 hz2 rfl (by omega) (.slice (some ⟨g, 0, none⟩) (0) c) (0) (cs2 (bbl p q j)) (by rfl) (((((HW0.out.below hb2 hglt).alloc _).drewN _).alloc _).own (Nat.zero_le g)) ⟨w2.heap.size + 1, 0, none⟩ 1 1 (cs2 [(n, (j : Int) + 1)]) (by rfl) (by rfl) (news_new (by simp)) (one2 _) (by omega) (by simp only [maxLen]; omega) (by omega) (Nat.zero_le _) (w2.heap.size + 1 + 1) (by simp) ?_; intro g1 cc w3 hown1 hgrow1 hat1 hlt1)
          go_roundw
          case rel =>
            have hg1 : w.heap.size + 1 ≤ g1 := by
              rcases at_old hat1 with h | h <;> omega
            refine ⟨j + 1, g1, cc, by simp, by omega, by rw [HBB.out]; rfl, by omega, ?_, ?_, ?_⟩
            · have := (Row.of_own hown1).1
              rw [HB0.out] at this
              rw [HBB.out]; exact this
            · exact ((((HB.out.after hb2 a3).2.2.2.out.alloc _).drewN _).alloc _).grown hgrow1 (fun h => by simp [Value.ownBlock] at h; omega)
            · exact ((belowN ((bstep hbel hb2 sz).alloc (by omega) _) _).alloc (by simp; omega) _).grown hgrow1 (by simp; omega) (fun k h => by simp [Value.ownBlock] at h; omega)
          case measure => simp [intOf]; omega
        · have hj1 : 0 < j := Nat.pos_of_ne_zero (fun h => hj0 (by rw [h]; rfl))
          obtain ⟨L, l, eL, l1, l2, l3, l4⟩ := bbl_inv (p := p) (q := q) j hj1
          obtain ⟨len, hlen⟩ : ∃ len, (bbl p q j).length = len + 1 := ⟨L.length, by rw [eL]; simp⟩
          have hll : len < (bbl p q j).length := by omega
          obtain ⟨ca, cb⟩ := cs2_at hll
          have hlast : (bbl p q j)[len]'hll = l := by
            have : len = L.length := by rw [eL] at hlen; simp at hlen; omega
            simp only [eL, this]
            simp
          rw [hlast] at ca cb
          rw [hlen] at hrow ⊢
          have hca := hrow.cell ca
          have hcb := hrow.cell cb
          have hlb := bbl_len p q j
          have hl1 := floor_bd (p := p) (q := q) (d := l.2.toNat) o2 (by omega) (by omega)
          rw [Int.toNat_of_nonneg (by omega), ← l3] at hl1
          have hnear : nearer (bbl p q j) n ((j : Int) + 1) = decide (l.1 * ((j : Int) + 1) < n * l.2) := by unfold nearer; rw [eL]; simp
          rw [hnear] at hbb
          obtain ⟨lx, ly⟩ := l
          simp only at l1 l2 l3 hl1 hca hcb hbb
          have hcap := hrow.cap_
          have hglt := hrow.lt
          have HW := hide hrow
          have HLEN := hide hlen
          have b1 := mulp_bd (p := lx) (d := j + 1) hl1 (by omega)
          rw [hcast] at b1
          obtain ⟨u, hu⟩ : ∃ u, lx * ((j : Int) + 1) = u := ⟨_, rfl⟩
          have b2 := mulp_bd (p := n) (d := ly.toNat) hn (by omega)
          rw [Int.toNat_of_nonneg (by omega)] at b2
          obtain ⟨v, hv⟩ : ∃ v, n * ly = v := ⟨_, rfl⟩
          rw [hu] at b1 hbb
          rw [hv] at b2 hbb
          have hSg := fun w => l02Sign_any n ((j : Int) + 1) lx ly v u w hv hu (by omega) (by omega)
          have hcan : (len : Int) + 1 - 1 = len := by omega
          have i1 : (len : Int) < (len : Int) + 1 := by omega
          have hz : ((len : Int) + 1 == 0) = false := beq_eq_false_iff_ne.2 (by omega)
          have s3 : IntKind.i64.wrap (len : Int) = len := IntWalk.i64_in _ (by omega)
          have hlen4 : len + 1 ≤ 10000 := by omega
          clear eL hnear hlast ca cb hll hrow l3 l4 hlen hlb hgc hone hu hv hj0
          have HC := hide (And.intro hca hcb)
          clear hca hcb
          by_cases hd : u < v
          · have hb1 : bbl p q (j + 1) = bbl p q j ++ [(n, (j : Int) + 1)] := by rw [hbb, if_pos (decide_eq_true hd)]
            have HBB := hide hb1
            have hs1 : sg3 v u = 1 := by unfold sg3; rw [if_neg (by omega), if_pos hd]
            rw [hs1] at hSg
            clear hb1 hbb hs1
            go_wp2_with fail
            refine (hF _).mono ?_
            rintro e w2 ⟨rfl, rfl⟩
            go_wp2_with fail
            refine (hMk _ (by omega) (by omega) (by omega)).mono ?_
            rintro e w2 ⟨rfl, hb2⟩
            have hb2' := hb2.size
            have hBx := Blk.new w2 25 #[.int .i64 n, .int .i64 ((j : Int) + 1)]
            have HSS : Hid (∀ w', Below (w2.alloc (.cells #[.int .i64 n, .int .i64 ((j : Int) + 1)] 25)).heap.size (w2.alloc (.cells #[.int .i64 n, .int .i64 ((j : Int) + 1)] 25)) w' → (Below (w2.alloc (.cells #[.int .i64 n, .int .i64 ((j : Int) + 1)] 25)).heap.size (w2.alloc (.cells #[.int .i64 n, .int .i64 ((j : Int) + 1)] 25)) w' ∧ w'.cell? ⟨w2.heap.size, 0, none⟩ = some (.int .i64 n) ∧ w'.cell? ⟨w2.heap.size, 1, none⟩ = some (.int .i64 ((j : Int) + 1)) ∧ w'.cell? ⟨g, len * 2, none⟩ = some (.int .i64 lx) ∧ w'.cell? ⟨g, len * 2 + 1, none⟩ = some (.int .i64 ly))) := hide (by
              intro w' hw
              obtain ⟨y1, _, _, _⟩ := hBx.after hw (by simp)
              have hgw : Below wr.heap.size wr w' := (hb2.alloc hb2' _).trans (hw.mono (by simp; omega))
              exact ⟨hw, (y1 0).trans rfl, (y1 1).trans rfl, (hgw.cell (p := ⟨_, _, none⟩) hglt).trans HC.out.1, (hgw.cell (p := ⟨_, _, none⟩) hglt).trans HC.out.2⟩)
            go_wp2_with fail
            go_region_held3 (fun w' => Below (w2.alloc (.cells #[.int .i64 n, .int .i64 ((j : Int) + 1)] 25)).heap.size (w2.alloc (.cells #[.int .i64 n, .int .i64 ((j : Int) + 1)] 25)) w' ∧ w'.cell? ⟨w2.heap.size, 0, none⟩ = some (.int .i64 n) ∧ w'.cell? ⟨w2.heap.size, 1, none⟩ = some (.int .i64 ((j : Int) + 1)) ∧ w'.cell? ⟨g, len * 2, none⟩ = some (.int .i64 lx) ∧ w'.cell? ⟨g, len * 2 + 1, none⟩ = some (.int .i64 ly))
              (first | assumption | exact HSS.out _ (Below.refl _ _).drew | exact HSS.out _ (bnext (by assumption) hb3))
              ((go_at_call 74; refine (hSg _).mono ?_; rintro e w3 ⟨rfl, hb3⟩))
            have hq : Below (w2.alloc (.cells #[.int .i64 n, .int .i64 ((j : Int) + 1)] 25)).heap.size (w2.alloc (.cells #[.int .i64 n, .int .i64 ((j : Int) + 1)] 25)) w3 := (Below.refl _ _).drew.trans hb3
            have hgw : Below wr.heap.size wr w3 := (hb2.alloc hb2' _).trans (hq.mono (by simp; omega))
            obtain ⟨y1, _, _, _⟩ := hBx.after hq (by simp)
            have y2 := y1 0
            have y3 := y1 1
            have hB3 := bstep hbel hgw sz
            have sz3 := hB3.size
            have sw := hgw.size
            go_wp2_with (at_builtin; refine wpList_append_lies _ rfl (.tmp 65) (.tmp 67) _ rfl 0 25 i0 _ 2 16 Try.underlying28 hinf hz0 hz1 hz2 rfl (by omega) (.slice (some ⟨g, 0, none⟩) (len + 1) c) (len + 1) (cs2 (bbl p q j)) (by rfl) (((HW.out.below hgw hglt).alloc _).own (Nat.zero_le g)) ⟨w3.heap.size, 0, none⟩ 1 1 (cs2 [(n, (j : Int) + 1)]) (by rfl) (by rfl) (news_new (by simp)) (one2 _) (by omega) (by simp only [maxLen]; omega) (by omega) (Nat.zero_le _) (w3.heap.size + 1) (by simp) ?_; intro g1 cc w4 hown1 hgrow1 hat1 hlt1)
            go_roundw
            case rel =>
              have hg1 : w.heap.size + 1 ≤ g1 := by
                rcases at_old hat1 with h | h <;> omega
              refine ⟨j + 1, g1, cc, by simp, by omega, by rw [HBB.out, List.length_append, HLEN.out]; rfl, by omega, ?_, ?_, ?_⟩
              · have := (Row.of_own hown1).1
                rw [HBB.out, List.length_append, HLEN.out, cs2_append]; exact this
              · exact ((HB.out.after hgw a3).2.2.2.out.alloc _).grown hgrow1 (fun h => by simp [Value.ownBlock] at h; omega)
              · exact (hB3.alloc sz3 _).grown hgrow1 (by simp; omega) (fun k h => by simp [Value.ownBlock] at h; omega)
            case measure => simp [intOf]; omega
          · have hb1 : bbl p q (j + 1) = bbl p q j := by rw [hbb, if_neg (by simpa using hd)]
            have HBB := hide hb1
            obtain ⟨sv, hsv⟩ : ∃ sv, sg3 v u = sv := ⟨_, rfl⟩
            have hs1 : (sv == 1) = false := by
              rw [← hsv]; unfold sg3
              by_cases h : v < u
              · rw [if_pos h]; rfl
              · rw [if_neg h, if_neg hd]; rfl
            rw [hsv] at hSg
            clear hb1 hbb hsv
            go_wp2_with fail
            refine (hF _).mono ?_
            rintro e w2 ⟨rfl, rfl⟩
            go_wp2_with fail
            refine (hMk _ (by omega) (by omega) (by omega)).mono ?_
            rintro e w2 ⟨rfl, hb2⟩
            have hb2' := hb2.size
            have hBx := Blk.new w2 25 #[.int .i64 n, .int .i64 ((j : Int) + 1)]
            have HSS : Hid (∀ w', Below (w2.alloc (.cells #[.int .i64 n, .int .i64 ((j : Int) + 1)] 25)).heap.size (w2.alloc (.cells #[.int .i64 n, .int .i64 ((j : Int) + 1)] 25)) w' → (Below (w2.alloc (.cells #[.int .i64 n, .int .i64 ((j : Int) + 1)] 25)).heap.size (w2.alloc (.cells #[.int .i64 n, .int .i64 ((j : Int) + 1)] 25)) w' ∧ w'.cell? ⟨w2.heap.size, 0, none⟩ = some (.int .i64 n) ∧ w'.cell? ⟨w2.heap.size, 1, none⟩ = some (.int .i64 ((j : Int) + 1)) ∧ w'.cell? ⟨g, len * 2, none⟩ = some (.int .i64 lx) ∧ w'.cell? ⟨g, len * 2 + 1, none⟩ = some (.int .i64 ly))) := hide (by
              intro w' hw
              obtain ⟨y1, _, _, _⟩ := hBx.after hw (by simp)
              have hgw : Below wr.heap.size wr w' := (hb2.alloc hb2' _).trans (hw.mono (by simp; omega))
              exact ⟨hw, (y1 0).trans rfl, (y1 1).trans rfl, (hgw.cell (p := ⟨_, _, none⟩) hglt).trans HC.out.1, (hgw.cell (p := ⟨_, _, none⟩) hglt).trans HC.out.2⟩)
            go_wp2_with fail
            go_region_held3 (fun w' => Below (w2.alloc (.cells #[.int .i64 n, .int .i64 ((j : Int) + 1)] 25)).heap.size (w2.alloc (.cells #[.int .i64 n, .int .i64 ((j : Int) + 1)] 25)) w' ∧ w'.cell? ⟨w2.heap.size, 0, none⟩ = some (.int .i64 n) ∧ w'.cell? ⟨w2.heap.size, 1, none⟩ = some (.int .i64 ((j : Int) + 1)) ∧ w'.cell? ⟨g, len * 2, none⟩ = some (.int .i64 lx) ∧ w'.cell? ⟨g, len * 2 + 1, none⟩ = some (.int .i64 ly))
              (first | assumption | exact HSS.out _ (Below.refl _ _).drew | exact HSS.out _ (bnext (by assumption) hb3))
              ((go_at_call 74; refine (hSg _).mono ?_; rintro e w3 ⟨rfl, hb3⟩))
            have hq : Below (w2.alloc (.cells #[.int .i64 n, .int .i64 ((j : Int) + 1)] 25)).heap.size (w2.alloc (.cells #[.int .i64 n, .int .i64 ((j : Int) + 1)] 25)) w3 := (Below.refl _ _).drew.trans hb3
            have hgw : Below wr.heap.size wr w3 := (hb2.alloc hb2' _).trans (hq.mono (by simp; omega))
            obtain ⟨y1, _, _, _⟩ := hBx.after hq (by simp)
            have y2 := y1 0
            have y3 := y1 1
            have hB3 := bstep hbel hgw sz
            have sz3 := hB3.size
            have sw := hgw.size
            go_wp2
            go_roundw
            case rel =>
              exact ⟨j + 1, g, c, by simp, by omega, by rw [HBB.out, HLEN.out], by omega, by rw [HBB.out, HLEN.out]; exact HW.out.below hgw hglt, (HB.out.after hgw a3).2.2.2.out, hB3⟩
            case measure => simp [intOf]; omega
      · have hg0 := Int.gcd_pos_of_ne_zero_right n (show (j : Int) + 1 ≠ 0 by omega)
        have hdv := Int.gcd_dvd_right n ((j : Int) + 1)
        have q1 := quot_bd' hg0 hdv (M := 1000000000) (by omega)
        have hne : ((j : Int) + 1) / (Int.gcd n ((j : Int) + 1) : Nat) ≠ (j : Int) + 1 := by
          intro h
          have h2 := Int.ediv_mul_cancel hdv
          rw [h] at h2
          have h3 : ((j : Int) + 1) * (Int.gcd n ((j : Int) + 1) : Nat) = ((j : Int) + 1) * 1 := by omega
          have h4 := Int.eq_of_mul_eq_mul_left (by omega) h3
          exact hone (by exact_mod_cast h4)
        have hb1 : bbl p q (j + 1) = bbl p q j := by rw [hbb, if_neg (fun h => hone (hgc h))]
        have HBB := hide hb1
        generalize n / (Int.gcd n ((j : Int) + 1) : Nat) = xa at *
        generalize ((j : Int) + 1) / (Int.gcd n ((j : Int) + 1) : Nat) = xb at *
        have hbq : (xb == (j : Int) + 1) = false := beq_eq_false_iff_ne.2 hne
        obtain ⟨len, hlen⟩ : ∃ len, (bbl p q j).length = len := ⟨_, rfl⟩
        rw [hlen] at hrow ⊢
        have HLEN := hide hlen
        have HW := hide hrow
        have hglt := hrow.lt
        clear hb1 hbb hgc hone hrow hg0 hdv hne hlen
        go_wp2_with fail
        refine (hF _).mono ?_
        rintro e w2 ⟨rfl, rfl⟩
        go_wp2_with fail
        refine (hMk _ (by omega) (by omega) (by omega)).mono ?_
        rintro e w2 ⟨rfl, hb2⟩
        have hb2' := hb2.size
        go_wp2_with fail
        go_quiet (fail)
        go_wp2
        exact ⟨⟨j + 1, g, c, by simp, by omega, by rw [HBB.out, HLEN.out], by omega, by rw [HBB.out, HLEN.out]; exact ((HW.out.below hb2 hglt).alloc _).drewN _, ((HB.out.after hb2 a3).2.2.2.out.alloc _).drewN _, belowN ((bstep hbel hb2 sz).alloc (by omega) _) _⟩, by simp [intOf]; omega⟩
    · have hjM : j = M := by omega
      subst hjM
      have hlb := bbl_len p q j
      have HL := hide (LstF.of_row (B := w.heap.size) hrow (by omega) (by omega))
      clear hrow
      generalize (bbl p q j).length = len at *
      clear hlb
      rcases (show k < (j : Int) + 1 ∨ ((j : Int) + 1 ≤ k ∧ q < (j : Int) + 1) from by omega) with hx | ⟨hx, hy⟩
      all_goals
        go_wp2
        go_ret
        exact ⟨_, rfl, HL.out, hbel⟩

set_option maxRecDepth 100000 in
theorem specBestBelow_any (p q k : Int) (w : World) :
    Calls Try.prog 8 #[.agg #[.int .i64 p, .int .i64 q], .int .i64 k] w fun e w' => ∃ v, e = .returned (.tuple #[v, .int .i64 (bbc p q k)]) ∧ LstF w' w.heap.size v (bbx p q k) ∧ Below w.heap.size w w' := by
  have hC := l19Small_any p q k
  by_cases hok : okF p q = true ∧ 1 ≤ k ∧ k ≤ 10000
  · obtain ⟨ho, hk⟩ := hok
    obtain ⟨o1, o2, _⟩ := okF_iff.1 ho
    have e1 : bbc p q k = 0 := by unfold bbc; rw [if_pos ho, if_pos hk]
    have e2 : bbx p q k = bbl p q (min k q).toNat := by unfold bbx; rw [if_pos ⟨ho, hk⟩]
    obtain ⟨M, hM⟩ : ∃ M : Nat, min k q = M := ⟨(min k q).toNat, by omega⟩
    rw [hM, Int.toNat_natCast] at e2
    have hL := fun w => l19List_any p q k M w o1 o2 hk hM
    rw [e1] at hC
    rw [e1, e2]
    clear e1 e2 ho hM
    go_enter Try.func8, Try.ntmps8
    go_wp2_with fail
    refine (hC _).mono ?_
    rintro e w1 ⟨rfl, hb1⟩
    obtain ⟨a1, _, k3, HA⟩ := (Blk.new w 25 #[.int .i64 p, .int .i64 q]).after hb1 (by simp)
    have x0 := a1 0
    have x1 := a1 1
    have hB := bstep (show Below w.heap.size w _ by go_grown) hb1 (by simp)
    clear a1 hb1
    go_wp2_with fail
    refine (hL _).mono ?_
    rintro e w2 ⟨v, rfl, hl, hb2⟩
    have hl2 := hl.base hB.size
    have HL := hide hl2
    clear hl hl2
    go_wp2_with fail
    go_returns
    exact ⟨_, rfl, HL.out, bstep hB hb2 hB.size⟩
  · have e2 : bbx p q k = [] := by unfold bbx; rw [if_neg hok]
    have hc : bbc p q k ≠ 0 := by
      unfold bbc
      by_cases ho : okF p q = true
      · rw [if_pos ho, if_neg (fun h => hok ⟨ho, h⟩)]; decide
      · rw [if_neg ho]; decide
    rw [e2]
    generalize bbc p q k = c at *
    have hb : (c != 0) = true := by simp [hc]
    clear e2 hok
    go_enter Try.func8, Try.ntmps8
    go_wp2_with fail
    refine (hC _).mono ?_
    rintro e w1 ⟨rfl, hb1⟩
    have hB := bstep (show Below w.heap.size w _ by go_grown) hb1 (by simp)
    go_wp2_with fail
    go_returns
    exact ⟨_, rfl, LstF.nil_ _ _, hB⟩

end Go.Proofs.Ytnjilpldfidbjaa
