/- convergents, stepsTo: the program's; l19Code: the reference's. -/
import Derived.Test.YtnjilpldfidbjaaStpA
import Derived.Test.YtnjilpldfidbjaaExp2
namespace Go.Proofs.Ytnjilpldfidbjaa
open Go.RowKit

theorem infoF : (Try.prog.info? 25).map (fun i => (i.zero, i.size, i.bytes)) = some (some (.agg #[.int .i64 0, .int .i64 0]), 2, 16) := by kernel_rfl

/-- The convergents, one by one. -/
def cvl (p : Int) (q k : Nat) : List (Int × Int) := (List.range k).map fun i => ((cv p q (i + 1)).p, (cv p q (i + 1)).q)
theorem cvl_succ (p : Int) (q k : Nat) : cvl p q (k + 1) = cvl p q k ++ [((cv p q (k + 1)).p, (cv p q (k + 1)).q)] := by simp [cvl, List.range_succ]
theorem cvl_len (p : Int) (q k : Nat) : (cvl p q k).length = k := by simp [cvl]
theorem cvl_at {p : Int} {q k i : Nat} (h : i < k) : (cvl p q k)[i]'(by rw [cvl_len]; exact h) = ((cv p q (i + 1)).p, (cv p q (i + 1)).q) := by simp [cvl]
/-- The intermediate fractions behind two convergents. -/
def stl (C : C4) (n : Nat) : List (Int × Int) := (List.range n).map fun i : Nat => (((i : Int) + 1) * C.p + C.pp, ((i : Int) + 1) * C.q + C.qq)
theorem stl_succ (C : C4) (n : Nat) : stl C (n + 1) = stl C n ++ [(((n : Int) + 1) * C.p + C.pp, ((n : Int) + 1) * C.q + C.qq)] := by simp [stl, List.range_succ]
theorem stl_len (C : C4) (n : Nat) : (stl C n).length = n := by simp [stl]

theorem prod_bd {t c : Int} (ht : 0 ≤ t ∧ t ≤ 1001) (hc : -1000000000 ≤ c ∧ c ≤ 1000000000) : -1001000000000 ≤ t * c ∧ t * c ≤ 1001000000000 := by
  have h1 : t * c ≤ t * 1000000000 := Int.mul_le_mul_of_nonneg_left hc.2 ht.1
  have h2 : t * (-1000000000) ≤ t * c := Int.mul_le_mul_of_nonneg_left hc.1 ht.1
  omega

set_option maxRecDepth 100000 in
set_option maxHeartbeats 1000000 in
theorem stepsTo_any (C : C4) (n : Nat) (w : World) (hn : 1 ≤ n ∧ n ≤ 1000) (h1 : -1000000000 ≤ C.p ∧ C.p ≤ 1000000000) (h2 : 0 ≤ C.q ∧ C.q ≤ 1000000000) (h3 : -1000000000 ≤ C.pp ∧ C.pp ≤ 1000000000) (h4 : 0 ≤ C.qq ∧ C.qq ≤ 1000000000) :
    Calls Try.prog 60 #[.agg #[.int .i64 C.pp, .int .i64 C.qq], .agg #[.int .i64 C.p, .int .i64 C.q], .int .i64 n] w fun e w' => ∃ g cap, e = .returned (.slice (some ⟨g, 0, none⟩) n cap) ∧ w.heap.size ≤ g ∧ Row w' g 25 2 n cap (cs2 (stl C n)) ∧ Below w.heap.size w w' := by
  obtain ⟨i0, hinf, hz0, hz1, hz2⟩ := info_parts infoF
  obtain ⟨p, q, pp, qq⟩ := C
  simp only at h1 h2 h3 h4
  simp only
  go_enter Try.func60, Try.ntmps60
  go_wp2
  go_loopw [7, 8] (fun v i wr => ∃ j : Nat, i = .int .i64 ((j : Int) + 1) ∧ j ≤ n ∧ ((j = 0 ∧ v = .slice none 0 0) ∨ ∃ g c, 0 < j ∧ v = .slice (some ⟨g, 0, none⟩) j c ∧ w.heap.size + 2 ≤ g ∧ Row wr g 25 2 j c (cs2 (stl ⟨p, q, pp, qq⟩ j))) ∧ Blk wr w.heap.size 25 #[.int .i64 pp, .int .i64 qq] ∧ Blk wr (w.heap.size + 1) 25 #[.int .i64 p, .int .i64 q] ∧ Below w.heap.size w wr) (fun _ i _ => n + 1 - (intOf i).toNat)
  case atStart => exact ⟨0, rfl, by omega, .inl ⟨rfl, rfl⟩, (Blk.new w _ _).alloc _, Blk.newAt (by simp), by go_grown⟩
  case round =>
    obtain ⟨j, rfl, hj, hv, hb1, hb2, hbel⟩ := hrel
    have sz := hbel.size
    obtain ⟨a1, _, a3, HA⟩ := hb1.after (Below.refl _ _) hb1.lt
    obtain ⟨b1, _, b3, HB⟩ := hb2.after (Below.refl _ _) hb2.lt
    have x0 := a1 0
    have x1 := a1 1
    have y0 := b1 0
    have y1 := b1 1
    clear a1 b1 hb1 hb2
    by_cases hlt : j < n
    · have HS := hide (stl_succ ⟨p, q, pp, qq⟩ j)
      have m1 := prod_bd (t := (j : Int) + 1) (c := p) (by omega) h1
      have m2 := prod_bd (t := (j : Int) + 1) (c := q) (by omega) (by omega)
      obtain ⟨u, hu⟩ : ∃ u, ((j : Int) + 1) * p = u := ⟨_, rfl⟩
      obtain ⟨v2, hv2⟩ : ∃ v2, ((j : Int) + 1) * q = v2 := ⟨_, rfl⟩
      rw [hu] at m1
      rw [hv2] at m2
      have HS2 := hide (show stl ⟨p, q, pp, qq⟩ (j + 1) = stl ⟨p, q, pp, qq⟩ j ++ [(u + pp, v2 + qq)] by rw [HS.out, ← hu, ← hv2])
      clear HS
      rcases hv with ⟨hj0, rfl⟩ | ⟨g, c, hj0, rfl, hg, hrow⟩
      · have HJ := hide hj0
        clear hj0
        go_wp2_with (at_builtin; refine wpList_append_lies _ rfl (.tmp 14) (.tmp 30) _ rfl 0 25 i0 _ 2 16 Try.underlying28 hinf hz0 hz1 hz2 rfl (by omega) (.slice none 0 0) 0 [] (by rfl) (World.ownsRow_nil _ _ _ _) ⟨wr.heap.size, 0, none⟩ 1 1 (cs2 [(u + pp, v2 + qq)]) (by rfl) (by rfl) (news_new (by simp)) (one2 _) (by omega) (by simp only [maxLen]; omega) (by omega) (Nat.zero_le _) (wr.heap.size + 1) (by simp) ?_; intro g1 cc w2 hown1 hgrow1 hat1 hlt1)
        go_roundw
        case rel =>
          have hg1 : g1 = wr.heap.size + 1 := by rcases hat1 with h | h; · cases h
                                                 · exact h
          have hj0 := HJ.out
          subst hj0
          refine ⟨1, by simp, by omega, .inr ⟨g1, cc, by omega, rfl, by omega, by rw [HS2.out]; exact (Row.of_own hown1).1⟩, (HA.out.alloc _).grown hgrow1 (fun h => by cases h), (HB.out.alloc _).grown hgrow1 (fun h => by cases h), ?_⟩
          exact (hbel.alloc sz _).grown hgrow1 (by simp; omega) (fun k h => by cases h)
        case measure => simp [intOf]; omega
      · have hglt := hrow.lt
        have hcap := hrow.cap_
        have HW := hide hrow
        clear hrow
        go_wp2_with (at_builtin; refine wpList_append_lies _ rfl (.tmp 14) (.tmp 30) _ rfl 0 25 i0 _ 2 16 Try.underlying28 hinf hz0 hz1 hz2 rfl (by omega) (.slice (some ⟨g, 0, none⟩) j c) j (cs2 (stl ⟨p, q, pp, qq⟩ j)) (by rfl) ((HW.out.alloc _).own (Nat.zero_le g)) ⟨wr.heap.size, 0, none⟩ 1 1 (cs2 [(u + pp, v2 + qq)]) (by rfl) (by rfl) (news_new (by simp)) (one2 _) (by omega) (by simp only [maxLen]; omega) (by omega) (Nat.zero_le _) (wr.heap.size + 1) (by simp) ?_; intro g1 cc w2 hown1 hgrow1 hat1 hlt1)
        go_roundw
        case rel =>
          have hg1 : w.heap.size + 2 ≤ g1 := by
            rcases at_old hat1 with h | h <;> omega
          refine ⟨j + 1, by simp, by omega, .inr ⟨g1, cc, by omega, rfl, by omega, ?_⟩, (HA.out.alloc _).grown hgrow1 (fun h => by simp [Value.ownBlock] at h; omega), (HB.out.alloc _).grown hgrow1 (fun h => by simp [Value.ownBlock] at h; omega), ?_⟩
          · have := (Row.of_own hown1).1
            rw [HS2.out, cs2_append]; exact this
          · exact (hbel.alloc sz _).grown hgrow1 (by simp; omega) (fun k h => by simp [Value.ownBlock] at h; omega)
        case measure => simp [intOf]; omega
    · have hjn : j = n := by omega
      subst hjn
      rcases hv with ⟨hj0, rfl⟩ | ⟨g, c, hj0, rfl, hg, hrow⟩
      · omega
      · have HW := hide hrow
        clear hrow
        go_wp2
        go_ret
        exact ⟨g, c, rfl, by omega, HW.out, hbel⟩

set_option maxRecDepth 100000 in
set_option maxHeartbeats 1000000 in
theorem convergents_any (p : Int) (q g n c : Nat) (w : World) (ho : okF p q = true) (hn : n = (terms p q).length) (h : Row w g 2 1 n c (il (terms p q))) :
    Calls Try.prog 59 #[.slice (some ⟨g, 0, none⟩) n c] w fun e w' => ∃ g' c', e = .returned (.tuple #[.slice (some ⟨g', 0, none⟩) n c', .bool true]) ∧ w.heap.size ≤ g' ∧ Row w' g' 25 2 n c' (cs2 (cvl p q n)) ∧ Below w.heap.size w w' := by
  obtain ⟨i0, hinf, hz0, hz1, hz2⟩ := info_parts infoF
  have hl60 := len_half 30 p q (by have := okF_iff.1 ho; omega)
  rw [← hn] at hl60
  have hglt := h.lt
  have HH := hide h
  have HN := hide hn
  clear h hn
  go_enter Try.func59, Try.ntmps59
  go_wp2_with (at_make; refine wpList_make_own _ rfl _ _ 28 rfl 0 25 i0 _ 2 Try.underlying28 hinf hz0 hz1 .i64 .i64 n n rfl rfl rfl (by rw [hz2]; omega) (by simp only [maxLen]; omega) (Nat.zero_le _) ?_; rotate_right; intro w0 hown hgrow)
  have hB0 := (Below.refl w.heap.size w).grown hgrow (Nat.le_refl _) (fun k h => by cases h)
  go_loopw [4, 5, 6, 7, 8, 17] (fun v a b a0 b0 i wr => ∃ (k g' c' : Nat), i = .int .i64 k ∧ k ≤ n ∧ a = .int .i64 (cv p q k).p ∧ b = .int .i64 (cv p q k).q ∧ a0 = .int .i64 (cv p q k).pp ∧ b0 = .int .i64 (cv p q k).qq ∧ v = .slice (some ⟨g', 0, none⟩) k c' ∧ w.heap.size ≤ g' ∧ Row wr g' 25 2 k c' (cs2 (cvl p q k)) ∧ Below w.heap.size w wr) (fun _ _ _ _ _ i _ => n - (intOf i).toNat)
  case atStart => exact ⟨0, w.heap.size, n, rfl, by omega, rfl, rfl, rfl, rfl, rfl, by omega, (Row.of_own hown).1, hB0⟩
  case round =>
    obtain ⟨k, g', c', rfl, hk, rfl, rfl, rfl, rfl, rfl, hg, hrow, hbel⟩ := hrel
    have sz := hbel.size
    have hrlt := hrow.lt
    have hcap := hrow.cap_
    have HW := hide hrow
    clear hrow
    by_cases hlt : k < n
    · have hkl : k < (terms p q).length := by rw [← HN.out]; exact hlt
      have hT := (HH.out.below hbel hglt).cell (il_at hkl)
      have hnx := cv_succ hkl
      have hok := cv_ok ho k
      have HS := hide (cvl_succ p q k)
      have d1 := cv_bd ho k
      have d2 := cv_bd2 ho (k := k) (by omega)
      have d3 := cv_bd ho (k + 1)
      generalize (terms p q)[k] = t at *
      have n1 : (cv p q (k + 1)).p = t * (cv p q k).p + (cv p q k).pp := by rw [hnx]; rfl
      have n2 : (cv p q (k + 1)).q = t * (cv p q k).q + (cv p q k).qq := by rw [hnx]; rfl
      have n3 : (cv p q (k + 1)).pp = (cv p q k).p := by rw [hnx]; rfl
      have n4 : (cv p q (k + 1)).qq = (cv p q k).q := by rw [hnx]; rfl
      have H3 := hide n3
      have H4 := hide n4
      have hV := implValid_any (cv p q (k + 1)).p (cv p q (k + 1)).q
      rw [hok] at hV
      clear hnx n3 n4 hok
      generalize hP : (cv p q (k + 1)).p = P at *
      generalize hQ : (cv p q (k + 1)).q = Q at *
      generalize hp : (cv p q k).p = a at *
      generalize hq : (cv p q k).q = b at *
      generalize hp0 : (cv p q k).pp = a0 at *
      generalize hq0 : (cv p q k).qq = b0 at *
      obtain ⟨u, hu⟩ : ∃ u, t * a = u := ⟨_, rfl⟩
      obtain ⟨v, hv⟩ : ∃ v, t * b = v := ⟨_, rfl⟩
      rw [hu] at n1
      rw [hv] at n2
      have HP := hide hP
      have HQ := hide hQ
      have n1' : u + a0 = P := n1.symm
      have n2' : v + b0 = Q := n2.symm
      clear hP hQ hp hq hp0 hq0 n1 n2
      have hb0 : Below wr.heap.size wr (wr.alloc (.cells #[.int .i64 P, .int .i64 Q] 25)) := by go_grown
      go_wp2_with fail
      refine (hV _).mono ?_
      rintro e w1 ⟨rfl, hb1⟩
      obtain ⟨c1, _, c3, HA⟩ := (Blk.new wr 25 #[.int .i64 P, .int .i64 Q]).after hb1 (by simp)
      have x0 := c1 0
      have x1 := c1 1
      have hb2 := bstep hb0 hb1 (by simp)
      have HW2 := hide (HW.out.below hb2 hrlt)
      have hB := bstep hbel hb2 sz
      have sz2 := hb2.size
      have HB2 := hide hb2
      clear c1 hb0 hb1 hb2
      go_wp2_with (at_builtin; refine wpList_append_lies _ rfl (.tmp 39) (.tmp 41) _ rfl 0 25 i0 _ 2 16 Try.underlying28 hinf hz0 hz1 hz2 rfl (by omega) (.slice (some ⟨g', 0, none⟩) k c') k (cs2 (cvl p q k)) (by rfl) ((HW2.out.alloc _).own (Nat.zero_le g')) ⟨w1.heap.size, 0, none⟩ 1 1 (cs2 [(P, Q)]) (by rfl) (by rfl) (news_new (by simp)) (one2 _) (by omega) (by simp only [maxLen]; omega) (by omega) (Nat.zero_le _) (w1.heap.size + 1) (by simp) ?_; intro g1 cc w2 hown1 hgrow1 hat1 hlt1)
      go_roundw
      case rel =>
        have hg1 : w.heap.size ≤ g1 := by
          rcases at_old hat1 with h | h <;> omega
        refine ⟨k + 1, g1, cc, by go_num, by omega, by rw [HP.out], by rw [HQ.out], by rw [H3.out], by rw [H4.out], rfl, hg1, ?_, ?_⟩
        · have := (Row.of_own hown1).1
          rw [HS.out, cs2_append]; exact this
        · exact (hB.alloc (by omega) _).grown hgrow1 (by simp; omega) (fun k h => by simp [Value.ownBlock] at h; omega)
      case measure => simp [intOf]; omega
    · have hkn : k = n := by omega
      subst hkn
      go_wp2
      go_returns
      exact ⟨g', c', rfl, hg, HW.out, hbel⟩

end Go.Proofs.Ytnjilpldfidbjaa
