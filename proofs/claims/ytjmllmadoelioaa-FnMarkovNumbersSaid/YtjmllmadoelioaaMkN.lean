/- MarkovNumbers: the program's and the reference's walks, and the law's. -/
import Derived.Test.YtjmllmadoelioaaMkC
import Derived.Test.YtjmllmadoelioaaCmpI
import Derived.Test.YtjmllmadoelioaaHeld
namespace Go.Proofs.Ytjmllmadoelioaa
open Go.RowKit

def zl (ts : List T3) : List Int := ts.map T3.z
theorem zl_len (ts : List T3) : (zl ts).length = ts.length := by simp [zl]
theorem zl_at {ts : List T3} {i : Nat} (hi : i < ts.length) : (zl ts).getD i 0 = ts[i].z := by
  rw [List.getD_eq_getElem?_getD, List.getElem?_eq_getElem (by rw [zl_len]; exact hi)]; simp [zl]
/-- All Markov numbers up to a limit. -/
def mnx (M : Int) : List Int := if inB M 1 1000000 = true then puts (zl (allT M)) else []
theorem puts_perm {A B : List Int} (h : A.Perm B) : puts A = puts B := by
  obtain ⟨a1, a2, _⟩ := puts_asc_mem A
  obtain ⟨b1, b2, _⟩ := puts_asc_mem B
  exact asc_unique a1 b1 (fun x => by rw [a2, b2, h.mem_iff])
theorem allT_ne (M : Int) : 0 < (allT M).length := by simp [allT, small]
theorem take_snoc_I {L : List Int} {j : Nat} (h : j < L.length) : L.take (j + 1) = L.take j ++ [L.getD j 0] := by
  rw [List.take_succ_eq_append_getElem h, List.getD_eq_getElem?_getD, List.getElem?_eq_getElem h]; rfl
theorem size_alloc_ (w : World) (o : Obj) : (w.alloc o).heap.size = w.heap.size + 1 := by simp

set_option maxHeartbeats 1000000 in
set_option maxRecDepth 100000 in
theorem implMarkovNumbers_any (M : Int) (w : World) :
    Calls Try.prog 30 #[.int .i64 M] w fun e w' => ∃ v, e = .returned (.tuple #[v, .int .i64 (mcode M)]) ∧ Lst w' w.heap.size v (mnx M) ∧ Below w.heap.size w w' := by
  by_cases hb : inB M 1 1000000 = true
  · obtain ⟨h1, h2⟩ := inB_iff.1 hb
    have ec : mcode M = 0 := by unfold mcode; rw [if_pos hb]
    have ex : mnx M = puts (zl (allT M)) := by unfold mnx; rw [if_pos hb]
    rw [ec, ex]
    obtain ⟨i0, hi, hz0, hz1, hz2⟩ := info_parts info_i64
    have hA := allT_len M
    have hA0 := allT_ne M
    clear ec ex
    go_enter Try.func30, Try.ntmps30
    go_wp2_with fail
    refine (isListed_any _ _).mono ?_
    rintro e w' ⟨rfl, rfl⟩
    rw [hb]
    go_wp2_with fail
    refine (triplesUpTo_any M _ h1 h2).mono ?_
    rintro e w1 ⟨g, cap, ts, rfl, hg, hr, hp, hb1⟩
    have hl := hp.length_eq
    have hpz : (zl ts).Perm (zl (allT M)) := hp.map T3.z
    have HPZ := hide (puts_perm hpz)
    rw [← hl] at hA hA0
    obtain ⟨n, hn⟩ : ∃ n, ts.length = n := ⟨_, rfl⟩
    rw [hn] at hr hA hA0 ⊢
    have HN := hide hn
    have HR := hide hr
    have hglt := hr.lt
    have hsz := hb1.size
    clear hr hp hl hpz hn
    go_wp2_with fail
    go_loopw [4, 13] (fun lv iv wr => ∃ j : Nat, iv = .int .i64 j ∧ j ≤ n ∧ wr.ownsRow w1.heap.size 2 1 lv j (il ((zl ts).take j)) ∧ Below w1.heap.size w1 wr) (fun _ iv _ => n - (intOf iv).toNat)
    case atStart => exact ⟨0, rfl, by omega, own_nil _ _ _ _, Below.refl _ _⟩
    case round =>
      obtain ⟨j, rfl, hj, hown, hbel⟩ := hrel
      have sr := hbel.size
      by_cases hlt : j < n
      · have hll : j < ts.length := by rw [HN.out]; exact hlt
        obtain ⟨q1, q2, q3⟩ := cs3_at hll
        have hrow := HR.out.below hbel hglt
        have y1 := hrow.cell q1
        have y2 := hrow.cell q2
        have y3 := hrow.cell q3
        have hstep := take_snoc_I (L := zl ts) (j := j) (by rw [zl_len]; exact hll)
        rw [zl_at hll] at hstep
        generalize ts[j].x = x at *
        generalize ts[j].y = y at *
        generalize ts[j].z = z at *
        have HS := hide hstep
        have HOW := hide hown
        have i1 : (j : Int) < (n : Int) := by omega
        clear hown hstep hrow q1 q2 q3 hll
        go_wp2_with (at_builtin; refine wpList_append_own _ rfl (.tmp 17) (.tmp 20) _ rfl w1.heap.size 2 i0 _ 1 8 Try.underlying48 hi hz0 hz1 hz2 rfl (by omega) u4 j (il ((zl ts).take j)) (by rfl) (own_below HOW.out (Below.trans (Below.alloc (Below.refl _ _) (Nat.le_refl _) _) (Below.alloc (Below.refl _ _) (by simp) _))) ⟨wr.heap.size + 1, 0, none⟩ 1 1 (il [z]) (by rfl) (by rfl) (news_new (by simp)) (one_il _) (by simp only [maxLen]; omega) (by omega) (by simp; omega) ?_; intro v8 w8 hown8 hgrow8 hnil8)
        rw [← il_append] at hown8
        have HO8 := hide hown8
        clear hown8 hnil8
        go_wp2_with fail
        go_roundw
        case rel => exact ⟨j + 1, by go_num, by omega, by rw [HS.out]; exact HO8.out, ((hbel.alloc sr _).alloc (by simp; omega) _).grown hgrow8 (by simp; omega) (own_base HOW.out)⟩
        case measure => simp [intOf]; omega
      · have hjn : j = n := by omega
        subst hjn
        rw [List.take_of_length_le (by rw [zl_len, HN.out]; exact Nat.le_refl _)] at hown
        obtain ⟨g2, cap2, rfl, hg2, hr2⟩ := own_pos hown hA0
        have hS := sortI_any g2 j cap2 (zl ts) wr (by omega) hr2
        have hdd := (dd_puts (srt_perm (zl ts)) (srt_sorted _)).1
        have hple := (puts_asc_mem (zl ts)).2.2
        rw [zl_len, HN.out] at hple
        clear hown hr2
        go_wp2_with fail
        refine hS.mono ?_
        rintro e w3 ⟨rfl, hr3, hgr3⟩
        have hC := compactI_any g2 j cap2 (srt (zl ts)) w3 (by omega) hr3
        rw [hdd, HPZ.out] at hC
        rw [HPZ.out] at hple
        clear hr3 hS hdd
        go_wp2_with fail
        refine hC.mono ?_
        rintro e w4 ⟨rfl, hr4, hgr4⟩
        have HL := hide (Lst.of_row (B := w.heap.size) hr4 (by omega) (by omega))
        have hb3 : Below w1.heap.size w1 w3 := hbel.grown hgr3 sr (fun k h => by injection h; omega)
        have hb4 : Below w1.heap.size w1 w4 := hb3.grown hgr4 hb3.size (fun k h => by injection h; omega)
        clear hr4 hC
        go_wp2_with fail
        go_returns
        exact ⟨_, rfl, HL.out, bstep hb1 hb4 hsz⟩
  · have hb' : inB M 1 1000000 = false := by simpa using hb
    have ec : mcode M = 2 := by unfold mcode; rw [if_neg hb]
    have ex : mnx M = [] := by unfold mnx; rw [if_neg hb]
    rw [ec, ex]
    go_enter Try.func30, Try.ntmps30
    go_wp2_with fail
    refine (isListed_any _ _).mono ?_
    rintro e w' ⟨rfl, rfl⟩
    rw [hb']
    go_wp2_with fail
    go_returns
    exact ⟨_, rfl, Lst.nil_ _ _, Below.refl _ _⟩

set_option maxHeartbeats 1000000 in
set_option maxRecDepth 100000 in
theorem specMarkovNumbers_any (M : Int) (w : World) :
    Calls Try.prog 29 #[.int .i64 M] w fun e w' => ∃ v, e = .returned (.tuple #[v, .int .i64 (mcode M)]) ∧ Lst w' w.heap.size v (mnx M) ∧ Below w.heap.size w w' := by
  by_cases hb : inB M 1 1000000 = true
  · obtain ⟨h1, h2⟩ := inB_iff.1 hb
    have ec : mcode M = 0 := by unfold mcode; rw [if_pos hb]
    have ex : mnx M = puts (zl (allT M)) := by unfold mnx; rw [if_pos hb]
    rw [ec, ex]
    have hA := allT_len M
    have hA0 := allT_ne M
    clear ec ex
    go_enter Try.func29, Try.ntmps29
    go_wp2_with fail
    refine (l22Most_any _ _).mono ?_
    rintro e w' ⟨rfl, rfl⟩
    rw [hb]
    go_wp2_with fail
    refine (l22All_any M _ h1 h2).mono ?_
    rintro e w1 ⟨g, cap, ts, rfl, hg, hr, hp, hb1⟩
    have hl := hp.length_eq
    have hpz : (zl ts).Perm (zl (allT M)) := hp.map T3.z
    have HPZ := hide (puts_perm hpz)
    rw [← hl] at hA hA0
    obtain ⟨n, hn⟩ : ∃ n, ts.length = n := ⟨_, rfl⟩
    rw [hn] at hr hA hA0 ⊢
    have HN := hide hn
    have HR := hide hr
    have hglt := hr.lt
    have hsz := hb1.size
    have hlen := fun j => (puts_asc_mem ((zl ts).take j)).2.2
    have HLEN := hide hlen
    clear hr hp hl hpz hn hlen
    go_wp2_with fail
    go_loopw [5, 6] (fun ov iv wr => ∃ (j m g2 cap2 : Nat), iv = .int .i64 j ∧ j ≤ n ∧ (puts ((zl ts).take j)).length = m ∧ ov = .slice (some ⟨g2, 0, none⟩) m cap2 ∧ w1.heap.size ≤ g2 ∧ Row wr g2 2 1 m cap2 (il (puts ((zl ts).take j))) ∧ Below w1.heap.size w1 wr) (fun _ iv _ => n - (intOf iv).toNat)
    case atStart => exact ⟨0, 0, w1.heap.size, 0, rfl, by omega, rfl, rfl, Nat.le_refl _, Row.lit rfl (by rfl) (by omega), (Below.refl _ _).alloc (Nat.le_refl _) _⟩
    case round =>
      obtain ⟨j, m, g2, cap2, rfl, hj, hm, rfl, hg2, hrow, hbel⟩ := hrel
      have sr := hbel.size
      have hmj := HLEN.out j
      rw [hm, List.length_take, zl_len, HN.out] at hmj
      by_cases hlt : j < n
      · have hll : j < ts.length := by rw [HN.out]; exact hlt
        obtain ⟨q1, q2, q3⟩ := cs3_at hll
        have y3 := (HR.out.below hbel hglt).cell q3
        have hstep := take_snoc_I (L := zl ts) (j := j) (by rw [zl_len]; exact hll)
        rw [zl_at hll] at hstep
        generalize ts[j].z = a at *
        have hput : puts ((zl ts).take (j + 1)) = put (puts ((zl ts).take j)) a := by rw [hstep, puts_snoc]
        have hP := l00Put_any g2 m cap2 (puts ((zl ts).take j)) a wr (by omega) hrow
        rw [← hput] at hP
        have i1 : (j : Int) < (n : Int) := by omega
        have HP := hide hP
        clear q1 q2 q3 hstep hput hll hrow hm hP
        go_wp2_with fail
        refine HP.out.mono ?_
        rintro e w3 ⟨g3, cap3, rfl, hg3, hr3, hb3⟩
        have HR3 := hide hr3
        clear hr3 HP
        obtain ⟨m3, hm3⟩ : ∃ m3, (puts ((zl ts).take (j + 1))).length = m3 := ⟨_, rfl⟩
        rw [hm3] at HR3 ⊢
        have HM3 := hide hm3
        clear hm3
        go_wp2_with fail
        go_roundw
        case rel => exact ⟨j + 1, m3, g3, cap3, by go_num, by omega, HM3.out, rfl, by omega, HR3.out, hbel.trans (hb3.mono sr)⟩
        case measure => simp [intOf]; omega
      · have hjc : j = n := by omega
        subst hjc
        rw [List.take_of_length_le (by rw [zl_len, HN.out]; exact Nat.le_refl _)] at hrow hm
        rw [HPZ.out] at hrow hm
        have HL := hide (Lst.of_row (B := w.heap.size) hrow (by omega) (by omega))
        clear hrow hm
        go_wp2_with fail
        go_returns
        exact ⟨_, rfl, HL.out, bstep hb1 hbel hsz⟩
  · have hb' : inB M 1 1000000 = false := by simpa using hb
    have ec : mcode M = 2 := by unfold mcode; rw [if_neg hb]
    have ex : mnx M = [] := by unfold mnx; rw [if_neg hb]
    rw [ec, ex]
    go_enter Try.func29, Try.ntmps29
    go_wp2_with fail
    refine (l22Most_any _ _).mono ?_
    rintro e w' ⟨rfl, rfl⟩
    rw [hb']
    go_wp2_with fail
    go_returns
    exact ⟨_, rfl, Lst.nil_ _ _, Below.refl _ _⟩

set_option maxRecDepth 100000 in
theorem law_MarkovNumbers (M : Int) (w : World) :
    Calls Try.prog 8 #[.int .i64 M] w fun e w' => e = .returned (.bool true) ∧ Below w.heap.size w w' := by
  have hS := specMarkovNumbers_any M
  have hI := implMarkovNumbers_any M
  generalize (mnx M) = xs at *
  generalize (mcode M) = c at *
  go_enter Try.func8, Try.ntmps8
  have C0 := (Below.refl w.heap.size w)
  go_wp2_with fail
  refine (hS _).mono ?_
  rintro e w1 ⟨v0, rfl, Ls, hb⟩
  have C0 := C0.trans (hb.mono C0.size)
  clear hb
  have CA := Below.refl w1.heap.size w1
  have CZ := C0.size
  go_wp2_with fail
  refine (hI _).mono ?_
  rintro e w2 ⟨v1, rfl, Lg, hb⟩
  have C0 := C0.trans (hb.mono C0.size)
  have CA := CA.trans (hb.mono CA.size)
  clear hb
  go_wp2_with fail
  refine (eqLst_any _ _ _ _ xs _ Lg (Ls.keep CA)).mono ?_
  rintro e w3 ⟨rfl, m1, rfl⟩
  have C0 := belowN C0 m1
  have CA := belowN CA m1
  have Lg := Lg.drewN m1
  go_wp2_with fail
  refine (markLst_any _ w1.heap.size xs _ Lg).mono ?_
  rintro e w3b ⟨rfl, Lm, hb⟩
  have C0 := C0.trans (hb.mono CZ)
  have CA := CA.trans hb
  clear hb Lg
  go_wp2_with fail
  refine (heldLst_any _ _ xs.length _ Lm).mono ?_
  rintro e w4 ⟨rfl, rfl⟩
  go_wp2_with fail
  refine (hI _).mono ?_
  rintro e w5 ⟨v2, rfl, Lh, hb⟩
  have C0 := C0.trans (hb.mono C0.size)
  have CA := CA.trans (hb.mono CA.size)
  have Lm := Lm.keep hb
  clear hb
  go_wp2_with fail
  refine (eqLst_any _ _ _ _ xs _ Lh (Ls.keep CA)).mono ?_
  rintro e w6 ⟨rfl, m2, rfl⟩
  have Lm := Lm.drewN m2
  have C0 := belowN C0 m2
  go_wp2_with fail
  refine (heldLst_any _ _ xs.length _ Lm).mono ?_
  rintro e w7 ⟨rfl, rfl⟩
  go_wp2_with fail
  go_ret
  exact ⟨rfl, C0⟩

end Go.Proofs.Ytjmllmadoelioaa
