/- TriplesOf: the program's and the reference's walks, and the law's. -/
import Derived.Test.YtjmllmadoelioaaMkC
import Derived.Test.YtjmllmadoelioaaMkP
import Derived.Test.YtjmllmadoelioaaHeldT
import Derived.Test.YtjmllmadoelioaaSrtT
namespace Go.Proofs.Ytjmllmadoelioaa
open Go.RowKit

theorem cs3_take (ts : List T3) : ∀ k, (cs3 ts).take (k * 3) = cs3 (ts.take k) := by
  induction ts with
  | nil => intro k; simp [cs3]
  | cons t ts ih =>
    intro k
    cases k with
    | zero => simp [cs3]
    | succ k =>
      have e : cs3 (t :: ts) = c3 t ++ cs3 ts := rfl
      rw [e, List.take_append, List.take_succ_cons]
      have : (k + 1) * 3 - (c3 t).length = k * 3 := by simp [c3]; omega
      rw [this, ih k, List.take_of_length_le (by simp [c3]; omega)]
      rfl
theorem cs3_drop (ts : List T3) : ∀ k, (cs3 ts).drop (k * 3) = cs3 (ts.drop k) := by
  induction ts with
  | nil => intro k; simp [cs3]
  | cons t ts ih =>
    intro k
    cases k with
    | zero => simp
    | succ k =>
      have e : cs3 (t :: ts) = c3 t ++ cs3 ts := rfl
      rw [e, List.drop_append, List.drop_succ_cons]
      have : (k + 1) * 3 - (c3 t).length = k * 3 := by simp [c3]; omega
      rw [this, ih k, List.drop_of_length_le (by simp [c3]; omega)]
      rfl
theorem Row.news3X {w : World} {g : Nat} {e : TypeId} {n cap : Nat} {L : List T3} (h : Row w g e 3 n cap (cs3 L)) (i : Nat) : ∀ j u, (cs3 (L.drop i))[j]? = some u → w.cell? ((if cap = i then (⟨g, 0, none⟩ : Addr) else ⟨g, i * 3, none⟩).add j) = some u := by
  intro j u hu
  by_cases hc : cap = i
  · exfalso
    have h1 := h.len
    have h2 := h.cap_
    rw [cs3_len] at h1
    rw [List.getElem?_eq_none (by rw [cs3_len, List.length_drop]; omega)] at hu
    cases hu
  · rw [if_neg hc]
    have := h.news (i * 3) j u
    rw [cs3_drop] at this
    exact this hu
theorem news_old {w : World} {b o : Nat} {xs : List Value} {ob : Obj} (h : ∀ j u, xs[j]? = some u → w.cell? ((⟨b, o, none⟩ : Addr).add j) = some u) (hb : b < w.heap.size) : ∀ j u, xs[j]? = some u → (w.alloc ob).cell? ((⟨b, o, none⟩ : Addr).add j) = some u := by
  intro j u hu
  rw [← h j u hu]
  have : (⟨b, o, none⟩ : Addr).add j = ⟨b, o + j, none⟩ := by unfold Addr.add; split <;> simp_all
  rw [this]
  exact World.cell?_of_block (w := w) (a := ⟨b, o + j, none⟩) (Below.heap_alloc w _ b hb)
theorem take_snoc_T {L : List T3} {j : Nat} (h : j < L.length) : L.take (j + 1) = L.take j ++ [L[j]] := List.take_succ_eq_append_getElem h
theorem getD_T {L : List T3} {j : Nat} (h : j < L.length) : L.getD j default = L[j] := by
  rw [List.getD_eq_getElem?_getD, List.getElem?_eq_getElem h]; rfl
theorem ofs_len (n : Int) (ts : List T3) : (ofs n ts).length ≤ ts.length := by
  rw [(ofs_facts n ts).1.length_eq]; exact ofz_len n ts

set_option maxHeartbeats 2000000 in
set_option maxRecDepth 100000 in
theorem l22Of_any (n : Int) (w : World) (h1 : 1 ≤ n) (h2 : n ≤ 1000000) :
    Calls Try.prog 45 #[.int .i64 n] w fun e w' => ∃ g cap, e = .returned (.slice (some ⟨g, 0, none⟩) (tof n).length cap) ∧ w.heap.size ≤ g ∧ Row w' g 24 3 (tof n).length cap (cs3 (tof n)) ∧ Below w.heap.size w w' := by
  obtain ⟨i0, hi, hz0, hz1, hz2⟩ := info_parts info_triple
  have hA := allT_len n
  go_enter Try.func45, Try.ntmps45
  go_wp2_with fail
  refine (l22All_any n _ h1 h2).mono ?_
  rintro e w1 ⟨g, cap, ts, rfl, hg, hr, hp, hb1⟩
  have hfin := tof_unique h1 hp (ofs_facts n ts).1 (ofs_facts n ts).2
  have HFIN := hide hfin
  have hlA := hp.length_eq
  obtain ⟨N, hN⟩ : ∃ N, ts.length = N := ⟨_, rfl⟩
  rw [hN] at hr ⊢
  have hNA : N ≤ 1048578 := by omega
  have HN := hide hN
  have HA := hide hr
  have hglt := hr.lt
  have hsz := hb1.size
  have hlen := fun i => ofs_len n (ts.take i)
  have HLEN := hide hlen
  clear hr hp hN hlen hA hlA hfin
  go_wp2_with fail
  go_loopw [4, 5] (fun ov iv wr => ∃ (i m g2 cap2 : Nat), iv = .int .i64 i ∧ i ≤ N ∧ (ofs n (ts.take i)).length = m ∧ ov = .slice (some ⟨g2, 0, none⟩) m cap2 ∧ w1.heap.size ≤ g2 ∧ Row wr g2 24 3 m cap2 (cs3 (ofs n (ts.take i))) ∧ Below w1.heap.size w1 wr) (fun _ iv _ => N - (intOf iv).toNat)
  case atStart => exact ⟨0, 0, w1.heap.size, 0, rfl, by omega, rfl, rfl, Nat.le_refl _, Row.lit rfl (by rfl) (by omega), (Below.refl _ _).alloc (Nat.le_refl _) _⟩
  case round =>
    obtain ⟨i, m, g2, cap2, rfl, hiN, hm, rfl, hg2, hrow, hbel⟩ := hrel
    have sr := hbel.size
    have hmi := HLEN.out i
    rw [hm, List.length_take, HN.out] at hmi
    by_cases hlt : i < N
    · have hll : i < ts.length := by rw [HN.out]; exact hlt
      obtain ⟨q1, q2, q3⟩ := cs3_at hll
      have hra := HA.out.below hbel hglt
      have y1 := hra.cell q1
      have y3 := hra.cell q3
      have hstep : ofs n (ts.take (i + 1)) = if ts[i].z = n then putT (ofs n (ts.take i)) ts[i] else ofs n (ts.take i) := by rw [take_snoc_T hll, ofs_snoc]
      have i1 : (i : Int) < (N : Int) := by omega
      generalize hti : ts[i] = t at *
      obtain ⟨X, Y, Z⟩ := t
      simp only at y1 y3 hstep q1 q2 q3
      have hglt2 := hrow.lt
      generalize hL : ofs n (ts.take i) = L at *
      have HW := hide hrow
      clear hrow hra hll hti hL
      by_cases hz : Z = n
      · rw [if_pos hz] at hstep
        have hz' : (Z != n) = false := by simpa using hz
        have HZ := hide hz
        have hput : putT L ⟨X, Y, Z⟩ = L.take (insT L X m) ++ ⟨X, Y, Z⟩ :: L.drop (insT L X m) := by unfold putT; rw [hm]
        rw [hput] at hstep
        obtain ⟨w2, hw2⟩ : ∃ w2, w2 = wr := ⟨_, rfl⟩
        subst hw2
        clear hz hput
        go_wp2_with fail
        go_loopw [6] (fun kk wi => ∃ k d : Nat, kk = .int .i64 k ∧ k ≤ m ∧ insT L X m = insT L X k ∧ wi = w2.drewN d) (fun kk _ => (intOf kk).toNat)
        case atStart => exact ⟨m, 0, rfl, Nat.le_refl _, rfl, rfl⟩
        case round =>
          obtain ⟨k, d, rfl, hk, hins, rfl⟩ := hrel
          by_cases hk0 : k = 0
          · subst hk0
            rw [show insT L X 0 = 0 from rfl] at hins
            rw [hins] at hstep
            have HO1 := hide hstep
            clear hins hstep
            go_wp2_with fail
            go_quiet (fail)
            have hw5 : Below w2.heap.size w2 ((w2.drewN d).drewN nq) := belowN (belowN (Below.refl _ _) d) nq
            generalize (w2.drewN d).drewN nq = w5 at *
            clear y1 y3
            obtain ⟨oc1, oc2⟩ := HW.out.cap_
            have hbr : Below w1.heap.size w1 w5 := hbel.trans (hw5.mono hbel.size)
            have sw5 := hw5.size
            have r5 := HW.out.below hw5 hglt2
            have r5a := HA.out.below hbr hglt
            have t5 := r5.newsT (0 * 3)
            rw [cs3_take] at t5
            have t5b : ∀ j u, (cs3 (L.take 0))[j]? = some u → (w5.alloc (.cells #[] 24)).cell? ((⟨g2, 0, none⟩ : Addr).add j) = some u := news_old t5 (by omega)
            have HR5 := hide r5
            have HR5A := hide r5a
            have HT := hide t5b
            clear t5 t5b r5 r5a
            go_wp2_with (at_builtin; first
              | (refine wpList_append_own _ rfl (.tmp 44) (.tmp 47) _ rfl w5.heap.size 24 i0 _ 3 24 Try.underlying38 hi hz0 hz1 hz2 rfl (by omega) (.slice (some ⟨w5.heap.size, 0, none⟩) 0 0) 0 [] (by rfl) ((Row.lit (w := w5) (g := w5.heap.size) (e := 24) (k := 3) (n := 0) (cs := #[]) rfl (by rfl) (by omega)).own (Nat.le_refl _)) ⟨g2, 0, none⟩ 0 cap2 (cs3 (L.take 0)) (by rfl) (by rw [cs3_len, List.length_take]; omega) HT.out (one3 _) (by simp only [maxLen]; omega) (by omega) (by simp) ?_; intro v6 w6 hown6 hgrow6 hnil6; obtain ⟨g6, cap6, rfl, hg6, hr6⟩ := own_some hown6 (fun h => by have := (hnil6.1 h).1; cases this); have hb6 : Below w5.heap.size w5 w6 := ((Below.refl w5.heap.size w5).alloc (Nat.le_refl _) _).grown hgrow6 (by simp) (fun k h => by simp [Value.ownBlock] at h; omega); have s6 := hb6.size; have r6 := HR5.out.below hb6 (by omega); have r6a := HR5A.out.below hb6 (by omega); have z1 := r6a.cell q1; have z2 := r6a.cell q2; have z3 := r6a.cell q3; rw [List.nil_append, Nat.zero_add] at hr6; have HR6 := hide hr6; have HR6G := hide r6; clear hr6 r6 r6a hown6 hnil6)
              | (refine wpList_append_own _ rfl (.tmp 49) (.tmp 54) _ rfl w5.heap.size 24 i0 _ 3 24 Try.underlying38 hi hz0 hz1 hz2 rfl (by omega) (.slice (some ⟨g6, 0, none⟩) 0 cap6) 0 (cs3 (L.take 0)) (by first | rfl | simp) ((HR6.out.alloc _).own hg6) ⟨w6.heap.size, 0, none⟩ 1 1 (cs3 [⟨X, Y, Z⟩]) (by rfl) (by rfl) (news_new (by simp)) (one3 _) (by simp only [maxLen]; omega) (by omega) (by simp; omega) ?_; intro v7 w7 hown7 hgrow7 hnil7; obtain ⟨g7, cap7, rfl, hg7, hr7⟩ := own_some hown7 (fun h => by have := (hnil7.1 h).1; cases this); rw [← cs3_append] at hr7; have hgr7 : w6.grownBy w7 (some g6) := gtrans (World.grownBy_alloc _ _ _) hgrow7; have r7g := HR6G.out.grown hgr7 (fun h => by injection h; omega); have t7 := r7g.news3X 0; have s7 := hgr7.size; have HT7 := hide t7; have HR7 := hide hr7; clear t7 hr7 hown7 hnil7 hgrow7 r7g)
              | (refine wpList_append_own _ rfl (.tmp 56) (.tmp 59) _ rfl w5.heap.size 24 i0 _ 3 24 Try.underlying38 hi hz0 hz1 hz2 rfl (by omega) (.slice (some ⟨g7, 0, none⟩) (0 + 1) cap7) (0 + 1) (cs3 (L.take 0 ++ [⟨X, Y, Z⟩])) (by rfl) (HR7.out.own hg7) (if cap2 = 0 then (⟨g2, 0, none⟩ : Addr) else ⟨g2, 0 * 3, none⟩) (m - 0) (cap2 - 0) (cs3 (L.drop 0)) (by first | rfl | (rw [Nat.zero_mul, ite_self]; rfl) | (rw [← apply_ite some]; rfl)) (by rw [cs3_len, List.length_drop]; omega) HT7.out (one3 _) (by simp only [maxLen]; omega) (by omega) (by omega) ?_; intro v8 w8 hown8 hgrow8 hnil8; obtain ⟨g8, cap8, rfl, hg8, hr8⟩ := own_some hown8 (fun h => by have := (hnil8.1 h).1; cases this); rw [← cs3_append] at hr8; have hgr8 : w7.grownBy w8 (some g7) := hgrow8))
            have HR8 := hide hr8
            clear hr8 hown8 hnil8 hgrow8
            go_wp2_with fail
            go_roundw
            case rel =>
              have hb7 : Below w5.heap.size w5 w7 := hb6.grown hgr7 s6 (fun k h => by injection h; omega)
              have hb8 : Below w5.heap.size w5 w8 := hb7.grown hgr8 hb7.size (fun k h => by injection h; omega)
              have hj : 0 + 1 + (m - 0) = m + 1 := by omega
              refine ⟨i + 1, m + 1, g8, cap8, by simp, by omega, by rw [HO1.out, List.length_append, List.length_cons, List.length_take, List.length_drop]; omega, by first | rfl | (congr 1; omega) | congr 1, by omega, ?_, hbr.trans (hb8.mono (by omega))⟩
              have := HR8.out
              rw [hj] at this
              rw [HO1.out]
              simpa using this
            case measure => simp [intOf]; omega
          · obtain ⟨k, rfl⟩ : ∃ k', k = k' + 1 := ⟨k - 1, by omega⟩
            obtain ⟨p1, _, _⟩ := cs3_at (ts := L) (i := k) (by omega)
            have y4 := HW.out.cell p1
            rw [← getD_T (by omega)] at y4
            have hstp : insT L X (k + 1) = if X < (L.getD k default).x then insT L X k else k + 1 := rfl
            rw [hstp] at hins
            generalize (L.getD k default).x = u at *
            have i2 : (k : Int) < (m : Int) := by omega
            have i3 : IntKind.i64.wrap (k : Int) = k := IntWalk.i64_in _ (by omega)
            have i4 : k < m := by omega
            clear p1 hstp
            by_cases hvu : X < u
            · rw [if_pos hvu] at hins
              have hd : decide (X < u) = true := decide_eq_true hvu
              have HINS := hide hins
              clear hins
              go_wp2_with fail
              go_quiet (fail)
              go_wp2_with fail
              go_roundw
              case rel => exact ⟨k, _, by first | rfl | simp, by omega, HINS.out, by first | rfl | rw [World.drewN_drewN]⟩
              case measure => simp [intOf]
            · rw [if_neg hvu] at hins
              have hd : decide (X < u) = false := decide_eq_false hvu
              rw [hins] at hstep
              have HO1 := hide hstep
              clear hins hstep
              go_wp2_with fail
              go_quiet (fail)
              have hw5 : Below w2.heap.size w2 ((w2.drewN d).drewN nq) := belowN (belowN (Below.refl _ _) d) nq
              generalize (w2.drewN d).drewN nq = w5 at *
              clear y1 y3 y4
              obtain ⟨oc1, oc2⟩ := HW.out.cap_
              have hbr : Below w1.heap.size w1 w5 := hbel.trans (hw5.mono hbel.size)
              have sw5 := hw5.size
              have r5 := HW.out.below hw5 hglt2
              have r5a := HA.out.below hbr hglt
              have t5 := r5.newsT ((k + 1) * 3)
              rw [cs3_take] at t5
              have t5b : ∀ j u, (cs3 (L.take (k + 1)))[j]? = some u → (w5.alloc (.cells #[] 24)).cell? ((⟨g2, 0, none⟩ : Addr).add j) = some u := news_old t5 (by omega)
              have HR5 := hide r5
              have HR5A := hide r5a
              have HT := hide t5b
              clear t5 t5b r5 r5a
              go_wp2_with (at_builtin; first
                | (refine wpList_append_own _ rfl (.tmp 44) (.tmp 47) _ rfl w5.heap.size 24 i0 _ 3 24 Try.underlying38 hi hz0 hz1 hz2 rfl (by omega) (.slice (some ⟨w5.heap.size, 0, none⟩) 0 0) 0 [] (by rfl) ((Row.lit (w := w5) (g := w5.heap.size) (e := 24) (k := 3) (n := 0) (cs := #[]) rfl (by rfl) (by omega)).own (Nat.le_refl _)) ⟨g2, 0, none⟩ (k + 1) cap2 (cs3 (L.take (k + 1))) (by rfl) (by rw [cs3_len, List.length_take]; omega) HT.out (one3 _) (by simp only [maxLen]; omega) (by omega) (by simp) ?_; intro v6 w6 hown6 hgrow6 hnil6; obtain ⟨g6, cap6, rfl, hg6, hr6⟩ := own_some hown6 (fun h => by have := (hnil6.1 h).1; cases this); have hb6 : Below w5.heap.size w5 w6 := ((Below.refl w5.heap.size w5).alloc (Nat.le_refl _) _).grown hgrow6 (by simp) (fun k h => by simp [Value.ownBlock] at h; omega); have s6 := hb6.size; have r6 := HR5.out.below hb6 (by omega); have r6a := HR5A.out.below hb6 (by omega); have z1 := r6a.cell q1; have z2 := r6a.cell q2; have z3 := r6a.cell q3; rw [List.nil_append, Nat.zero_add] at hr6; have HR6 := hide hr6; have HR6G := hide r6; clear hr6 r6 r6a hown6 hnil6)
                | (refine wpList_append_own _ rfl (.tmp 49) (.tmp 54) _ rfl w5.heap.size 24 i0 _ 3 24 Try.underlying38 hi hz0 hz1 hz2 rfl (by omega) (.slice (some ⟨g6, 0, none⟩) (k + 1) cap6) (k + 1) (cs3 (L.take (k + 1))) (by first | rfl | simp) ((HR6.out.alloc _).own hg6) ⟨w6.heap.size, 0, none⟩ 1 1 (cs3 [⟨X, Y, Z⟩]) (by rfl) (by rfl) (news_new (by simp)) (one3 _) (by simp only [maxLen]; omega) (by omega) (by simp; omega) ?_; intro v7 w7 hown7 hgrow7 hnil7; obtain ⟨g7, cap7, rfl, hg7, hr7⟩ := own_some hown7 (fun h => by have := (hnil7.1 h).1; cases this); rw [← cs3_append] at hr7; have hgr7 : w6.grownBy w7 (some g6) := gtrans (World.grownBy_alloc _ _ _) hgrow7; have r7g := HR6G.out.grown hgr7 (fun h => by injection h; omega); have t7 := r7g.news3X (k + 1); have s7 := hgr7.size; have HT7 := hide t7; have HR7 := hide hr7; clear t7 hr7 hown7 hnil7 hgrow7 r7g)
                | (refine wpList_append_own _ rfl (.tmp 56) (.tmp 59) _ rfl w5.heap.size 24 i0 _ 3 24 Try.underlying38 hi hz0 hz1 hz2 rfl (by omega) (.slice (some ⟨g7, 0, none⟩) ((k + 1) + 1) cap7) ((k + 1) + 1) (cs3 (L.take (k + 1) ++ [⟨X, Y, Z⟩])) (by rfl) (HR7.out.own hg7) (if cap2 = (k + 1) then (⟨g2, 0, none⟩ : Addr) else ⟨g2, (k + 1) * 3, none⟩) (m - (k + 1)) (cap2 - (k + 1)) (cs3 (L.drop (k + 1))) (by first | rfl | (rw [Nat.zero_mul, ite_self]; rfl) | (rw [← apply_ite some]; rfl)) (by rw [cs3_len, List.length_drop]; omega) HT7.out (one3 _) (by simp only [maxLen]; omega) (by omega) (by omega) ?_; intro v8 w8 hown8 hgrow8 hnil8; obtain ⟨g8, cap8, rfl, hg8, hr8⟩ := own_some hown8 (fun h => by have := (hnil8.1 h).1; cases this); rw [← cs3_append] at hr8; have hgr8 : w7.grownBy w8 (some g7) := hgrow8))
              have HR8 := hide hr8
              clear hr8 hown8 hnil8 hgrow8
              go_wp2_with fail
              go_roundw
              case rel =>
                have hb7 : Below w5.heap.size w5 w7 := hb6.grown hgr7 s6 (fun k h => by injection h; omega)
                have hb8 : Below w5.heap.size w5 w8 := hb7.grown hgr8 hb7.size (fun k h => by injection h; omega)
                have hj : (k + 1) + 1 + (m - (k + 1)) = m + 1 := by omega
                refine ⟨i + 1, m + 1, g8, cap8, by simp, by omega, by rw [HO1.out, List.length_append, List.length_cons, List.length_take, List.length_drop]; omega, by first | rfl | (congr 1; omega) | congr 1, by omega, ?_, hbr.trans (hb8.mono (by omega))⟩
                have := HR8.out
                rw [hj] at this
                rw [HO1.out]
                simpa using this
              case measure => simp [intOf]; omega
      · rw [if_neg hz] at hstep
        have hz' : (Z != n) = true := by simpa using hz
        have HS := hide hstep
        clear hstep
        go_wp2_with fail
        go_roundw
        case rel => exact ⟨i + 1, m, g2, cap2, by go_num, by omega, by rw [HS.out]; exact hm, rfl, hg2, by rw [HS.out]; exact HW.out, hbel⟩
        case measure => simp [intOf]; omega
    · have hiN2 : i = N := by omega
      subst hiN2
      rw [List.take_of_length_le (by rw [HN.out]; exact Nat.le_refl _), HFIN.out] at hrow hm
      subst hm
      have HR := hide hrow
      clear hrow
      go_wp2_with fail
      go_ret
      exact ⟨g2, cap2, rfl, by omega, HR.out, hb1.trans (hbel.mono hsz)⟩

def tfx (M : Int) : List T3 := if inB M 1 1000000 = true then tof M else []

set_option maxHeartbeats 1000000 in
set_option maxRecDepth 100000 in
theorem specTriplesOf_any (M : Int) (w : World) :
    Calls Try.prog 21 #[.int .i64 M] w fun e w' => ∃ v, e = .returned (.tuple #[v, .int .i64 (mcode M)]) ∧ LstT w' w.heap.size v (tfx M) ∧ Below w.heap.size w w' := by
  by_cases hb : inB M 1 1000000 = true
  · obtain ⟨h1, h2⟩ := inB_iff.1 hb
    have ec : mcode M = 0 := by unfold mcode; rw [if_pos hb]
    have ex : tfx M = tof M := by unfold tfx; rw [if_pos hb]
    rw [ec, ex]
    have hA := allT_len M
    have hl := ofs_len M (allT M)
    clear ec ex
    go_enter Try.func21, Try.ntmps21
    go_wp2_with fail
    refine (l22Most_any _ _).mono ?_
    rintro e w' ⟨rfl, rfl⟩
    rw [hb]
    go_wp2_with fail
    refine (l22Of_any M _ h1 h2).mono ?_
    rintro e w1 ⟨g, cap, rfl, hg, hr, hb1⟩
    have HL := hide (LstT.of_row (B := w.heap.size) hr hg (by unfold tof; omega))
    clear hr
    go_wp2_with fail
    go_returns
    exact ⟨_, rfl, HL.out, hb1⟩
  · have hb' : inB M 1 1000000 = false := by simpa using hb
    have ec : mcode M = 2 := by unfold mcode; rw [if_neg hb]
    have ex : tfx M = [] := by unfold tfx; rw [if_neg hb]
    rw [ec, ex]
    go_enter Try.func21, Try.ntmps21
    go_wp2_with fail
    refine (l22Most_any _ _).mono ?_
    rintro e w' ⟨rfl, rfl⟩
    rw [hb']
    go_wp2_with fail
    go_returns
    exact ⟨_, rfl, LstT.nil_ _ _, Below.refl _ _⟩

set_option maxHeartbeats 2000000 in
set_option maxRecDepth 100000 in
theorem implTriplesOf_any (M : Int) (w : World) :
    Calls Try.prog 22 #[.int .i64 M] w fun e w' => ∃ v, e = .returned (.tuple #[v, .int .i64 (mcode M)]) ∧ LstT w' w.heap.size v (tfx M) ∧ Below w.heap.size w w' := by
  by_cases hb : inB M 1 1000000 = true
  · obtain ⟨h1, h2⟩ := inB_iff.1 hb
    have ec : mcode M = 0 := by unfold mcode; rw [if_pos hb]
    have ex : tfx M = tof M := by unfold tfx; rw [if_pos hb]
    rw [ec, ex]
    obtain ⟨i0, hi, hz0, hz1, hz2⟩ := info_parts info_triple
    have hA := allT_len M
    clear ec ex
    go_enter Try.func22, Try.ntmps22
    go_wp2_with fail
    refine (isListed_any _ _).mono ?_
    rintro e w' ⟨rfl, rfl⟩
    rw [hb]
    go_wp2_with fail
    refine (triplesUpTo_any M _ h1 h2).mono ?_
    rintro e w1 ⟨g, cap, ts, rfl, hg, hr, hp, hb1⟩
    have hfin := fun us hu hs => tof_unique (us := us) h1 hp hu hs
    have HFIN := hide hfin
    have hlA := hp.length_eq
    obtain ⟨N, hN⟩ : ∃ N, ts.length = N := ⟨_, rfl⟩
    rw [hN] at hr ⊢
    have hNA : N ≤ 1048578 := by omega
    have HN := hide hN
    have HR := hide hr
    have hglt := hr.lt
    have hsz := hb1.size
    have hlen := fun i => ofz_len M (ts.take i)
    have HLEN := hide hlen
    clear hr hp hN hA hlA hfin hlen
    go_wp2_with fail
    go_loopw [4, 13] (fun lv iv wr => ∃ j m : Nat, iv = .int .i64 j ∧ j ≤ N ∧ (ofz M (ts.take j)).length = m ∧ wr.ownsRow w1.heap.size 24 3 lv m (cs3 (ofz M (ts.take j))) ∧ Below w1.heap.size w1 wr) (fun _ iv _ => N - (intOf iv).toNat)
    case atStart => exact ⟨0, 0, rfl, by omega, rfl, own_nil _ _ _ _, Below.refl _ _⟩
    case round =>
      obtain ⟨j, m, rfl, hj, hm, hown, hbel⟩ := hrel
      have sr := hbel.size
      have hmi := HLEN.out j
      rw [hm, List.length_take, HN.out] at hmi
      by_cases hlt : j < N
      · have hll : j < ts.length := by rw [HN.out]; exact hlt
        obtain ⟨q1, q2, q3⟩ := cs3_at hll
        have hrow := HR.out.below hbel hglt
        have y1 := hrow.cell q1
        have y2 := hrow.cell q2
        have y3 := hrow.cell q3
        have hstep : ofz M (ts.take (j + 1)) = if ts[j].z = M then ofz M (ts.take j) ++ [ts[j]] else ofz M (ts.take j) := by rw [take_snoc_T hll, ofz_snoc]
        generalize hti : ts[j] = t at *
        obtain ⟨X, Y, Z⟩ := t
        simp only at y1 y2 y3 hstep
        generalize hL : ofz M (ts.take j) = L at *
        have HOW := hide hown
        have HM := hide hm
        have i1 : (j : Int) < (N : Int) := by omega
        clear q1 q2 q3 hown hrow hll hti hL hm
        by_cases hz : Z = M
        · rw [if_pos hz] at hstep
          have hz' : (Z == M) = true := by simpa using hz
          have HS := hide hstep
          have HZ := hide hz
          clear hstep hz
          go_wp2_with (at_builtin; refine wpList_append_own _ rfl (.tmp 21) (.tmp 23) _ rfl w1.heap.size 24 i0 _ 3 24 Try.underlying38 hi hz0 hz1 hz2 rfl (by omega) u4 m (cs3 L) (by rfl) (own_below HOW.out (Below.trans (Below.alloc (Below.refl _ _) (Nat.le_refl _) _) (Below.alloc (Below.refl _ _) (by simp) _))) ⟨wr.heap.size + 1, 0, none⟩ 1 1 (cs3 [⟨X, Y, Z⟩]) (by rfl) (by rfl) (news_new (by simp)) (one3 _) (by simp only [maxLen]; omega) (by omega) (by simp; omega) ?_; intro v8 w8 hown8 hgrow8 hnil8)
          rw [← cs3_append] at hown8
          have HO8 := hide hown8
          clear hown8 hnil8
          go_wp2_with fail
          go_roundw
          case rel => exact ⟨j + 1, m + 1, by go_num, by omega, by rw [HS.out, List.length_append, HM.out]; rfl, by rw [HS.out]; exact HO8.out, ((hbel.alloc sr _).alloc (by simp; omega) _).grown hgrow8 (by simp; omega) (own_base HOW.out)⟩
          case measure => simp [intOf]; omega
        · rw [if_neg hz] at hstep
          have hz' : (Z == M) = false := beq_eq_false_iff_ne.2 hz
          have HS := hide hstep
          clear hstep
          go_wp2_with fail
          go_roundw
          case rel => exact ⟨j + 1, m, by go_num, by omega, by rw [HS.out]; exact HM.out, by rw [HS.out]; exact own_below HOW.out ((Below.refl _ _).alloc (Nat.le_refl _) _), hbel.alloc sr _⟩
          case measure => simp [intOf]; omega
      · have hjn : j = N := by omega
        subst hjn
        rw [List.take_of_length_le (by rw [HN.out]; exact Nat.le_refl _)] at hown hm
        by_cases hm0 : m = 0
        · subst hm0
          obtain ⟨_, ⟨rfl, _⟩ | ⟨g2, cap2, cur, rfl, hg2, _⟩⟩ := id hown
          · have he : ofz M ts = [] := List.length_eq_zero_iff.1 hm
            have ht : [] = tof M := HFIN.out [] (by rw [he]) List.Pairwise.nil
            have HT := hide ht
            clear hown hm he ht
            go_wp2_with fail
            refine (sortT_none _).mono ?_
            rintro e w3 ⟨rfl, rfl⟩
            go_wp2_with fail
            go_returns
            exact ⟨_, rfl, by rw [← HT.out]; exact LstT.nil_ _ _, hb1.trans (hbel.mono hsz)⟩
          · have hr2 := (Row.of_own hown).1
            have hS := sortT_any g2 0 cap2 (ofz M ts) wr (by omega) hr2
            clear hown hr2
            go_wp2_with fail
            refine hS.mono ?_
            rintro e w3 ⟨rfl, hgr3, us, hu1, hu2, hr3⟩
            have ht := HFIN.out us hu1 hu2
            rw [ht] at hr3
            have HL := hide (LstT.of_row (B := w.heap.size) hr3 (by omega) (by omega))
            clear hr3 hS ht hu1 hu2
            go_wp2_with fail
            go_returns
            exact ⟨_, rfl, HL.out, hb1.trans ((hbel.grown hgr3 sr (fun k h => by injection h; omega)).mono hsz)⟩
        · obtain ⟨g2, cap2, rfl, hg2, hr2⟩ := own_pos hown (by omega)
          have hS := sortT_any g2 m cap2 (ofz M ts) wr (by omega) hr2
          clear hown hr2
          go_wp2_with fail
          refine hS.mono ?_
          rintro e w3 ⟨rfl, hgr3, us, hu1, hu2, hr3⟩
          have ht := HFIN.out us hu1 hu2
          rw [ht] at hr3
          have HL := hide (LstT.of_row (B := w.heap.size) hr3 (by omega) (by omega))
          clear hr3 hS ht hu1 hu2
          go_wp2_with fail
          go_returns
          exact ⟨_, rfl, HL.out, hb1.trans ((hbel.grown hgr3 sr (fun k h => by injection h; omega)).mono hsz)⟩
  · have hb' : inB M 1 1000000 = false := by simpa using hb
    have ec : mcode M = 2 := by unfold mcode; rw [if_neg hb]
    have ex : tfx M = [] := by unfold tfx; rw [if_neg hb]
    rw [ec, ex]
    go_enter Try.func22, Try.ntmps22
    go_wp2_with fail
    refine (isListed_any _ _).mono ?_
    rintro e w' ⟨rfl, rfl⟩
    rw [hb']
    go_wp2_with fail
    go_returns
    exact ⟨_, rfl, LstT.nil_ _ _, Below.refl _ _⟩

set_option maxRecDepth 100000 in
theorem law_TriplesOf (M : Int) (w : World) :
    Calls Try.prog 6 #[.int .i64 M] w fun e w' => e = .returned (.bool true) ∧ Below w.heap.size w w' := by
  have hS := specTriplesOf_any M
  have hI := implTriplesOf_any M
  generalize (tfx M) = xs at *
  generalize (mcode M) = c at *
  go_enter Try.func6, Try.ntmps6
  have C0 := (Below.refl w.heap.size w)
  go_wp2_with fail
  refine (hS _).mono ?_
  rintro e w1 ⟨v0, rfl, Ls, hb⟩
  have C0 := C0.trans (hb.mono C0.size)
  clear hb
  have CA := Below.refl w1.heap.size w1
  have CZ := C0.size
  go_wp2_with fail
  refine (hI _).mono ?_
  rintro e w2 ⟨v1, rfl, Lg, hb⟩
  have C0 := C0.trans (hb.mono C0.size)
  have CA := CA.trans (hb.mono CA.size)
  clear hb
  go_wp2_with fail
  refine (eqLstT_any _ _ _ _ xs _ Lg (Ls.keep CA)).mono ?_
  rintro e w3 ⟨rfl, hq⟩
  have C0 := C0.trans (hq.mono C0.size)
  have CA := CA.trans (hq.mono CA.size)
  have Lg := Lg.keep hq
  clear hq
  go_wp2_with fail
  refine (markLstT_any _ w1.heap.size xs _ Lg).mono ?_
  rintro e w3b ⟨rfl, Lm, hb⟩
  have C0 := C0.trans (hb.mono CZ)
  have CA := CA.trans hb
  clear hb Lg
  go_wp2_with fail
  refine (heldLstT_any _ _ xs.length _ Lm).mono ?_
  rintro e w4 ⟨rfl, rfl⟩
  go_wp2_with fail
  refine (hI _).mono ?_
  rintro e w5 ⟨v2, rfl, Lh, hb⟩
  have C0 := C0.trans (hb.mono C0.size)
  have CA := CA.trans (hb.mono CA.size)
  have Lm := Lm.keep hb
  clear hb
  go_wp2_with fail
  refine (eqLstT_any _ _ _ _ xs _ Lh (Ls.keep CA)).mono ?_
  rintro e w6 ⟨rfl, hq⟩
  have C0 := C0.trans (hq.mono C0.size)
  have CA := CA.trans (hq.mono CA.size)
  have Lm := Lm.keep hq
  clear hq
  go_wp2_with fail
  refine (heldLstT_any _ _ xs.length _ Lm).mono ?_
  rintro e w7 ⟨rfl, rfl⟩
  go_wp2_with fail
  go_ret
  exact ⟨rfl, C0⟩

end Go.Proofs.Ytjmllmadoelioaa
