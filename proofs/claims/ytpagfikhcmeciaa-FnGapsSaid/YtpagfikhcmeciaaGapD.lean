/- GapLengths, GapCounts, TwoLengths: the program's and the reference's walks, and the laws'. -/
import Derived.Test.YtpagfikhcmeciaaGapC
namespace Go.Proofs.Ytpagfikhcmeciaa
open Go.RowKit

theorem Lst.of_own {w : World} {base n : Nat} {v : Value} {xs : List Int} (h : w.ownsRow base 2 1 v n (il xs)) (hn : n ≤ 1000000000) : Lst w base v xs := by
  by_cases h0 : n = 0
  · subst h0
    have hx : xs = [] := by
      have := h.1
      rw [il_len] at this
      exact List.length_eq_zero_iff.1 (by omega)
    subst hx
    obtain ⟨_, ⟨rfl, _⟩ | ⟨g, cap, cur, rfl, hb, h1, h2, h3, h4, h5⟩⟩ := h
    · exact Lst.nil_ _ _
    · exact Lst.of_row (B := base) (g := g) (n := 0) (cap := cap) (xs := []) ⟨cur, h1, h2, h3, h4, h5, rfl⟩ hb hn
  · obtain ⟨g, cap, rfl, hb, hr⟩ := own_pos h (by omega)
    exact Lst.of_row hr hb hn
theorem Lst.base {w : World} {B B' : Nat} {v : Value} {xs : List Int} (h : Lst w B v xs) (hB : B' ≤ B) : Lst w B' v xs := by
  obtain ⟨A, n, cap, e, hn, hn2, h | ⟨g, hA, hg, hr⟩⟩ := h
  · exact ⟨A, n, cap, e, hn, hn2, .inl h⟩
  · exact ⟨A, n, cap, e, hn, hn2, .inr ⟨g, hA, Nat.le_trans hB hg, hr⟩⟩

/-- The gaps of a fraction and a number of points. -/
def gps (p q : Int) (c : Nat) : List Int := gapl (rst p q) q (ord (rst p q) c)
def glx (p q c : Int) : List (Int × Int) := if gpc p q c = 0 then (puts (gps p q c.toNat)).map (red q) else []
def gcx (p q c : Int) : List Int := if gpc p q c = 0 then cnt (gps p q c.toNat) else []
def tlc (p q c : Int) : Int := if gpc p q c = 0 then (if 60 < c then 2 else 0) else gpc p q c
def tll (p q : Int) : Nat → List Int
  | 0 => []
  | k + 1 => if (puts (gps p q (k + 1))).length ≤ 2 then tll p q k ++ [((k + 1 : Nat) : Int)] else tll p q k
def tlx (p q c : Int) : List Int := if tlc p q c = 0 then tll p q c.toNat else []
theorem tll_len (p q : Int) : ∀ k, (tll p q k).length ≤ k
  | 0 => Nat.le_refl _
  | k + 1 => by
    unfold tll
    have := tll_len p q k
    split
    · rw [List.length_append]; simp; omega
    · omega
theorem gps_len (p q : Int) (c : Nat) : (gps p q c).length = c := by unfold gps; rw [gapl_len, ord_len]
theorem puts_bd {p q : Int} {c : Nat} (hq : 0 < q) (hg : Int.gcd p q = 1) (hc : (c : Int) ≤ q) : ∀ x ∈ puts (gps p q c), 0 < x ∧ x ≤ q := fun x hx => gap_bd hq hg hc x (((puts_asc_mem _).2.1 x).1 hx)
theorem puts_len (G : List Int) : (puts G).length ≤ G.length := (puts_asc_mem G).2.2

set_option maxHeartbeats 4000000 in
set_option maxRecDepth 100000 in
theorem implGapLengths_any (p q c : Int) (w : World) :
    Calls Try.prog 7 #[.agg #[.int .i64 p, .int .i64 q], .int .i64 c] w fun e w' => ∃ v, e = .returned (.tuple #[v, .int .i64 (gpc p q c)]) ∧ LstF w' w.heap.size v (glx p q c) ∧ Below w.heap.size w w' := by
  have hC := checkPoints_any p q c
  by_cases h0 : gpc p q c = 0
  · obtain ⟨ho, hc, hcq⟩ := gpc_ok h0
    obtain ⟨o1, o2, o3⟩ := okF_iff.1 ho
    obtain ⟨m, rfl⟩ : ∃ m : Nat, c = m := ⟨c.toNat, by omega⟩
    have hx : glx p q m = (puts (gps p q m)).map (red q) := by unfold glx; rw [if_pos h0]; rfl
    have hL := fun w => implLengths_any p q m w ho ⟨by omega, by omega⟩ hcq
    have hG := puts_bd (p := p) (q := q) (c := m) (by omega) o3 hcq
    have hpl := puts_len (gps p q m)
    rw [gps_len] at hpl
    change ∀ w, Calls Try.prog 34 #[.agg #[.int .i64 p, .int .i64 q], .int .i64 (m : Int)] w fun e w' => ∃ g cap g2 cap2 m', e = .returned (.tuple #[.slice (some ⟨g, 0, none⟩) (m' + 1) cap, .slice (some ⟨g2, 0, none⟩) (m' + 1) cap2]) ∧ (puts (gps p q m)).length = m' + 1 ∧ w.heap.size ≤ g ∧ w.heap.size ≤ g2 ∧ Row w' g 2 1 (m' + 1) cap (il (puts (gps p q m))) ∧ Row w' g2 2 1 (m' + 1) cap2 (il (cnt (gps p q m))) ∧ Below w.heap.size w w' at hL
    have hP := fun g n cap w hn hr => implParts_any p q g n cap _ w o1 hn hG hr
    generalize puts (gps p q m) = U at *
    rw [h0] at hC
    rw [h0, hx]
    clear hx h0 ho hcq hG
    go_enter Try.func7, Try.ntmps7
    go_wp2_with fail
    refine (hC _).mono ?_
    rintro e w1 ⟨rfl, hb1⟩
    obtain ⟨a1, _, k3, HK⟩ := (Blk.new w 25 #[.int .i64 p, .int .i64 q]).after hb1 (by simp)
    have x0 := a1 0
    have x1 := a1 1
    have hB := bstep (show Below w.heap.size w _ by go_grown) hb1 (by simp)
    clear a1 hb1
    go_wp2_with fail
    refine (hL _).mono ?_
    rintro e w2 ⟨g, cap, g2, cap2, m', rfl, hm', hg, _, hr, _, hb2⟩
    obtain ⟨a1, _, _, _⟩ := HK.out.after hb2 k3
    have x2 := a1 0
    have x3 := a1 1
    have hB2 := bstep hB hb2 hB.size
    have hP2 := hP g (m' + 1) cap w2 (by omega) hr
    clear hr hP a1 x0 x1
    go_wp2_with fail
    refine hP2.mono ?_
    rintro e w3 ⟨v, rfl, hl3, hb3⟩
    have hl4 := hl3.base hB2.size
    have HL := hide hl4
    clear hl3 hl4
    go_wp2_with fail
    go_returns
    exact ⟨_, rfl, HL.out, bstep hB2 hb3 hB2.size⟩
  · have hx : glx p q c = [] := by unfold glx; rw [if_neg h0]
    rw [hx]
    generalize gpc p q c = d at *
    have hb : (d != 0) = true := by simp [h0]
    clear hx
    go_enter Try.func7, Try.ntmps7
    go_wp2_with fail
    refine (hC _).mono ?_
    rintro e w1 ⟨rfl, hb1⟩
    have hB := bstep (show Below w.heap.size w _ by go_grown) hb1 (by simp)
    go_wp2_with fail
    go_returns
    exact ⟨_, rfl, LstF.nil_ _ _, hB⟩

set_option maxHeartbeats 4000000 in
set_option maxRecDepth 100000 in
theorem specGapLengths_any (p q c : Int) (w : World) :
    Calls Try.prog 8 #[.agg #[.int .i64 p, .int .i64 q], .int .i64 c] w fun e w' => ∃ v, e = .returned (.tuple #[v, .int .i64 (gpc p q c)]) ∧ LstF w' w.heap.size v (glx p q c) ∧ Below w.heap.size w w' := by
  have hC := l20Code_any p q c
  by_cases h0 : gpc p q c = 0
  · obtain ⟨ho, hc, hcq⟩ := gpc_ok h0
    obtain ⟨o1, o2, o3⟩ := okF_iff.1 ho
    obtain ⟨m, rfl⟩ : ∃ m : Nat, c = m := ⟨c.toNat, by omega⟩
    have hx : glx p q m = (puts (gps p q m)).map (red q) := by unfold glx; rw [if_pos h0]; rfl
    have hL := fun w => specLengths_any p q m w ho ⟨by omega, by omega⟩ hcq
    have hG := puts_bd (p := p) (q := q) (c := m) (by omega) o3 hcq
    have hpl := puts_len (gps p q m)
    rw [gps_len] at hpl
    change ∀ w, Calls Try.prog 38 #[.agg #[.int .i64 p, .int .i64 q], .int .i64 (m : Int)] w fun e w' => ∃ g cap, e = .returned (.slice (some ⟨g, 0, none⟩) (puts (gps p q m)).length cap) ∧ w.heap.size ≤ g ∧ Row w' g 2 1 (puts (gps p q m)).length cap (il (puts (gps p q m))) ∧ Below w.heap.size w w' at hL
    have hP := fun g n cap w hn hr => specMade_any p q g n cap _ w o1 hn hG hr
    generalize puts (gps p q m) = U at *
    obtain ⟨n, hn⟩ : ∃ n, U.length = n := ⟨_, rfl⟩
    rw [hn] at hL hpl
    rw [h0] at hC
    rw [h0, hx]
    clear hx h0 ho hcq hG hn
    go_enter Try.func8, Try.ntmps8
    go_wp2_with fail
    refine (hC _).mono ?_
    rintro e w1 ⟨rfl, hb1⟩
    obtain ⟨a1, _, k3, HK⟩ := (Blk.new w 25 #[.int .i64 p, .int .i64 q]).after hb1 (by simp)
    have x0 := a1 0
    have x1 := a1 1
    have hB := bstep (show Below w.heap.size w _ by go_grown) hb1 (by simp)
    clear a1 hb1
    go_wp2_with fail
    go_region_with (first
      | (go_at_call 38; refine (hL _).mono ?_; rintro e w2 ⟨g, cap, rfl, hg, hr, hb2'⟩; have hb2 : Below w1.heap.size w1 w2 := (Below.refl _ w1).drew.trans hb2'; obtain ⟨a1, _, _, _⟩ := HK.out.after hb2 k3; have x2 := a1 0; have x3 := a1 1; have hP2 := hP g n cap w2 (by omega) hr; clear hr a1 hb2')
      | (go_at_call 37; refine hP2.mono ?_; rintro e w3 ⟨v, rfl, hl3, hb3⟩))
    all_goals as_aux_lemma =>
      have hB2 := bstep hB hb2 hB.size
      have hl4 := hl3.base hB2.size
      have HL := hide hl4
      clear hl3 hl4 hP2 hP
      go_wp2_with fail
      go_returns
      exact ⟨_, rfl, HL.out, bstep hB2 hb3 hB2.size⟩
  · have hx : glx p q c = [] := by unfold glx; rw [if_neg h0]
    rw [hx]
    generalize gpc p q c = d at *
    have hb : (d != 0) = true := by simp [h0]
    clear hx
    go_enter Try.func8, Try.ntmps8
    go_wp2_with fail
    refine (hC _).mono ?_
    rintro e w1 ⟨rfl, hb1⟩
    have hB := bstep (show Below w.heap.size w _ by go_grown) hb1 (by simp)
    go_wp2_with fail
    go_returns
    exact ⟨_, rfl, LstF.nil_ _ _, hB⟩

set_option maxHeartbeats 4000000 in
set_option maxRecDepth 100000 in
theorem implGapCounts_any (p q c : Int) (w : World) :
    Calls Try.prog 11 #[.agg #[.int .i64 p, .int .i64 q], .int .i64 c] w fun e w' => ∃ v, e = .returned (.tuple #[v, .int .i64 (gpc p q c)]) ∧ Lst w' w.heap.size v (gcx p q c) ∧ Below w.heap.size w w' := by
  have hC := checkPoints_any p q c
  by_cases h0 : gpc p q c = 0
  · obtain ⟨ho, hc, hcq⟩ := gpc_ok h0
    obtain ⟨o1, o2, o3⟩ := okF_iff.1 ho
    obtain ⟨m, rfl⟩ : ∃ m : Nat, c = m := ⟨c.toNat, by omega⟩
    have hx : gcx p q m = cnt (gps p q m) := by unfold gcx; rw [if_pos h0]; rfl
    have hL := fun w => implLengths_any p q m w ho ⟨by omega, by omega⟩ hcq
    have hpl := puts_len (gps p q m)
    rw [gps_len] at hpl
    change ∀ w, Calls Try.prog 34 #[.agg #[.int .i64 p, .int .i64 q], .int .i64 (m : Int)] w fun e w' => ∃ g cap g2 cap2 m', e = .returned (.tuple #[.slice (some ⟨g, 0, none⟩) (m' + 1) cap, .slice (some ⟨g2, 0, none⟩) (m' + 1) cap2]) ∧ (puts (gps p q m)).length = m' + 1 ∧ w.heap.size ≤ g ∧ w.heap.size ≤ g2 ∧ Row w' g 2 1 (m' + 1) cap (il (puts (gps p q m))) ∧ Row w' g2 2 1 (m' + 1) cap2 (il (cnt (gps p q m))) ∧ Below w.heap.size w w' at hL
    generalize puts (gps p q m) = U at *
    generalize cnt (gps p q m) = V at *
    rw [h0] at hC
    rw [h0, hx]
    clear hx h0 ho hcq
    go_enter Try.func11, Try.ntmps11
    go_wp2_with fail
    refine (hC _).mono ?_
    rintro e w1 ⟨rfl, hb1⟩
    obtain ⟨a1, _, k3, HK⟩ := (Blk.new w 25 #[.int .i64 p, .int .i64 q]).after hb1 (by simp)
    have x0 := a1 0
    have x1 := a1 1
    have hB := bstep (show Below w.heap.size w _ by go_grown) hb1 (by simp)
    clear a1 hb1
    go_wp2_with fail
    refine (hL _).mono ?_
    rintro e w2 ⟨g, cap, g2, cap2, m', rfl, hm', _, hg, _, hr, hb2⟩
    have HL := hide (Lst.of_row (B := w.heap.size) hr (by have := hB.size; omega) (by omega))
    clear hr
    go_wp2_with fail
    go_returns
    exact ⟨_, rfl, HL.out, bstep hB hb2 hB.size⟩
  · have hx : gcx p q c = [] := by unfold gcx; rw [if_neg h0]
    rw [hx]
    generalize gpc p q c = d at *
    have hb : (d != 0) = true := by simp [h0]
    clear hx
    go_enter Try.func11, Try.ntmps11
    go_wp2_with fail
    refine (hC _).mono ?_
    rintro e w1 ⟨rfl, hb1⟩
    have hB := bstep (show Below w.heap.size w _ by go_grown) hb1 (by simp)
    go_wp2_with fail
    go_returns
    exact ⟨_, rfl, Lst.nil_ _ _, hB⟩

theorem cnt_len (G : List Int) : (cnt G).length = (puts G).length := by simp [cnt]
theorem cnt_take (G : List Int) {i : Nat} (h : i < (puts G).length) : (cnt G).take (i + 1) = (cnt G).take i ++ [(G.count ((puts G).getD i 0) : Int)] := by
  rw [List.take_succ_eq_append_getElem (by rw [cnt_len]; exact h), getD_getElem h]
  simp [cnt]
theorem count_step (G : List Int) (x : Int) {k : Nat} (h : k < G.length) : (G.take (k + 1)).count x = (G.take k).count x + if G.getD k 0 = x then 1 else 0 := by
  rw [take_snoc_I h, List.count_append, List.count_singleton]
  by_cases hx : G.getD k 0 = x
  · rw [hx]; simp
  · rw [if_neg hx, beq_eq_false_iff_ne.2 hx]; simp

set_option maxHeartbeats 4000000 in
set_option maxRecDepth 100000 in
theorem specGapCounts_any (p q c : Int) (w : World) :
    Calls Try.prog 12 #[.agg #[.int .i64 p, .int .i64 q], .int .i64 c] w fun e w' => ∃ v, e = .returned (.tuple #[v, .int .i64 (gpc p q c)]) ∧ Lst w' w.heap.size v (gcx p q c) ∧ Below w.heap.size w w' := by
  have hC := l20Code_any p q c
  by_cases h0 : gpc p q c = 0
  · obtain ⟨ho, hc, hcq⟩ := gpc_ok h0
    obtain ⟨o1, o2, o3⟩ := okF_iff.1 ho
    obtain ⟨m, rfl⟩ : ∃ m : Nat, c = m := ⟨c.toNat, by omega⟩
    obtain ⟨i0, hi, hz0, hz1, hz2⟩ := info_parts info_i64
    have hx : gcx p q m = cnt (gps p q m) := by unfold gcx; rw [if_pos h0]; rfl
    have hGa := fun w => specGaps_any p q m w ho ⟨by omega, by omega⟩ hcq
    have hL := fun w => specLengths_any p q m w ho ⟨by omega, by omega⟩ hcq
    have hpl := puts_len (gps p q m)
    have hgl := gps_len p q m
    rw [hgl] at hpl
    have hct := fun i h => cnt_take (gps p q m) (i := i) h
    have hcl := cnt_len (gps p q m)
    have hcs := fun x k h => count_step (gps p q m) x (k := k) h
    have hcb := fun x k => List.count_le_length (a := x) (l := (gps p q m).take k)
    change ∀ w, Calls Try.prog 38 #[.agg #[.int .i64 p, .int .i64 q], .int .i64 (m : Int)] w fun e w' => ∃ g cap, e = .returned (.slice (some ⟨g, 0, none⟩) (puts (gps p q m)).length cap) ∧ w.heap.size ≤ g ∧ Row w' g 2 1 (puts (gps p q m)).length cap (il (puts (gps p q m))) ∧ Below w.heap.size w w' at hL
    change ∀ w, Calls Try.prog 40 #[.agg #[.int .i64 p, .int .i64 q], .int .i64 (m : Int)] w fun e w' => ∃ g cap, e = .returned (.slice (some ⟨g, 0, none⟩) m cap) ∧ w.heap.size ≤ g ∧ Row w' g 2 1 m cap (il (gps p q m)) ∧ Below w.heap.size w w' at hGa
    generalize puts (gps p q m) = U at *
    generalize cnt (gps p q m) = V at *
    generalize gps p q m = G at *
    obtain ⟨n, hn⟩ : ∃ n, U.length = n := ⟨_, rfl⟩
    rw [hn] at hL hpl hcl
    rw [h0] at hC
    rw [h0, hx]
    have HCT := hide hct
    have HCL := hide hcl
    have HCS := hide hcs
    have HCB := hide hcb
    have HGL := hide hgl
    have HN := hide hn
    clear hx h0 ho hcq hct hcl hcs hcb hgl hn
    go_enter Try.func12, Try.ntmps12
    go_wp2_with fail
    refine (hC _).mono ?_
    rintro e w1 ⟨rfl, hb1⟩
    obtain ⟨a1, _, k3, HK⟩ := (Blk.new w 25 #[.int .i64 p, .int .i64 q]).after hb1 (by simp)
    have x0 := a1 0
    have x1 := a1 1
    have hB := bstep (show Below w.heap.size w _ by go_grown) hb1 (by simp)
    clear a1 hb1
    go_wp2_with fail
    refine (hGa _).mono ?_
    rintro e w2 ⟨g, cap, rfl, hg, hr, hb2⟩
    obtain ⟨a1, _, k4, _⟩ := HK.out.after hb2 k3
    have x2 := a1 0
    have x3 := a1 1
    have hB2 := bstep hB hb2 hB.size
    have HR := hide hr
    have hgl2 := hr.lt
    clear hr a1 x0 x1
    go_wp2_with fail
    refine (hL _).mono ?_
    rintro e w3 ⟨gu, capu, rfl, hgu, hru, hb3⟩
    have hr3 := HR.out.below hb3 hgl2
    have HR3 := hide hr3
    have HU := hide hru
    have hgul := hru.lt
    have hgl3 := hr3.lt
    have hB3 := bstep hB2 hb3 hB2.size
    have hsz := hB3.size
    clear hr3 hru x2 x3
    go_wp2_with fail
    go_loopw [9, 10] (fun ov iv wr => ∃ i : Nat, iv = .int .i64 i ∧ i ≤ n ∧ wr.ownsRow w3.heap.size 2 1 ov i (il (V.take i)) ∧ Below w3.heap.size w3 wr) (fun _ iv _ => n - (intOf iv).toNat)
    case atStart => exact ⟨0, rfl, by omega, (Row.lit (by simp) (by rfl) (by omega)).own (by simp), (Below.refl _ _).alloc (Nat.le_refl _) _⟩
    case round =>
      obtain ⟨i, rfl, hi2, hown, hbel⟩ := hrel
      have sr := hbel.size
      by_cases hlt : i < n
      · have hll : i < U.length := by rw [HN.out]; exact hlt
        have y1 := (HU.out.below hbel hgul).cell (il_getD (zs := U) (i := i) hll)
        have hstep := HCT.out i hll
        generalize U.getD i 0 = x at *
        have HS := hide hstep
        have HOW := hide hown
        have i1 : (i : Int) < (n : Int) := by omega
        clear hown hstep hll
        obtain ⟨w4, hw4⟩ : ∃ w4, w4 = wr := ⟨_, rfl⟩
        subst hw4
        go_wp2_with fail
        go_loopw [11, 12] (fun nv kv wi => ∃ (k d nn : Nat), kv = .int .i64 k ∧ k ≤ m ∧ (G.take k).count x = nn ∧ nv = .int .i64 nn ∧ wi = w4.drewN d) (fun _ kv _ => m - (intOf kv).toNat)
        case atStart => exact ⟨0, 0, 0, rfl, by omega, by simp, rfl, rfl⟩
        case round =>
          obtain ⟨k, d, nn, rfl, hk, hnn, rfl, rfl⟩ := hrel
          have hnb := HCB.out x k
          rw [hnn, List.length_take, HGL.out] at hnb
          by_cases hkm : k < m
          · have hkl : k < G.length := by rw [HGL.out]; exact hkm
            have y2 := (HR3.out.below hbel hgl3).cell (il_getD (zs := G) (i := k) hkl)
            have hst := HCS.out x k hkl
            rw [hnn] at hst
            have i2 : (k : Int) < (m : Int) := by omega
            have i3 : k < m := hkm
            have i4 : IntKind.i64.wrap ((nn : Int) + 1) = (nn : Int) + 1 := IntWalk.i64_in _ (by omega)
            have HY := hide y1
            by_cases hxx : G.getD k 0 = x
            · rw [hxx] at y2
              rw [if_pos hxx] at hst
              have q1 : (x == x) = true := beq_self_eq_true x
              have HST := hide hst
              clear hst hxx hnn hkl
              go_wp2_with fail
              go_quiet (fail)
              go_wp2_with fail
              go_roundw
              case rel => exact ⟨k + 1, _, nn + 1, by go_num, by omega, HST.out, by go_num, by first | rfl | (rw [World.drewN_drewN])⟩
              case measure => simp [intOf]; omega
            · rw [if_neg hxx] at hst
              have q1 : (G.getD k 0 == x) = false := beq_eq_false_iff_ne.2 hxx
              generalize G.getD k 0 = y at *
              have HST := hide hst
              clear hst hxx hnn hkl
              go_wp2_with fail
              go_quiet (fail)
              go_wp2_with fail
              go_roundw
              case rel => exact ⟨k + 1, _, nn, by go_num, by omega, HST.out, rfl, by first | rfl | (rw [World.drewN_drewN])⟩
              case measure => simp [intOf]; omega
          · have hkm2 : k = m := by omega
            subst hkm2
            rw [List.take_of_length_le (by rw [HGL.out]; exact Nat.le_refl _)] at hnn
            rw [hnn] at HS
            have hb4 := belowN hbel d
            have hown4 := own_below HOW.out (belowN (Below.refl _ _) d)
            have HO4 := hide hown4
            have HNN := hide hnn
            have s4 := hb4.size
            generalize w4.drewN d = w5 at *
            clear hown4 hnn
            go_wp2_with (at_builtin; refine wpList_append_own _ rfl (.tmp 49) (.tmp 51) _ rfl w3.heap.size 2 i0 _ 1 8 Try.underlying31 hi hz0 hz1 hz2 rfl (by omega) u9 i (il (V.take i)) (by rfl) (own_below HO4.out ((Below.refl _ _).alloc (Nat.le_refl _) _)) ⟨w5.heap.size, 0, none⟩ 1 1 (il [(nn : Int)]) (by rfl) (by rfl) (news_new (by simp)) (one_il _) (by simp only [maxLen]; omega) (by omega) (by simp; omega) ?_; intro v8 w8 hown8 hgrow8 hnil8)
            rw [← il_append] at hown8
            have HO8 := hide hown8
            clear hown8 hnil8
            go_wp2_with fail
            go_roundw
            case rel => exact ⟨i + 1, by go_num, by omega, by rw [HS.out]; exact HO8.out, (hb4.alloc s4 _).grown hgrow8 (by simp; omega) (own_base HO4.out)⟩
            case measure => simp [intOf]; omega
      · have hin : i = n := by omega
        subst hin
        rw [List.take_of_length_le (by rw [HCL.out]; exact Nat.le_refl _)] at hown
        have HF := hide ((Lst.of_own hown (by omega)).base (B' := w.heap.size) (by omega))
        clear hown
        go_wp2_with fail
        go_returns
        exact ⟨_, rfl, HF.out, bstep hB3 hbel hsz⟩
  · have hx : gcx p q c = [] := by unfold gcx; rw [if_neg h0]
    rw [hx]
    generalize gpc p q c = d at *
    have hb : (d != 0) = true := by simp [h0]
    clear hx
    go_enter Try.func12, Try.ntmps12
    go_wp2_with fail
    refine (hC _).mono ?_
    rintro e w1 ⟨rfl, hb1⟩
    have hB := bstep (show Below w.heap.size w _ by go_grown) hb1 (by simp)
    go_wp2_with fail
    go_returns
    exact ⟨_, rfl, Lst.nil_ _ _, hB⟩

set_option maxHeartbeats 4000000 in
set_option maxRecDepth 100000 in
theorem implTwoLengths_any (p q c : Int) (w : World) :
    Calls Try.prog 30 #[.agg #[.int .i64 p, .int .i64 q], .int .i64 c] w fun e w' => ∃ v, e = .returned (.tuple #[v, .int .i64 (tlc p q c)]) ∧ Lst w' w.heap.size v (tlx p q c) ∧ Below w.heap.size w w' := by
  have hC := checkPoints_any p q c
  by_cases h0 : gpc p q c = 0
  · obtain ⟨ho, hc, hcq⟩ := gpc_ok h0
    obtain ⟨o1, o2, o3⟩ := okF_iff.1 ho
    obtain ⟨m, rfl⟩ : ∃ m : Nat, c = m := ⟨c.toNat, by omega⟩
    obtain ⟨i0, hi, hz0, hz1, hz2⟩ := info_parts info_i64
    rw [h0] at hC
    by_cases h60 : 60 < (m : Int)
    · have e0 : tlc p q m = 2 := by unfold tlc; rw [if_pos h0, if_pos h60]
      have hx : tlx p q m = [] := by unfold tlx; rw [e0]; rfl
      rw [e0, hx]
      have hd : decide (60 < (m : Int)) = true := decide_eq_true h60
      clear h0 e0 hx
      go_enter Try.func30, Try.ntmps30
      go_wp2_with fail
      refine (hC _).mono ?_
      rintro e w1 ⟨rfl, hb1⟩
      obtain ⟨a1, _, k3, HK⟩ := (Blk.new w 25 #[.int .i64 p, .int .i64 q]).after hb1 (by simp)
      have x0 := a1 0
      have x1 := a1 1
      have hB := bstep (show Below w.heap.size w _ by go_grown) hb1 (by simp)
      clear a1 hb1
      go_wp2_with fail
      go_returns
      exact ⟨_, rfl, Lst.nil_ _ _, hB⟩
    · have e0 : tlc p q m = 0 := by unfold tlc; rw [if_pos h0, if_neg h60]
      have hx : tlx p q m = tll p q m := by unfold tlx; rw [e0]; rfl
      rw [e0, hx]
      have hd : decide (60 < (m : Int)) = false := decide_eq_false h60
      have hL := fun (k : Nat) (w : World) (h1 : 1 ≤ k ∧ k ≤ 200) (h2 : (k : Int) ≤ q) => implLengths_any p q k w ho h1 h2
      have hT := fun k => tll_len p q k
      have HL := hide hL
      have HT := hide hT
      clear h0 e0 hx hL hT ho
      go_enter Try.func30, Try.ntmps30
      go_wp2_with fail
      refine (hC _).mono ?_
      rintro e w1 ⟨rfl, hb1⟩
      obtain ⟨a1, _, k3, HK⟩ := (Blk.new w 25 #[.int .i64 p, .int .i64 q]).after hb1 (by simp)
      have x0 := a1 0
      have x1 := a1 1
      have hB := bstep (show Below w.heap.size w _ by go_grown) hb1 (by simp)
      clear a1 hb1
      have hsz := hB.size
      go_wp2_with fail
      go_loopw [7, 8] (fun ov iv wr => ∃ (k t : Nat), iv = .int .i64 ((k : Int) + 1) ∧ k ≤ m ∧ (tll p q k).length = t ∧ wr.ownsRow w1.heap.size 2 1 ov t (il (tll p q k)) ∧ Blk wr w.heap.size 25 #[.int .i64 p, .int .i64 q] ∧ Below w1.heap.size w1 wr) (fun _ iv _ => m + 1 - (intOf iv).toNat)
      case atStart => exact ⟨0, 0, by simp, by omega, rfl, own_nil _ _ _ _, HK.out, Below.refl _ _⟩
      case round =>
        obtain ⟨k, t, rfl, hk, ht, hown, hblk, hbel⟩ := hrel
        have sr := hbel.size
        have htk := HT.out k
        rw [ht] at htk
        obtain ⟨a1, _, a3, HB⟩ := hblk.after (Below.refl _ _) hblk.lt
        have z0 := a1 0
        have z1 := a1 1
        clear a1 hblk x0 x1
        by_cases hlt : k < m
        · have hLk := HL.out (k + 1) wr ⟨by omega, by omega⟩ (by omega)
          have hcast : ((k + 1 : Nat) : Int) = (k : Int) + 1 := by simp
          rw [hcast] at hLk
          have hsuc : tll p q (k + 1) = if (puts (gps p q (k + 1))).length ≤ 2 then tll p q k ++ [(k : Int) + 1] else tll p q k := by rw [← hcast]; rfl
          change Calls Try.prog 34 #[.agg #[.int .i64 p, .int .i64 q], .int .i64 ((k : Int) + 1)] wr fun e w' => ∃ g cap g2 cap2 m', e = .returned (.tuple #[.slice (some ⟨g, 0, none⟩) (m' + 1) cap, .slice (some ⟨g2, 0, none⟩) (m' + 1) cap2]) ∧ (puts (gps p q (k + 1))).length = m' + 1 ∧ wr.heap.size ≤ g ∧ wr.heap.size ≤ g2 ∧ Row w' g 2 1 (m' + 1) cap (il (puts (gps p q (k + 1)))) ∧ Row w' g2 2 1 (m' + 1) cap2 (il (cnt (gps p q (k + 1)))) ∧ Below wr.heap.size wr w' at hLk
          have HOW := hide hown
          have HTT := hide ht
          have hsp : ((k : Int) + 1 ≤ (m : Int)) := by omega
          clear hown ht hcast
          by_cases h2 : (puts (gps p q (k + 1))).length ≤ 2
          · rw [if_pos h2] at hsuc
            have HS := hide hsuc
            clear hsuc
            go_wp2_with fail
            refine hLk.mono ?_
            rintro e w2 ⟨g, cap, g2, cap2, m', rfl, hm', hg, _, _, _, hb2⟩
            rw [hm'] at h2
            have hb4 := hbel.trans (hb2.mono sr)
            have hbx := HB.out.below_ hb2 a3
            have hown4 := own_below HOW.out hb2
            have HO4 := hide hown4
            have HBX := hide hbx
            have s4 := hb4.size
            have i2 : ((m' : Int) + 1 : Int) ≤ 2 := by omega
            have i3 : m' + 1 ≤ 2 := by omega
            have i4 : decide (((m' : Int) + 1 : Int) ≤ 2) = true := decide_eq_true i2
            clear hown4 hbx hLk z0 z1
            go_wp2_with (at_builtin; refine wpList_append_own _ rfl (.tmp 33) (.tmp 35) _ rfl w1.heap.size 2 i0 _ 1 8 Try.underlying31 hi hz0 hz1 hz2 rfl (by omega) u7 t (il (tll p q k)) (by rfl) (own_below HO4.out ((Below.refl _ _).alloc (Nat.le_refl _) _)) ⟨w2.heap.size, 0, none⟩ 1 1 (il [(k : Int) + 1]) (by rfl) (by rfl) (news_new (by simp)) (one_il _) (by simp only [maxLen]; omega) (by omega) (by simp; omega) ?_; intro v8 w8 hown8 hgrow8 hnil8)
            rw [← il_append] at hown8
            have HO8 := hide hown8
            clear hown8 hnil8
            go_wp2_with fail
            go_roundw
            case rel => exact ⟨k + 1, t + 1, by simp, by omega, by rw [HS.out, List.length_append, HTT.out]; rfl, by rw [HS.out]; exact HO8.out, (HBX.out.alloc _).grown hgrow8 (fun h => by have := own_base HO4.out _ h.symm; omega), (hb4.alloc s4 _).grown hgrow8 (by simp; omega) (own_base HO4.out)⟩
            case measure => simp [intOf]; omega
          · rw [if_neg h2] at hsuc
            have HS := hide hsuc
            clear hsuc
            go_wp2_with fail
            refine hLk.mono ?_
            rintro e w2 ⟨g, cap, g2, cap2, m', rfl, hm', hg, _, _, _, hb2⟩
            rw [hm'] at h2
            have hb4 := hbel.trans (hb2.mono sr)
            have hbx := HB.out.below_ hb2 a3
            have hown4 := own_below HOW.out hb2
            have HO4 := hide hown4
            have HBX := hide hbx
            have i2 : ¬ ((m' : Int) + 1 : Int) ≤ 2 := by omega
            have i3 : ¬ m' + 1 ≤ 2 := by omega
            have i4 : decide (((m' : Int) + 1 : Int) ≤ 2) = false := decide_eq_false i2
            clear hown4 hbx hLk z0 z1
            go_wp2_with fail
            go_roundw
            case rel => exact ⟨k + 1, t, by simp, by omega, by rw [HS.out, HTT.out], by rw [HS.out]; exact HO4.out, HBX.out, hb4⟩
            case measure => simp [intOf]; omega
        · have hkm : k = m := by omega
          subst hkm
          have HF := hide ((Lst.of_own hown (by omega)).base (B' := w.heap.size) (by omega))
          clear hown
          go_wp2_with fail
          go_returns
          exact ⟨_, rfl, HF.out, bstep hB hbel hsz⟩
  · have e0 : tlc p q c = gpc p q c := by unfold tlc; rw [if_neg h0]
    have hx : tlx p q c = [] := by unfold tlx; rw [e0, if_neg h0]
    rw [e0, hx]
    generalize gpc p q c = d at *
    have hb : (d != 0) = true := by simp [h0]
    have hb' : (d == 0) = false := by simp [h0]
    clear hx
    go_enter Try.func30, Try.ntmps30
    go_wp2_with fail
    refine (hC _).mono ?_
    rintro e w1 ⟨rfl, hb1⟩
    have hB := bstep (show Below w.heap.size w _ by go_grown) hb1 (by simp)
    go_wp2_with fail
    go_returns
    exact ⟨_, rfl, Lst.nil_ _ _, hB⟩

set_option maxHeartbeats 4000000 in
set_option maxRecDepth 100000 in
theorem specTwoLengths_any (p q c : Int) (w : World) :
    Calls Try.prog 31 #[.agg #[.int .i64 p, .int .i64 q], .int .i64 c] w fun e w' => ∃ v, e = .returned (.tuple #[v, .int .i64 (tlc p q c)]) ∧ Lst w' w.heap.size v (tlx p q c) ∧ Below w.heap.size w w' := by
  have hC := l20Code_any p q c
  by_cases h0 : gpc p q c = 0
  · obtain ⟨ho, hc, hcq⟩ := gpc_ok h0
    obtain ⟨o1, o2, o3⟩ := okF_iff.1 ho
    obtain ⟨m, rfl⟩ : ∃ m : Nat, c = m := ⟨c.toNat, by omega⟩
    obtain ⟨i0, hi, hz0, hz1, hz2⟩ := info_parts info_i64
    rw [h0] at hC
    by_cases h60 : 60 < (m : Int)
    · have e0 : tlc p q m = 2 := by unfold tlc; rw [if_pos h0, if_pos h60]
      have hx : tlx p q m = [] := by unfold tlx; rw [e0]; rfl
      rw [e0, hx]
      have hd : decide (60 < (m : Int)) = true := decide_eq_true h60
      clear h0 e0 hx
      go_enter Try.func31, Try.ntmps31
      go_wp2_with fail
      refine (hC _).mono ?_
      rintro e w1 ⟨rfl, hb1⟩
      obtain ⟨a1, _, k3, HK⟩ := (Blk.new w 25 #[.int .i64 p, .int .i64 q]).after hb1 (by simp)
      have x0 := a1 0
      have x1 := a1 1
      have hB := bstep (show Below w.heap.size w _ by go_grown) hb1 (by simp)
      clear a1 hb1
      go_wp2_with fail
      go_returns
      exact ⟨_, rfl, Lst.nil_ _ _, hB⟩
    · have e0 : tlc p q m = 0 := by unfold tlc; rw [if_pos h0, if_neg h60]
      have hx : tlx p q m = tll p q m := by unfold tlx; rw [e0]; rfl
      rw [e0, hx]
      have hd : decide (60 < (m : Int)) = false := decide_eq_false h60
      have hL := fun (k : Nat) (w : World) (h1 : 1 ≤ k ∧ k ≤ 200) (h2 : (k : Int) ≤ q) => specLengths_any p q k w ho h1 h2
      have hT := fun k => tll_len p q k
      have HL := hide hL
      have HT := hide hT
      clear h0 e0 hx hL hT ho
      go_enter Try.func31, Try.ntmps31
      go_wp2_with fail
      refine (hC _).mono ?_
      rintro e w1 ⟨rfl, hb1⟩
      obtain ⟨a1, _, k3, HK⟩ := (Blk.new w 25 #[.int .i64 p, .int .i64 q]).after hb1 (by simp)
      have x0 := a1 0
      have x1 := a1 1
      have hB := bstep (show Below w.heap.size w _ by go_grown) hb1 (by simp)
      clear a1 hb1
      have hsz := hB.size
      go_wp2_with fail
      go_loopw [7, 8] (fun ov iv wr => ∃ (k t : Nat), iv = .int .i64 ((k : Int) + 1) ∧ k ≤ m ∧ (tll p q k).length = t ∧ wr.ownsRow w1.heap.size 2 1 ov t (il (tll p q k)) ∧ Blk wr w.heap.size 25 #[.int .i64 p, .int .i64 q] ∧ Below w1.heap.size w1 wr) (fun _ iv _ => m + 1 - (intOf iv).toNat)
      case atStart => exact ⟨0, 0, by simp, by omega, rfl, (Row.lit (by simp) (by rfl) (by omega)).own (by simp), HK.out.alloc _, (Below.refl _ _).alloc (Nat.le_refl _) _⟩
      case round =>
        obtain ⟨k, t, rfl, hk, ht, hown, hblk, hbel⟩ := hrel
        have sr := hbel.size
        have htk := HT.out k
        rw [ht] at htk
        obtain ⟨a1, _, a3, HB⟩ := hblk.after (Below.refl _ _) hblk.lt
        have z0 := a1 0
        have z1 := a1 1
        clear a1 hblk x0 x1
        by_cases hlt : k < m
        · have hLk := HL.out (k + 1) wr ⟨by omega, by omega⟩ (by omega)
          have hcast : ((k + 1 : Nat) : Int) = (k : Int) + 1 := by simp
          rw [hcast] at hLk
          have hsuc : tll p q (k + 1) = if (puts (gps p q (k + 1))).length ≤ 2 then tll p q k ++ [(k : Int) + 1] else tll p q k := by rw [← hcast]; rfl
          change Calls Try.prog 38 #[.agg #[.int .i64 p, .int .i64 q], .int .i64 ((k : Int) + 1)] wr fun e w' => ∃ g cap, e = .returned (.slice (some ⟨g, 0, none⟩) (puts (gps p q (k + 1))).length cap) ∧ wr.heap.size ≤ g ∧ Row w' g 2 1 (puts (gps p q (k + 1))).length cap (il (puts (gps p q (k + 1)))) ∧ Below wr.heap.size wr w' at hLk
          generalize puts (gps p q (k + 1)) = U at *
          generalize U.length = m' at *
          have HOW := hide hown
          have HTT := hide ht
          have hsp : ((k : Int) + 1 ≤ (m : Int)) := by omega
          clear hown ht hcast
          by_cases h2 : m' ≤ 2
          · rw [if_pos h2] at hsuc
            have HS := hide hsuc
            clear hsuc
            go_wp2_with fail
            refine hLk.mono ?_
            rintro e w2 ⟨g, cap, rfl, hg, _, hb2⟩
            have hb4 := hbel.trans (hb2.mono sr)
            have hbx := HB.out.below_ hb2 a3
            have hown4 := own_below HOW.out hb2
            have HO4 := hide hown4
            have HBX := hide hbx
            have s4 := hb4.size
            have i2 : ((m' : Int) : Int) ≤ 2 := by omega
            have i3 : m' ≤ 2 := by omega
            have i4 : decide (((m' : Int) : Int) ≤ 2) = true := decide_eq_true i2
            clear hown4 hbx hLk z0 z1
            go_wp2_with (at_builtin; refine wpList_append_own _ rfl (.tmp 32) (.tmp 34) _ rfl w1.heap.size 2 i0 _ 1 8 Try.underlying31 hi hz0 hz1 hz2 rfl (by omega) u7 t (il (tll p q k)) (by rfl) (own_below HO4.out ((Below.refl _ _).alloc (Nat.le_refl _) _)) ⟨w2.heap.size, 0, none⟩ 1 1 (il [(k : Int) + 1]) (by rfl) (by rfl) (news_new (by simp)) (one_il _) (by simp only [maxLen]; omega) (by omega) (by simp; omega) ?_; intro v8 w8 hown8 hgrow8 hnil8)
            rw [← il_append] at hown8
            have HO8 := hide hown8
            clear hown8 hnil8
            go_wp2_with fail
            go_roundw
            case rel => exact ⟨k + 1, t + 1, by simp, by omega, by rw [HS.out, List.length_append, HTT.out]; rfl, by rw [HS.out]; exact HO8.out, (HBX.out.alloc _).grown hgrow8 (fun h => by have := own_base HO4.out _ h.symm; omega), (hb4.alloc s4 _).grown hgrow8 (by simp; omega) (own_base HO4.out)⟩
            case measure => simp [intOf]; omega
          · rw [if_neg h2] at hsuc
            have HS := hide hsuc
            clear hsuc
            go_wp2_with fail
            refine hLk.mono ?_
            rintro e w2 ⟨g, cap, rfl, hg, _, hb2⟩
            have hb4 := hbel.trans (hb2.mono sr)
            have hbx := HB.out.below_ hb2 a3
            have hown4 := own_below HOW.out hb2
            have HO4 := hide hown4
            have HBX := hide hbx
            have i2 : ¬ ((m' : Int) : Int) ≤ 2 := by omega
            have i3 : ¬ m' ≤ 2 := by omega
            have i4 : decide (((m' : Int) : Int) ≤ 2) = false := decide_eq_false i2
            clear hown4 hbx hLk z0 z1
            go_wp2_with fail
            go_roundw
            case rel => exact ⟨k + 1, t, by simp, by omega, by rw [HS.out, HTT.out], by rw [HS.out]; exact HO4.out, HBX.out, hb4⟩
            case measure => simp [intOf]; omega
        · have hkm : k = m := by omega
          subst hkm
          have HF := hide ((Lst.of_own hown (by omega)).base (B' := w.heap.size) (by omega))
          clear hown
          go_wp2_with fail
          go_returns
          exact ⟨_, rfl, HF.out, bstep hB hbel hsz⟩
  · have e0 : tlc p q c = gpc p q c := by unfold tlc; rw [if_neg h0]
    have hx : tlx p q c = [] := by unfold tlx; rw [e0, if_neg h0]
    rw [e0, hx]
    generalize gpc p q c = d at *
    have hb : (d != 0) = true := by simp [h0]
    have hb' : (d == 0) = false := by simp [h0]
    clear hx
    go_enter Try.func31, Try.ntmps31
    go_wp2_with fail
    refine (hC _).mono ?_
    rintro e w1 ⟨rfl, hb1⟩
    have hB := bstep (show Below w.heap.size w _ by go_grown) hb1 (by simp)
    go_wp2_with fail
    go_returns
    exact ⟨_, rfl, Lst.nil_ _ _, hB⟩

end Go.Proofs.Ytpagfikhcmeciaa
