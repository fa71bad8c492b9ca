/- What the law on gaps asks: sums of fractions, the gaps' sum, the sum of the counts. -/
import Derived.Test.YtpagfikhcmeciaaGapD
import Derived.Test.YtpagfikhcmeciaaErrT
import Derived.Test.YtpagfikhcmeciaaF6
namespace Go.Proofs.Ytpagfikhcmeciaa
open Go.RowKit Go.Sort

theorem dvd_left {p q y : Int} (h : q ∣ p * y) (hg : Int.gcd p q = 1) : q ∣ y := by
  have h3 := Int.natAbs_dvd_natAbs.2 h
  rw [Int.natAbs_mul] at h3
  exact Int.natAbs_dvd_natAbs.1 (Nat.Coprime.dvd_of_dvd_mul_left (by rw [Nat.Coprime, Nat.gcd_comm]; exact hg) h3)
theorem frac_eq {a b x y : Int} (hb : 1 ≤ b) (hy : 1 ≤ y) (h1 : Int.gcd a b = 1) (h2 : Int.gcd x y = 1) (h : a * y = x * b) : a = x ∧ b = y := by
  have d1 : b ∣ y := by
    have : b ∣ a * y := ⟨x, by rw [h, Int.mul_comm]⟩
    exact dvd_left this h1
  have d2 : y ∣ b := by
    have : y ∣ x * b := ⟨a, by rw [← h, Int.mul_comm]⟩
    exact dvd_left this h2
  have e1 := Int.le_of_dvd (by omega) d1
  have e2 := Int.le_of_dvd (by omega) d2
  have e : b = y := by omega
  subst e
  exact ⟨Int.eq_of_mul_eq_mul_right (by omega) h, rfl⟩
theorem sum_filter (p : Int → Nat) (D : List Int) (hD : D.Nodup) (x : Int) (hx : x ∈ D) (q : Int → Nat) (h : ∀ y, y ≠ x → q y = p y) (h2 : q x = p x + 1) : (D.map q).sum = (D.map p).sum + 1 := by
  induction D with
  | nil => cases hx
  | cons y D ih =>
    rw [List.nodup_cons] at hD
    simp only [List.map_cons, List.sum_cons]
    rcases List.mem_cons.1 hx with rfl | hx
    · have : D.map q = D.map p := List.map_congr_left (fun y hy => h y (fun e => hD.1 (e ▸ hy)))
      rw [this, h2]; omega
    · have := ih hD.2 hx
      have hy : y ≠ x := fun e => hD.1 (e ▸ hx)
      rw [this, h y hy]; omega
theorem count_sum (D : List Int) (hD : D.Nodup) : ∀ L : List Int, (∀ x ∈ L, x ∈ D) → (D.map fun z => L.count z).sum = L.length
  | [], _ => by
    have : (D.map fun z => ([] : List Int).count z) = D.map fun _ => 0 := by simp
    rw [this]
    clear this hD
    induction D with
    | nil => rfl
    | cons y D ih => simpa using ih
  | x :: L, h => by
    have ih := count_sum D hD L (fun y hy => h y (List.mem_cons_of_mem _ hy))
    rw [List.length_cons, ← ih]
    refine sum_filter (fun z => L.count z) D hD x (h x (by simp)) (fun z => (x :: L).count z) ?_ ?_
    · intro y hy
      exact List.count_cons_of_ne (fun e => hy e.symm)
    · exact List.count_cons_self

theorem red_form {q x : Int} (hq : 1 ≤ q) : ∃ a b g : Int, red q x = (a, b) ∧ 0 < g ∧ x = g * a ∧ q = g * b ∧ 1 ≤ b ∧ Int.gcd a b = 1 := by
  have hg := Int.gcd_pos_of_ne_zero_right x (show q ≠ 0 by omega)
  refine ⟨_, _, (Int.gcd x q : Nat), rfl, by omega, (Int.mul_ediv_cancel' (Int.gcd_dvd_left ..)).symm, (Int.mul_ediv_cancel' (Int.gcd_dvd_right ..)).symm, ?_, gcd_quot (by omega)⟩
  have := Int.ediv_pos_of_pos_of_dvd (show 0 < q by omega) (show (0 : Int) ≤ (Int.gcd x q : Nat) by omega) (Int.gcd_dvd_right ..)
  omega
/-- The sum of two such fractions. -/
theorem pln_red {q x y : Int} (hq : 1 ≤ q ∧ q ≤ 1000000000) (hx : 0 ≤ x) (hy : 0 ≤ y) (hxy : x + y ≤ q) :
    pln ((red q x).1 * (red q y).2 + (red q y).1 * (red q x).2) ((red q x).2 * (red q y).2) = .tuple #[.agg #[.int .i64 (red q (x + y)).1, .int .i64 (red q (x + y)).2], .int .i64 0] := by
  obtain ⟨a1, b1, g1, e1, p1, x1, q1, h1, c1⟩ := red_form (x := x) hq.1
  obtain ⟨a2, b2, g2, e2, p2, x2, q2, h2, c2⟩ := red_form (x := y) hq.1
  obtain ⟨a3, b3, g3, e3, p3, x3, q3, h3, c3⟩ := red_form (x := x + y) hq.1
  have hok : okF a3 b3 = true := by
    have := okF_quot (a := x + y) (b := q) (by omega) (by omega)
    unfold red at e3
    injection e3 with e4 e5
    rw [e4, e5] at this
    exact this
  rw [e1, e2, e3]
  simp only
  have hb : 1 ≤ b1 * b2 := by
    have := Int.mul_le_mul h1 h2 (by omega) (by omega)
    omega
  obtain ⟨N, hN⟩ : ∃ N, a1 * b2 + a2 * b1 = N := ⟨_, rfl⟩
  obtain ⟨D, hD⟩ : ∃ D, b1 * b2 = D := ⟨_, rfl⟩
  have hcross : N * b3 = a3 * D := by
    have k1 : N * q = (x + y) * D := by
      rw [← hN, ← hD]
      have m1 : a1 * b2 * q = x * (b1 * b2) := by rw [x1, q1]; grind
      have m2 : a2 * b1 * q = y * (b1 * b2) := by rw [x2, q2]; grind
      rw [Int.add_mul, Int.add_mul, m1, m2]
    rw [q3, x3] at k1
    have k2 : g3 * (N * b3) = g3 * (a3 * D) := by
      have : N * (g3 * b3) = g3 * a3 * D := k1
      grind
    exact Int.eq_of_mul_eq_mul_left (by omega) k2
  rw [hN, hD]
  rw [hD] at hb
  have hg := Int.gcd_pos_of_ne_zero_right N (show D ≠ 0 by omega)
  have hgz : (0 : Int) < (Int.gcd N D : Nat) := by omega
  have n1 := (Int.mul_ediv_cancel' (Int.gcd_dvd_left N D)).symm
  have n2 := (Int.mul_ediv_cancel' (Int.gcd_dvd_right N D)).symm
  have n3 := gcd_quot (a := N) (b := D) (by omega)
  have n4 := Int.ediv_pos_of_pos_of_dvd (show 0 < D by omega) (show (0 : Int) ≤ (Int.gcd N D : Nat) by omega) (Int.gcd_dvd_right ..)
  unfold pln
  generalize N / (Int.gcd N D : Nat) = n' at *
  generalize D / (Int.gcd N D : Nat) = d' at *
  generalize ((Int.gcd N D : Nat) : Int) = G at *
  have hc2 : n' * b3 = a3 * d' := by
    have : G * (n' * b3) = G * (a3 * d') := by
      rw [n1, n2] at hcross
      grind
    exact Int.eq_of_mul_eq_mul_left (by omega) this
  obtain ⟨r1, r2⟩ := frac_eq (by omega) h3 n3 c3 hc2
  rw [r1, r2, if_pos hok]

theorem red_zero {q : Int} (hq : 1 ≤ q) : red q 0 = (0, 1) := by
  unfold red
  rw [Int.zero_gcd, Int.zero_ediv, Int.natAbs_of_nonneg (by omega), Int.ediv_self (by omega)]
theorem red_self {q : Int} (hq : 1 ≤ q) : red q q = (1, 1) := by
  unfold red
  rw [Int.gcd_self, Int.natAbs_of_nonneg (by omega), Int.ediv_self (by omega)]

set_option maxRecDepth 100000 in
set_option maxHeartbeats 2000000 in
theorem addFractions_any (a b c d : Int) (w : World) (h1 : okF a b = true) (h2 : okF c d = true) :
    Calls Try.prog 20 #[.agg #[.int .i64 a, .int .i64 b], .agg #[.int .i64 c, .int .i64 d]] w fun e w' => e = .returned (pln (a * d + c * b) (b * d)) ∧ Below w.heap.size w w' := by
  obtain ⟨b1, a1, _⟩ := okF_iff.1 h1
  obtain ⟨d1, c1, _⟩ := okF_iff.1 h2
  have hV1 := implValid_any a b
  have hV2 := implValid_any c d
  rw [h1] at hV1
  rw [h2] at hV2
  have m1 := mul_bd (k := d) (p := a) (by omega) a1
  have m2 := mul_bd (k := b) (p := c) (by omega) c1
  have m3 := mul_bd (k := d) (p := b) (by omega) (by omega)
  rw [Int.mul_comm] at m1 m2 m3
  have m4 : 1 ≤ b * d := by have := Int.mul_le_mul b1.1 d1.1 (by omega) (by omega); omega
  obtain ⟨x, hx⟩ : ∃ x, a * d = x := ⟨_, rfl⟩
  obtain ⟨y, hy⟩ : ∃ y, c * b = y := ⟨_, rfl⟩
  obtain ⟨z, hz⟩ : ∃ z, b * d = z := ⟨_, rfl⟩
  rw [hx] at m1
  rw [hy] at m2
  rw [hz] at m3 m4
  have hP := plainOfG_any (x + y) z
  rw [hx, hy, hz]
  obtain ⟨r, s, k, hr⟩ := pln_form (x + y) z
  rw [hr] at hP ⊢
  clear h1 h2 hr
  go_enter Try.func20, Try.ntmps20
  have HA := hide (((Blk.new w 25 #[.int .i64 a, .int .i64 b]).alloc (.cells #[.int .i64 c, .int .i64 d] 25)).alloc (.cells #[.int .i64 0, .int .i64 0] 25))
  have HC := hide ((Blk.newAt (w := w.alloc (.cells #[.int .i64 a, .int .i64 b] 25)) (g := w.heap.size + 1) (t := 25) (cs := #[.int .i64 c, .int .i64 d]) (by simp)).alloc (.cells #[.int .i64 0, .int .i64 0] 25))
  have HR := hide (Blk.newAt (w := (w.alloc (.cells #[.int .i64 a, .int .i64 b] 25)).alloc (.cells #[.int .i64 c, .int .i64 d] 25)) (g := w.heap.size + 1 + 1) (t := 25) (cs := #[.int .i64 0, .int .i64 0]) (by simp))
  have B0 : Below w.heap.size w (((w.alloc (.cells #[.int .i64 a, .int .i64 b] 25)).alloc (.cells #[.int .i64 c, .int .i64 d] 25)).alloc (.cells #[.int .i64 0, .int .i64 0] 25)) := by go_grown
  go_wp2_with fail
  generalize ((w.alloc (.cells #[.int .i64 a, .int .i64 b] 25)).alloc (.cells #[.int .i64 c, .int .i64 d] 25)).alloc (.cells #[.int .i64 0, .int .i64 0] 25) = w0 at *
  refine (hV1 _).mono ?_
  rintro e w1 ⟨rfl, k1⟩
  have HA1 := hide (HA.out.bel k1)
  have HC1 := hide (HC.out.bel k1)
  have HR1 := hide (HR.out.bel k1)
  have B1 := bch B0 k1
  obtain ⟨u, _, _, _⟩ := HA1.out.after (Below.refl _ _) HA1.out.lt
  obtain ⟨v, _, _, _⟩ := HC1.out.after (Below.refl _ _) HC1.out.lt
  have u0 := u 0
  have u1 := u 1
  have v0 := v 0
  have v1 := v 1
  clear u v HA HC HR B0 k1 hV1
  go_wp2_with fail
  refine (hV2 _).mono ?_
  rintro e w2 ⟨rfl, k2⟩
  have HA2 := hide (HA1.out.bel k2)
  have HC2 := hide (HC1.out.bel k2)
  have HR2 := hide (HR1.out.bel k2)
  have B2 := bch B1 k2
  obtain ⟨u, _, _, _⟩ := HA2.out.after (Below.refl _ _) HA2.out.lt
  obtain ⟨v, _, _, _⟩ := HC2.out.after (Below.refl _ _) HC2.out.lt
  clear u0 u1 v0 v1
  have u0 := u 0
  have u1 := u 1
  have v0 := v 0
  have v1 := v 1
  clear u v HA1 HC1 HR1 B1 k2 hV2
  go_wp2_with fail
  refine (hP _ (by omega) (by omega)).mono ?_
  rintro e w3 ⟨rfl, k3⟩
  have HR3 := hide (HR2.out.bel k3)
  have B3 := bch B2 k3
  obtain ⟨t, t2, t3, _⟩ := HR3.out.after (Below.refl _ _) HR3.out.lt
  have t0 := t 0
  have t1 := t 1
  clear t u0 u1 v0 v1 HA2 HC2 HR2 B2 k3 hP
  go_wp2_with fail
  have z3 := HR3.out.set2 (x := .int .i64 r) (y := .int .i64 s)
  obtain ⟨z4, _, _, _⟩ := z3.after (Below.refl _ _) z3.lt
  exact bodyPost_ret (v := .tuple #[.agg #[.int .i64 r, .int .i64 s], .int .i64 k]) (by simp [results, Try.results20, go_sem, z4]) rfl ⟨rfl, (B3.setCell (by show w.heap.size ≤ w.heap.size + 1 + 1; omega) _).setCell (by show w.heap.size ≤ w.heap.size + 1 + 1; omega) _⟩

/-- The sum of two such fractions in the program. -/
theorem addRed_any (q x y : Int) (w : World) (hq : 1 ≤ q ∧ q ≤ 1000000000) (hx : 0 ≤ x) (hy : 0 ≤ y) (hxy : x + y ≤ q) :
    Calls Try.prog 20 #[.agg #[.int .i64 (red q x).1, .int .i64 (red q x).2], .agg #[.int .i64 (red q y).1, .int .i64 (red q y).2]] w fun e w' => e = .returned (.tuple #[.agg #[.int .i64 (red q (x + y)).1, .int .i64 (red q (x + y)).2], .int .i64 0]) ∧ Below w.heap.size w w' := by
  have h := addFractions_any (red q x).1 (red q x).2 (red q y).1 (red q y).2 w (okF_quot (by omega) hq) (okF_quot (by omega) hq)
  rw [pln_red hq hx hy hxy] at h
  exact h

/-- Where the sum of the first gaps lies. -/
theorem gaps_sum {p q : Int} {c : Nat} (hq : 0 < q) (hg : Int.gcd p q = 1) (hc0 : 0 < c) (hc : (c : Int) ≤ q) {i : Nat} (hi : i ≤ c) :
    0 ≤ ((gps p q c).take i).sum ∧ ((gps p q c).take i).sum ≤ q ∧ (i = c → ((gps p q c).take i).sum = q) := by
  have hl := ord_len (rst p q) c
  have h := gap_sum (rst p q) q (ord (rst p q) c) i (by omega) (by omega)
  rw [ord_zero hq hg hc0 hc, rst_zero, hl] at h
  unfold gps
  rw [h]
  by_cases hlt : i < c
  · rw [if_pos hlt]
    have := rst_bd p hq ((ord (rst p q) c).getD i 0)
    exact ⟨by omega, by omega, fun e => by omega⟩
  · rw [if_neg hlt]
    exact ⟨by omega, by omega, fun _ => by omega⟩
theorem sum_next (L : List Int) {i : Nat} (h : i < L.length) : (L.take (i + 1)).sum = (L.take i).sum + L.getD i 0 := by
  rw [List.take_succ_eq_append_getElem h, List.sum_append, List.getD_eq_getElem?_getD, List.getElem?_eq_getElem h]
  simp
theorem sum_map_cast (D : List Int) (f : Int → Nat) : (D.map fun x => (f x : Int)).sum = ((D.map f).sum : Nat) := by
  induction D with
  | nil => rfl
  | cons x D ih => simp [ih]
theorem puts_nodup (G : List Int) : (puts G).Nodup := (puts_asc_mem G).1.imp (fun h e => by omega)
theorem cnt_sum (G : List Int) : (cnt G).sum = (G.length : Int) := by
  unfold cnt
  rw [sum_map_cast, count_sum (puts G) (puts_nodup G) G (fun x hx => ((puts_asc_mem G).2.1 x).2 hx)]
/-- The sum of the first counts. -/
theorem cnt_bd (G : List Int) : ∀ x ∈ cnt G, 0 ≤ x ∧ x ≤ (G.length : Int) := by
  intro x hx
  obtain ⟨y, _, rfl⟩ := List.mem_map.1 hx
  have := List.count_le_length (a := y) (l := G)
  omega
theorem sum_take_bd {M : Int} (hM : 0 ≤ M) {L : List Int} (h : ∀ x ∈ L, 0 ≤ x ∧ x ≤ M) : ∀ i, i ≤ L.length → 0 ≤ (L.take i).sum ∧ (L.take i).sum ≤ (i : Int) * M
  | 0, _ => by simp
  | i + 1, hi => by
    obtain ⟨h1, h2⟩ := sum_take_bd hM h i (by omega)
    have h3 := h _ (getD_mem (L := L) (j := i) (by omega))
    rw [sum_next L (by omega)]
    have e : ((i + 1 : Nat) : Int) * M = (i : Int) * M + M := by rw [Int.natCast_succ, Int.add_mul, Int.one_mul]
    omega
/-- The lengths of gaps: at most three, and the third is the sum of the others. -/
theorem gap_lens {p q : Int} {c : Nat} (hq : 0 < q) (hg : Int.gcd p q = 1) (hc0 : 0 < c) (hc : (c : Int) ≤ q) :
    1 ≤ (puts (gps p q c)).length ∧ (puts (gps p q c)).length ≤ 3 ∧ ((puts (gps p q c)).length = 3 → (puts (gps p q c)).getD 0 0 + (puts (gps p q c)).getD 1 0 = (puts (gps p q c)).getD 2 0) := by
  obtain ⟨A, B, hA, hB, hm⟩ := three_gaps (p := p) hq hg hc0 hc
  obtain ⟨h1, h2, _⟩ := puts_asc_mem (gps p q c)
  have h3 := asc_three hA hB h1 (fun x hx => hm x ((h2 x).1 hx))
  refine ⟨?_, h3.1, h3.2⟩
  have hl := gps_len p q c
  have hx : (gps p q c).getD 0 0 ∈ puts (gps p q c) := (h2 _).2 (getD_mem (by omega))
  exact List.length_pos_of_mem hx

end Go.Proofs.Ytpagfikhcmeciaa
