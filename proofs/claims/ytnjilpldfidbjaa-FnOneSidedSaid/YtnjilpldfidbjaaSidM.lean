/- NearerSide: the program's and the reference's. NearerSide: the reference's. CompareFractions, the program's; what the law asks of the two sides. The draw of a fraction and a greatest denominator. The last of the best fractions on a side is the nearest one: plain facts. -/
import Derived.Test.YtnjilpldfidbjaaSidC
import Derived.Test.YtnjilpldfidbjaaDrwG
namespace Go.Proofs.Ytnjilpldfidbjaa
open Go.RowKit Go.Sort

theorem implCompare_any (x y : Int) (w : World) :
    Calls Try.prog 76 #[.int .i64 x, .int .i64 y] w fun e w' => e = .returned (.int .i64 (sg3 x y)) ∧ w = w' := by
  go_enter Try.func76, Try.ntmps76
  by_cases h : x < y
  · have e : sg3 x y = -1 := by unfold sg3; rw [if_pos h]
    go_wp2
    go_ret
    exact ⟨by first | rfl | (rw [e]; rfl), rfl⟩
  · by_cases h2 : y < x
    · have e : sg3 x y = 1 := by unfold sg3; rw [if_neg h, if_pos h2]
      go_wp2
      go_ret
      exact ⟨by first | rfl | (rw [e]; rfl), rfl⟩
    · have e : sg3 x y = 0 := by unfold sg3; rw [if_neg h, if_neg h2]
      go_wp2
      go_ret
      exact ⟨by first | rfl | (rw [e]; rfl), rfl⟩

/-- What the two have to do with the fraction, for numbers that are not too great. -/
theorem near_facts {p q m a b c d : Int} (h : Near p q m a b c d) (hp : -1000000 ≤ p ∧ p ≤ 1000000) (hq : 1 ≤ q ∧ q ≤ 1000000) (hm : 1 ≤ m ∧ m ≤ 10000) :
    ∃ A B u v, p * b - a * q = A ∧ c * q - p * d = B ∧ A * d = u ∧ B * b = v ∧ (1 ≤ b ∧ b ≤ 10000) ∧ (1 ≤ d ∧ d ≤ 10000) ∧ (-1000000000 ≤ a ∧ a ≤ 1000000000) ∧ (-1000000000 ≤ c ∧ c ≤ 1000000000) ∧ (0 ≤ A ∧ A ≤ 1000000) ∧ (0 ≤ B ∧ B ≤ 1000000) ∧ (0 ≤ u ∧ u ≤ 10000000000) ∧ (0 ≤ v ∧ v ≤ 10000000000) := by
  rcases h with ⟨h1, rfl, rfl, rfl, rfl⟩ | ⟨h1, hS, h3⟩
  · exact ⟨0, 0, 0, 0, by omega, by omega, by simp, by simp, by omega, by omega, by omega, by omega, by omega, by omega, by omega, by omega⟩
  · obtain ⟨b1, b2⟩ := hS.bd h1 (by omega)
    have l := hS.le
    have q1 := hS.b1; have q2 := hS.bm; have q3 := hS.d1; have q4 := hS.dm; have q5 := hS.lo; have q6 := hS.hi
    refine ⟨_, _, _, _, rfl, rfl, rfl, rfl, by omega, by omega, b1, b2, by omega, by omega, ⟨Int.mul_nonneg (by omega) (by omega), ?_⟩, ⟨Int.mul_nonneg (by omega) (by omega), ?_⟩⟩
    · have : (p * b - a * q) * d ≤ 1000000 * 10000 := Int.mul_le_mul (by omega) (by omega) (by omega) (by omega)
      omega
    · have : (c * q - p * d) * b ≤ 1000000 * 10000 := Int.mul_le_mul (by omega) (by omega) (by omega) (by omega)
      omega

set_option maxRecDepth 100000 in
set_option maxHeartbeats 1000000 in
theorem compareErrors_any (p q a b c d A B u v : Int) (w : World) (hp : -1000000 ≤ p ∧ p ≤ 1000000) (hq : 1 ≤ q ∧ q ≤ 1000000) (e1 : p * b - a * q = A) (e2 : c * q - p * d = B) (e3 : A * d = u) (e4 : B * b = v) (hb : 1 ≤ b ∧ b ≤ 10000) (hd : 1 ≤ d ∧ d ≤ 10000) (ha : -1000000000 ≤ a ∧ a ≤ 1000000000) (hc : -1000000000 ≤ c ∧ c ≤ 1000000000) (hA : 0 ≤ A ∧ A ≤ 1000000) (hB : 0 ≤ B ∧ B ≤ 1000000) (hu : 0 ≤ u ∧ u ≤ 10000000000) (hv : 0 ≤ v ∧ v ≤ 10000000000) :
    Calls Try.prog 41 #[.agg #[.int .i64 p, .int .i64 q], .agg #[.int .i64 a, .int .i64 b], .agg #[.int .i64 c, .int .i64 d]] w fun e w' => e = .returned (.int .i64 (sg3 u v)) ∧ Below w.heap.size w w' := by
  have mixed : Try.prog.follows .mixedOrders = true := by kernel_rfl
  have z1 : sz (p * b - a * q) = A := by rw [e1]; unfold sz; rw [if_neg (by omega)]
  have z2 : sz (p * d - c * q) = B := by
    have : p * d - c * q = -B := by omega
    rw [this]; unfold sz; split <;> omega
  have cE1 := fun w => errorOf_any p q a b w (by omega) (by omega) (by omega) (by omega)
  have cE2 := fun w => errorOf_any p q c d w (by omega) (by omega) (by omega) (by omega)
  rw [z1] at cE1
  rw [z2] at cE2
  have cE3 := fun w => implCompare_any u v w
  generalize sg3 u v = r at *
  clear z1 z2 e1 e2
  go_enter Try.func41, Try.ntmps41
  go_wp2_with fail
  have P0 := ((Blk.new w 25 #[.int .i64 p, .int .i64 q]).alloc (.cells #[.int .i64 a, .int .i64 b] 25)).alloc (.cells #[.int .i64 c, .int .i64 d] 25)
  have P1 := (Blk.newAt (w := w.alloc (.cells #[.int .i64 p, .int .i64 q] 25)) (g := w.heap.size + 1) (t := 25) (cs := #[.int .i64 a, .int .i64 b]) (by simp)).alloc (.cells #[.int .i64 c, .int .i64 d] 25)
  have P2 := Blk.newAt (w := (w.alloc (.cells #[.int .i64 p, .int .i64 q] 25)).alloc (.cells #[.int .i64 a, .int .i64 b] 25)) (g := w.heap.size + 1 + 1) (t := 25) (cs := #[.int .i64 c, .int .i64 d]) (by simp)
  have B0 : Below w.heap.size w (((w.alloc (.cells #[.int .i64 p, .int .i64 q] 25)).alloc (.cells #[.int .i64 a, .int .i64 b] 25)).alloc (.cells #[.int .i64 c, .int .i64 d] 25)) := by go_grown
  generalize (((w.alloc (.cells #[.int .i64 p, .int .i64 q] 25)).alloc (.cells #[.int .i64 a, .int .i64 b] 25)).alloc (.cells #[.int .i64 c, .int .i64 d] 25)) = wr at *
  obtain ⟨x0, -, -, -⟩ := P0.after (Below.refl _ _) P0.lt
  obtain ⟨x1, -, -, -⟩ := P1.after (Below.refl _ _) P1.lt
  obtain ⟨x2, -, -, -⟩ := P2.after (Below.refl _ _) P2.lt
  have y1 : ∀ d os, (grow (redrawn wr d) os).cell? ⟨w.heap.size, 0, none⟩ = some (.int .i64 p) := fun d os => cell_regrown (x0 0) d os
  have y2 : ∀ d os, (grow (redrawn wr d) os).cell? ⟨w.heap.size, 1, none⟩ = some (.int .i64 q) := fun d os => cell_regrown (x0 1) d os
  have y3 : ∀ d os, (grow (redrawn wr d) os).cell? ⟨w.heap.size + 1, 0, none⟩ = some (.int .i64 a) := fun d os => cell_regrown (x1 0) d os
  have y4 : ∀ d os, (grow (redrawn wr d) os).cell? ⟨w.heap.size + 1, 1, none⟩ = some (.int .i64 b) := fun d os => cell_regrown (x1 1) d os
  have y5 : ∀ d os, (grow (redrawn wr d) os).cell? ⟨w.heap.size + 1 + 1, 0, none⟩ = some (.int .i64 c) := fun d os => cell_regrown (x2 0) d os
  have y6 : ∀ e os, (grow (redrawn wr e) os).cell? ⟨w.heap.size + 1 + 1, 1, none⟩ = some (.int .i64 d) := fun d os => cell_regrown (x2 1) d os
  have cN1 : ∀ d os, Calls Try.prog 67 #[.agg #[.int .i64 p, .int .i64 q], .agg #[.int .i64 a, .int .i64 b]] (grow (redrawn wr d) os) fun e w'' => e = .returned (.int .i64 A) ∧ ∃ p : Regrown, w'' = grow (redrawn wr p.d) p.os := fun d os => Calls.regrown_of (cE1 _)
  have cN2 : ∀ e os, Calls Try.prog 67 #[.agg #[.int .i64 p, .int .i64 q], .agg #[.int .i64 c, .int .i64 d]] (grow (redrawn wr e) os) fun e w'' => e = .returned (.int .i64 B) ∧ ∃ p : Regrown, w'' = grow (redrawn wr p.d) p.os := fun d os => Calls.regrown_of (cE2 _)
  have cN3 : ∀ e os, Calls Try.prog 76 #[.int .i64 u, .int .i64 v] (grow (redrawn wr e) os) fun e w'' => e = .returned (.int .i64 r) ∧ ∃ p : Regrown, w'' = grow (redrawn wr p.d) p.os := fun d os => Calls.regrown_of ((cE3 _).mono fun e w' ⟨h1, h2⟩ => ⟨h1, by rw [← h2]; exact Below.refl _ _⟩)
  clear x0 x1 x2 P0 P1 P2 cE1 cE2 cE3
  refine wp_region_quiet_below (by assumption) (by kernel_rfl) ?_
  repeat (first | go_big_quiet_step (first | with_reducible exact cN1 _ _ | with_reducible exact cN2 _ _ | with_reducible exact cN3 _ _) | quiet_step (first | with_reducible exact cN1 _ _ | with_reducible exact cN2 _ _ | with_reducible exact cN3 _ _))
  refine wpQuiet_nil ?_
  intro _ hw'
  obtain ⟨⟨dq, osq⟩, hw''⟩ := hw'
  subst hw''
  have hb3 := below_regrown wr dq osq
  generalize grow (redrawn wr dq) osq = wn at *
  clear y1 y2 y3 y4 y5 y6 cN1 cN2 cN3
  go_wp2_with fail
  go_ret
  exact ⟨rfl, bch B0 hb3⟩

/-- The code of NearerSide. -/
def nsdc (p q k : Int) : Int := if bbc p q k = 0 then (if (-1000000 ≤ p ∧ p ≤ 1000000) ∧ q ≤ 1000000 then 0 else 2) else bbc p q k
theorem nsdc_ok {p q k : Int} (h : nsdc p q k = 0) : okF p q = true ∧ (1 ≤ k ∧ k ≤ 10000) ∧ (-1000000 ≤ p ∧ p ≤ 1000000) ∧ q ≤ 1000000 := by
  unfold nsdc at h
  split at h
  · rename_i h1
    split at h
    · rename_i h2
      unfold bbc at h1
      split at h1
      · split at h1
        · exact ⟨by assumption, by assumption, h2⟩
        · cases h1
      · cases h1
    · cases h
  · exact absurd h (by assumption)

set_option maxRecDepth 100000 in
set_option maxHeartbeats 1000000 in
theorem implNearerSide_any (p q k : Int) (w : World) :
    Calls Try.prog 15 #[.agg #[.int .i64 p, .int .i64 q], .int .i64 k] w fun e w' => ∃ r, e = .returned (.tuple #[.int .i64 r, .int .i64 (nsdc p q k)]) ∧ ((nsdc p q k = 0 ∧ ∃ a b c d, Near p q k a b c d ∧ r = sg3 ((p * b - a * q) * d) ((c * q - p * d) * b)) ∨ (¬ nsdc p q k = 0 ∧ r = 0)) ∧ Below w.heap.size w w' := by
  have hC := checkBetween_any p q k 10000
  have hs : (if okF p q = true then (if 1 ≤ k ∧ k ≤ 10000 then 0 else 2) else 1) = bbc p q k := rfl
  rw [hs] at hC
  have B0 : Below w.heap.size w (w.alloc (.cells #[.int .i64 p, .int .i64 q] 25)) := by go_grown
  have hP0 := Blk.new w 25 #[.int .i64 p, .int .i64 q]
  have hW := fun w => within_any p (-1000000) 1000000 w
  by_cases h1 : bbc p q k = 0
  · by_cases h2 : -1000000 ≤ p ∧ p ≤ 1000000
    · by_cases h3 : q ≤ 1000000
      · have h0 : nsdc p q k = 0 := by unfold nsdc; rw [if_pos h1, if_pos ⟨h2, h3⟩]
        obtain ⟨ho, hk, -, -⟩ := nsdc_ok h0
        obtain ⟨o1, o2, o3⟩ := okF_iff.1 ho
        have hA := fun w => around_any p q k w o2 o1 (by exact_mod_cast o3) (by omega)
        have hd : decide (1000000 < q) = false := decide_eq_false (by omega)
        rw [inB_of h2] at hW
        rw [h1] at hC
        go_enter Try.func15, Try.ntmps15
        go_wp2_with fail
        refine (hC _).mono ?_
        rintro e w1 ⟨rfl, b1⟩
        have B1 := bstep B0 b1 (by simp)
        obtain ⟨c1, -, -, HP1⟩ := (hP0.bel b1).after (Below.refl _ _) (hP0.bel b1).lt
        have x0 := c1 0
        have x1 := c1 1
        clear c1 hP0 b1 B0
        go_wp2_with fail
        refine (hW _).mono ?_
        rintro e w2 ⟨rfl, rfl⟩
        go_wp2_with fail
        refine (hA _).mono ?_
        rintro e w2 ⟨a, b, c, d, rfl, hN, b2⟩
        have B2 := bch B1 b2
        have R2 := HP1.out.bel b2
        obtain ⟨A, B, u, v, e1, e2, e3, e4, n1, n2, n3, n4, n5, n6, n7, n8⟩ := near_facts hN h2 ⟨o1.1, h3⟩ hk
        have hE := fun w => compareErrors_any p q a b c d A B u v w h2 ⟨o1.1, h3⟩ e1 e2 e3 e4 n1 n2 n3 n4 n5 n6 n7 n8
        have K := (R2.alloc (.cells #[.int .i64 a, .int .i64 b] 25)).alloc (.cells #[.int .i64 c, .int .i64 d] 25)
        have KB : Below w.heap.size w ((w2.alloc (.cells #[.int .i64 a, .int .i64 b] 25)).alloc (.cells #[.int .i64 c, .int .i64 d] 25)) := ((B2.alloc B2.size (.cells #[.int .i64 a, .int .i64 b] 25)).alloc (by have := B2.size; simp; omega) (.cells #[.int .i64 c, .int .i64 d] 25))
        obtain ⟨c3, -, -, -⟩ := K.after (Below.refl _ _) K.lt
        have y0 := c3 0
        have y1 := c3 1
        clear c3 K R2 x0 x1 b2
        go_wp2_with fail
        refine (hE _).mono ?_
        rintro e w3 ⟨rfl, b3⟩
        go_wp2_with fail
        go_returns
        exact ⟨sg3 u v, by rw [h0]; rfl, .inl ⟨h0, a, b, c, d, hN, by rw [e1, e2, e3, e4]⟩, bch KB b3⟩
      · have h0 : nsdc p q k = 2 := by unfold nsdc; rw [if_pos h1, if_neg (fun h => h3 h.2)]
        have hd : decide (1000000 < q) = true := decide_eq_true (by omega)
        rw [inB_of h2] at hW
        rw [h1] at hC
        go_enter Try.func15, Try.ntmps15
        go_wp2_with fail
        refine (hC _).mono ?_
        rintro e w1 ⟨rfl, b1⟩
        have B1 := bstep B0 b1 (by simp)
        obtain ⟨c1, -, -, HP1⟩ := (hP0.bel b1).after (Below.refl _ _) (hP0.bel b1).lt
        have x0 := c1 0
        have x1 := c1 1
        clear c1 hP0 b1 B0
        go_wp2_with fail
        refine (hW _).mono ?_
        rintro e w2 ⟨rfl, rfl⟩
        go_wp2_with fail
        go_returns
        exact ⟨0, by rw [h0]; rfl, .inr ⟨by omega, rfl⟩, B1⟩
    · have h0 : nsdc p q k = 2 := by unfold nsdc; rw [if_pos h1, if_neg (fun h => h2 h.1)]
      rw [inB_no h2] at hW
      rw [h1] at hC
      go_enter Try.func15, Try.ntmps15
      go_wp2_with fail
      refine (hC _).mono ?_
      rintro e w1 ⟨rfl, b1⟩
      have B1 := bstep B0 b1 (by simp)
      obtain ⟨c1, -, -, HP1⟩ := (hP0.bel b1).after (Below.refl _ _) (hP0.bel b1).lt
      have x0 := c1 0
      have x1 := c1 1
      clear c1 hP0 b1 B0
      go_wp2_with fail
      refine (hW _).mono ?_
      rintro e w2 ⟨rfl, rfl⟩
      go_wp2_with fail
      go_returns
      exact ⟨0, by rw [h0]; rfl, .inr ⟨by omega, rfl⟩, B1⟩
  · have h0 : nsdc p q k = bbc p q k := by unfold nsdc; rw [if_neg h1]
    have hb : (bbc p q k != 0) = true := by simpa using h1
    have hb2 : (bbc p q k == 0) = false := by simpa using h1
    rw [h0]
    clear h0 hs
    generalize bbc p q k = s at *
    go_enter Try.func15, Try.ntmps15
    go_wp2_with fail
    refine (hC _).mono ?_
    rintro e w1 ⟨rfl, b1⟩
    have B1 := bstep B0 b1 (by simp)
    go_wp2_with fail
    go_returns
    exact ⟨_, rfl, .inr ⟨h1, rfl⟩, B1⟩

end Go.Proofs.Ytnjilpldfidbjaa

namespace Go.Proofs.Ytnjilpldfidbjaa
open Go.RowKit Go.Sort

theorem nsdc_not {p q k : Int} (h : ¬ sdc p q k = 0) : nsdc p q k = sdc p q k := by
  have hb : bbc p q k = sdc p q k := by
    unfold bbc sdc at *
    split
    · rename_i h1
      rw [if_pos h1] at h
      split at h
      · exact absurd rfl h
      · rename_i h2
        rw [if_neg (fun h3 => h2 (by omega)), if_neg h2]
    · rfl
  unfold nsdc
  rw [hb, if_neg h]
theorem sdc_ok {p q k : Int} (h : sdc p q k = 0) : okF p q = true ∧ 1 ≤ k ∧ k ≤ 1000000000 := by
  unfold sdc at h
  split at h
  · split at h
    · exact ⟨by assumption, by assumption⟩
    · cases h
  · cases h
theorem nsdc_two {p q k : Int} (h : sdc p q k = 0) (hn : ¬ (k ≤ 10000 ∧ (-1000000 ≤ p ∧ p ≤ 1000000) ∧ q ≤ 1000000)) : nsdc p q k = 2 := by
  obtain ⟨ho, hk⟩ := sdc_ok h
  by_cases h1 : k ≤ 10000
  · have hb : bbc p q k = 0 := by unfold bbc; rw [if_pos ho, if_pos ⟨hk.1, h1⟩]
    unfold nsdc
    rw [if_pos hb, if_neg (fun h => hn ⟨h1, h⟩)]
  · have hb : bbc p q k = 2 := by unfold bbc; rw [if_pos ho, if_neg (fun h => h1 h.2)]
    unfold nsdc
    rw [hb]
    rfl
theorem nsdc_zero {p q k : Int} (h : sdc p q k = 0) (h1 : k ≤ 10000) (h2 : -1000000 ≤ p ∧ p ≤ 1000000) (h3 : q ≤ 1000000) : nsdc p q k = 0 := by
  obtain ⟨ho, hk⟩ := sdc_ok h
  have hb : bbc p q k = 0 := by unfold bbc; rw [if_pos ho, if_pos ⟨hk.1, h1⟩]
  unfold nsdc
  rw [if_pos hb, if_pos ⟨h2, h3⟩]

/-- What NearerSide answers. -/
def NsR (p q k r : Int) : Prop := (nsdc p q k = 0 ∧ ∃ a b c d, Near p q k a b c d ∧ r = sg3 ((p * b - a * q) * d) ((c * q - p * d) * b)) ∨ (¬ nsdc p q k = 0 ∧ r = 0)

set_option maxRecDepth 100000 in
set_option maxHeartbeats 2000000 in
theorem specNearerSide_any (p q k : Int) (w : World) :
    Calls Try.prog 16 #[.agg #[.int .i64 p, .int .i64 q], .int .i64 k] w fun e w' => ∃ r, e = .returned (.tuple #[.int .i64 r, .int .i64 (nsdc p q k)]) ∧ NsR p q k r ∧ Below w.heap.size w w' := by
  have hC := l19Asked_any p q k
  have hs : (if okF p q = true then (if 1 ≤ k ∧ k ≤ 1000000000 then 0 else 2) else 1) = sdc p q k := rfl
  rw [hs] at hC
  have B0 : Below w.heap.size w (w.alloc (.cells #[.int .i64 p, .int .i64 q] 25)) := by go_grown
  have hP0 := Blk.new w 25 #[.int .i64 p, .int .i64 q]
  clear hs
  by_cases h1 : sdc p q k = 0
  · obtain ⟨ho, hk⟩ := sdc_ok h1
    obtain ⟨o1, o2, o3⟩ := okF_iff.1 ho
    have hSz := fun w => specSize_any p w (by omega) (by omega)
    have hszn := sz_nat p
    rw [h1] at hC
    by_cases h2 : k ≤ 10000
    · have d2 : decide (10000 < k) = false := decide_eq_false (by omega)
      by_cases h3 : -1000000 ≤ p ∧ p ≤ 1000000
      · have d3 : decide (1000000 < sz p) = false := decide_eq_false (by omega)
        by_cases h4 : q ≤ 1000000
        · have d4 : decide (1000000 < q) = false := decide_eq_false (by omega)
          have h0 := nsdc_zero h1 h2 h3 h4
          have H0 := hide h0
          clear h0
          have hA := fun w => l19Side_any p q k 1 w o2 o1 (by exact_mod_cast o3) (by omega)
          have hA2 := fun w => l19Side_any p q k (-1) w o2 o1 (by exact_mod_cast o3) (by omega)
          generalize sz p = z at *
          go_enter Try.func16, Try.ntmps16
          go_wp2_with fail
          refine (hC _).mono ?_
          rintro e w1 ⟨rfl, b1⟩
          have B1 := bstep B0 b1 (by simp)
          obtain ⟨c1, -, -, HP1⟩ := (hP0.bel b1).after (Below.refl _ _) (hP0.bel b1).lt
          have x0 := c1 0
          have x1 := c1 1
          clear c1 hP0 b1 B0
          go_wp2_with fail
          refine (hSz _).mono ?_
          rintro e w2 ⟨rfl, rfl⟩
          go_wp2_with fail
          refine (hA _).mono ?_
          rintro e w2 ⟨a, b, c, d, rfl, hN, b2⟩
          have e0 : sel 1 a b c d = .agg #[.int .i64 a, .int .i64 b] := rfl
          rw [e0]
          have B2 := bch B1 b2
          have R2 := (HP1.out.bel b2).alloc (.cells #[.int .i64 a, .int .i64 b] 25)
          have Q2 := Blk.new w2 25 #[.int .i64 a, .int .i64 b]
          have KB := B2.alloc B2.size (.cells #[.int .i64 a, .int .i64 b] 25)
          obtain ⟨c2, -, -, HR2⟩ := R2.after (Below.refl _ _) R2.lt
          have y0 := c2 0
          have y1 := c2 1
          have HQ2 := hide Q2
          clear x0 x1 c2 R2 Q2 b2 B2
          go_wp2_with fail
          refine (hA2 _).mono ?_
          rintro e w3 ⟨a', b', c', d', rfl, hN', b3⟩
          obtain ⟨rfl, rfl, rfl, rfl⟩ := hN.uniq hN'
          have e0 : sel (-1) a b c d = .agg #[.int .i64 c, .int .i64 d] := rfl
          rw [e0]
          have B3 := bch KB b3
          have R3 := (HR2.out.bel b3).alloc (.cells #[.int .i64 c, .int .i64 d] 25)
          have Q3 := (HQ2.out.bel b3).alloc (.cells #[.int .i64 c, .int .i64 d] 25)
          have S3 := Blk.new w3 25 #[.int .i64 c, .int .i64 d]
          have KB3 := B3.alloc B3.size (.cells #[.int .i64 c, .int .i64 d] 25)
          obtain ⟨A, B, u, v, e1, e2, e3, e4, n1, n2, n3, n4, n5, n6, n7, n8⟩ := near_facts hN h3 ⟨o1.1, h4⟩ ⟨hk.1, h2⟩
          have m1 := mulp_bd (p := p) (d := b.toNat) o2 (by omega)
          have m2 := mulp_bd (p := p) (d := d.toNat) o2 (by omega)
          rw [Int.toNat_of_nonneg (by omega)] at m1 m2
          obtain ⟨pb, hpb⟩ : ∃ t, p * b = t := ⟨_, rfl⟩
          obtain ⟨pd, hpd⟩ : ∃ t, p * d = t := ⟨_, rfl⟩
          obtain ⟨aq, haq⟩ : ∃ t, a * q = t := ⟨_, rfl⟩
          obtain ⟨cq, hcq⟩ : ∃ t, c * q = t := ⟨_, rfl⟩
          have hsg : sg3 ((p * b - a * q) * d) ((c * q - p * d) * b) = sg3 u v := by rw [e1, e2, e3, e4]
          rw [hpb, haq] at e1
          rw [hcq, hpd] at e2
          rw [hpb] at m1
          rw [hpd] at m2
          have HR3 := hide R3
          have HQ3 := hide Q3
          have HS3 := hide S3
          obtain ⟨c3, -, -, -⟩ := R3.after (Below.refl _ _) R3.lt
          obtain ⟨c4, -, -, -⟩ := Q3.after (Below.refl _ _) Q3.lt
          obtain ⟨c5, -, -, -⟩ := S3.after (Below.refl _ _) S3.lt
          have z0 := c3 0
          have z1 := c3 1
          have z2 := c4 0
          have z3 := c4 1
          have z4 := c5 0
          have z5 := c5 1
          clear c3 c4 c5 R3 Q3 S3 y0 y1 b3 B3 hN' hC hA hA2 hSz
          rcases Int.lt_trichotomy u v with hlt | heq | hgt
          · have hr : sg3 u v = -1 := by unfold sg3; rw [if_pos hlt]
            go_wp2_with fail
            go_returns
            exact ⟨-1, by rw [H0.out]; rfl, .inl ⟨H0.out, a, b, c, d, hN, by rw [hsg, hr]⟩, KB3⟩
          · have hr : sg3 u v = 0 := by unfold sg3; rw [if_neg (by omega), if_neg (by omega)]
            have k1 : decide (u < v) = false := decide_eq_false (by omega)
            have k2 : decide (v < u) = false := decide_eq_false (by omega)
            go_wp2_with fail
            go_returns
            exact ⟨0, by rw [H0.out]; rfl, .inl ⟨H0.out, a, b, c, d, hN, by rw [hsg, hr]⟩, KB3⟩
          · have hr : sg3 u v = 1 := by unfold sg3; rw [if_neg (by omega), if_pos hgt]
            have k1 : decide (u < v) = false := decide_eq_false (by omega)
            go_wp2_with fail
            go_returns
            exact ⟨1, by rw [H0.out]; rfl, .inl ⟨H0.out, a, b, c, d, hN, by rw [hsg, hr]⟩, KB3⟩
        · have d4 : decide (1000000 < q) = true := decide_eq_true (by omega)
          have h0 := nsdc_two h1 (fun h => h4 h.2.2)
          have H0 := hide h0
          clear h0
          generalize sz p = z at *
          go_enter Try.func16, Try.ntmps16
          go_wp2_with fail
          refine (hC _).mono ?_
          rintro e w1 ⟨rfl, b1⟩
          have B1 := bstep B0 b1 (by simp)
          obtain ⟨c1, -, -, HP1⟩ := (hP0.bel b1).after (Below.refl _ _) (hP0.bel b1).lt
          have x0 := c1 0
          have x1 := c1 1
          clear c1 hP0 b1 B0
          go_wp2_with fail
          refine (hSz _).mono ?_
          rintro e w2 ⟨rfl, rfl⟩
          go_wp2_with fail
          go_returns
          exact ⟨0, by rw [H0.out]; rfl, .inr ⟨by rw [H0.out]; decide, rfl⟩, B1⟩
      · have d3 : decide (1000000 < sz p) = true := decide_eq_true (by omega)
        have h0 := nsdc_two h1 (fun h => h3 h.2.1)
        have H0 := hide h0
        clear h0
        generalize sz p = z at *
        go_enter Try.func16, Try.ntmps16
        go_wp2_with fail
        refine (hC _).mono ?_
        rintro e w1 ⟨rfl, b1⟩
        have B1 := bstep B0 b1 (by simp)
        obtain ⟨c1, -, -, HP1⟩ := (hP0.bel b1).after (Below.refl _ _) (hP0.bel b1).lt
        have x0 := c1 0
        have x1 := c1 1
        clear c1 hP0 b1 B0
        go_wp2_with fail
        refine (hSz _).mono ?_
        rintro e w2 ⟨rfl, rfl⟩
        go_wp2_with fail
        go_returns
        exact ⟨0, by rw [H0.out]; rfl, .inr ⟨by rw [H0.out]; decide, rfl⟩, B1⟩
    · have d2 : decide (10000 < k) = true := decide_eq_true (by omega)
      have h0 := nsdc_two h1 (fun h => h2 h.1)
      have H0 := hide h0
      clear h0
      go_enter Try.func16, Try.ntmps16
      go_wp2_with fail
      refine (hC _).mono ?_
      rintro e w1 ⟨rfl, b1⟩
      have B1 := bstep B0 b1 (by simp)
      obtain ⟨c1, -, -, HP1⟩ := (hP0.bel b1).after (Below.refl _ _) (hP0.bel b1).lt
      have x0 := c1 0
      have x1 := c1 1
      clear c1 hP0 b1 B0
      go_wp2_with fail
      go_returns
      exact ⟨0, by rw [H0.out]; rfl, .inr ⟨by rw [H0.out]; decide, rfl⟩, B1⟩
  · have h0 := nsdc_not h1
    have hb : (sdc p q k != 0) = true := by simpa using h1
    have hb2 : (sdc p q k == 0) = false := by simpa using h1
    have H0 := hide h0
    rw [h0]
    clear h0
    generalize sdc p q k = s at *
    go_enter Try.func16, Try.ntmps16
    go_wp2_with fail
    refine (hC _).mono ?_
    rintro e w1 ⟨rfl, b1⟩
    have B1 := bstep B0 b1 (by simp)
    go_wp2_with fail
    go_returns
    exact ⟨0, rfl, .inr ⟨by rw [H0.out]; exact h1, rfl⟩, B1⟩

end Go.Proofs.Ytnjilpldfidbjaa

namespace Go.Proofs.Ytnjilpldfidbjaa
open Go.RowKit Go.Sort

theorem compareFractions_any (p q r s u v : Int) (w : World) (hu : p * s = u) (hv : r * q = v) (bu : -1000000000000000000 ≤ u ∧ u ≤ 1000000000000000000) (bv : -1000000000000000000 ≤ v ∧ v ≤ 1000000000000000000) :
    Calls Try.prog 44 #[.agg #[.int .i64 p, .int .i64 q], .agg #[.int .i64 r, .int .i64 s]] w fun e w' => e = .returned (.int .i64 (sg3 u v)) ∧ Below w.heap.size w w' := by
  have hC := fun w => implCompare_any u v w
  generalize sg3 u v = t at *
  go_enter Try.func44, Try.ntmps44
  go_wp2_with fail
  refine (hC _).mono ?_
  rintro e w1 ⟨rfl, rfl⟩
  go_wp2_with fail
  go_ret
  exact ⟨rfl, by go_grown⟩

theorem implCompareFractions_any (p q r s u v : Int) (w : World) (h1 : okF p q = true) (h2 : okF r s = true) (hu : p * s = u) (hv : r * q = v) :
    Calls Try.prog 18 #[.agg #[.int .i64 p, .int .i64 q], .agg #[.int .i64 r, .int .i64 s]] w fun e w' => e = .returned (.tuple #[.int .i64 (sg3 u v), .int .i64 0]) ∧ Below w.heap.size w w' := by
  obtain ⟨o1, o2, _⟩ := okF_iff.1 h1
  obtain ⟨o3, o4, _⟩ := okF_iff.1 h2
  have m1 := prod18 o2 o3
  have m2 := prod18 o4 o1
  rw [hu] at m1
  rw [hv] at m2
  have hV1 := implValid_any p q
  have hV2 := implValid_any r s
  rw [h1] at hV1
  rw [h2] at hV2
  have hC := fun w => compareFractions_any p q r s u v w hu hv m1 m2
  generalize sg3 u v = t at *
  have B0 : Below w.heap.size w ((w.alloc (.cells #[.int .i64 p, .int .i64 q] 25)).alloc (.cells #[.int .i64 r, .int .i64 s] 25)) := by go_grown
  have hP0 := (Blk.new w 25 #[.int .i64 p, .int .i64 q]).alloc (.cells #[.int .i64 r, .int .i64 s] 25)
  have hQ0 := Blk.newAt (w := w.alloc (.cells #[.int .i64 p, .int .i64 q] 25)) (g := w.heap.size + 1) (t := 25) (cs := #[.int .i64 r, .int .i64 s]) (by simp)
  go_enter Try.func18, Try.ntmps18
  go_wp2_with fail
  refine (hV1 _).mono ?_
  rintro e w1 ⟨rfl, b1⟩
  have B1 := bstep B0 b1 (by simp; omega)
  obtain ⟨c1, -, -, HP1⟩ := (hP0.bel b1).after (Below.refl _ _) (hP0.bel b1).lt
  obtain ⟨d1, -, -, HQ1⟩ := (hQ0.bel b1).after (Below.refl _ _) (hQ0.bel b1).lt
  have x0 := c1 0
  have x1 := c1 1
  have x2 := d1 0
  have x3 := d1 1
  clear c1 d1 hP0 hQ0 b1 B0
  go_wp2_with fail
  refine (hV2 _).mono ?_
  rintro e w2 ⟨rfl, b2⟩
  have B2 := bch B1 b2
  obtain ⟨c1, -, -, HP2⟩ := (HP1.out.bel b2).after (Below.refl _ _) (HP1.out.bel b2).lt
  obtain ⟨d1, -, -, HQ2⟩ := (HQ1.out.bel b2).after (Below.refl _ _) (HQ1.out.bel b2).lt
  have y0 := c1 0
  have y1 := c1 1
  have y2 := d1 0
  have y3 := d1 1
  clear c1 d1 b2 x0 x1 x2 x3
  go_wp2_with fail
  refine (hC _).mono ?_
  rintro e w3 ⟨rfl, b3⟩
  go_wp2_with fail
  go_returns
  exact ⟨rfl, bch B2 b3⟩

/-- Both sides are fractions in lowest terms, whose denominators are small enough; below and above. -/
theorem near_law {p q m a b c d : Int} (h : Near p q m a b c d) (ho : okF p q = true) (_ : 1 ≤ m ∧ m ≤ 1000000000) :
    okF a b = true ∧ okF c d = true ∧ b ≤ m ∧ d ≤ m ∧ a * q ≤ p * b ∧ p * d ≤ c * q ∧ ((a = p ∧ b = q ∧ c = p ∧ d = q) ∨ (¬ (a = p ∧ b = q) ∧ ¬ (a = c ∧ b = d) ∧ c * b - a * d = 1)) := by
  obtain ⟨o1, o2, o3⟩ := okF_iff.1 ho
  rcases h with ⟨h1, rfl, rfl, rfl, rfl⟩ | ⟨h1, hS, h3⟩
  · exact ⟨ho, ho, h1, h1, Int.le_refl _, Int.le_refl _, .inl ⟨rfl, rfl, rfl, rfl⟩⟩
  · obtain ⟨b1, b2⟩ := hS.bd h1 o2
    obtain ⟨g1, g2⟩ := coprime_of_det hS.det
    have q1 := hS.b1; have q2 := hS.bm; have q3 := hS.d1; have q4 := hS.dm; have q5 := hS.lo; have q6 := hS.hi
    have hdet := hS.det
    refine ⟨okF_iff.2 ⟨by omega, b1, g1⟩, okF_iff.2 ⟨by omega, b2, g2⟩, q2, q4, by omega, by omega, .inr ⟨fun h => by omega, fun h => ?_, hdet⟩⟩
    obtain ⟨rfl, rfl⟩ := h
    omega

end Go.Proofs.Ytnjilpldfidbjaa

namespace Go.Proofs.Ytnjilpldfidbjaa
open Go.RowKit

set_option maxRecDepth 100000 in
set_option maxHeartbeats 4000000 in
theorem l19Ask_any (A : Option Addr) (n c : Nat) (xs : List Int) (w : World) (h : Rd w w.heap.size 1 A n (u8l xs)) (hn : n ≤ 9223372036854775807) (hx : ∀ x ∈ xs, 0 ≤ x ∧ x ≤ 255) :
    Calls Try.prog 32 #[.slice A n c] w fun e w' => ∃ p q k : Int, e = .returned (.tuple #[.agg #[.int .i64 p, .int .i64 q], .int .i64 k]) ∧ Below w.heap.size w w' := by
  go_enter Try.func32, Try.ntmps32
  have b0 : Below w.heap.size w (w.alloc (.cells #[.int .i64 0, .int .i64 0] 25)) := by go_grown
  have hR0 := Blk.new w 25 #[.int .i64 0, .int .i64 0]
  have h1 := (h.below b0).more b0.size
  go_wp2_with fail
  refine (l00From_any A n c xs _ h1 hn hx).mono ?_
  rintro e w1 ⟨g, rfl, hs1, hb1⟩
  have hR1 : Blk w1 w.heap.size 25 #[.int .i64 0, .int .i64 0] := (hb1.block w.heap.size (by simp)).trans hR0
  have hgg := hs1.base_
  simp at hgg
  have B1 := bstep b0 hb1 b0.size
  clear h1 hR0
  go_wp2_with fail
  refine (l02Bent_any g _ 200 _ (hs1.less (by omega))).mono ?_
  rintro e w2 ⟨p, q, rfl, hs2, hg2⟩
  have hR2 := (hR1.grown hg2 (fun e => by injection e; omega)).alloc (.cells #[.int .i64 p, .int .i64 q] 25)
  have hT2 := Blk.new w2 25 #[.int .i64 p, .int .i64 q]
  have B2 : Below w.heap.size w w2 := belSrc B1 hs1 (by simp) hg2
  have B2' : Below w.heap.size w (w2.alloc (.cells #[.int .i64 p, .int .i64 q] 25)) := B2.alloc B2.size _
  have hs2' : Src (w2.alloc (.cells #[.int .i64 p, .int .i64 q] 25)) g (w.alloc (.cells #[.int .i64 0, .int .i64 0] 25)).heap.size 200 := hs2.alloc _
  have hne : w2.heap.size ≠ g := by have := hs2.lt; omega
  have hne2 : w.heap.size < w2.heap.size := by have := hs2.lt; omega
  clear hR1 hs1 hg2 hs2 B2 B1 b0 hb1
  go_wp2_with fail
  generalize w2.heap.size = bt at *
  generalize w2.alloc (.cells #[.int .i64 p, .int .i64 q] 25) = w3 at *
  refine (one_any g _ 190 _ _ (hs2'.less (by omega))).mono ?_
  rintro e w4 ⟨b, rfl, hs4, hg4⟩
  have hR4 := hR2.grown hg4 (fun e => by injection e; omega)
  have hT4 := hT2.grown hg4 (fun e => by injection e; omega)
  have B4 := B2'.grown hg4 B2'.size (fun k hk => by injection hk; omega)
  clear hR2 hT2 B2' hs2' hg4
  obtain ⟨a1, a2, a3, HT⟩ := hT4.after (Below.refl _ _) hT4.lt
  obtain ⟨c1, c2, c3, HR⟩ := hR4.after (Below.refl _ _) hR4.lt
  have x0 := a1 0
  have x1 := a1 1
  clear a1 hR4 hT4
  cases b
  · have hsd : Src w4.drew g (w.alloc (.cells #[.int .i64 0, .int .i64 0] 25)).heap.size (100 + 2) := hs4.less (by omega)
    go_wp2_with fail
    go_region_with (first
      | (go_at_call 54; (with_reducible refine (pick_any g _ 100 _ w4.drew hsd).mono ?_); (rintro e w5 ⟨u, rfl, u0, u1, hs5, hg5'⟩); (have hg5 : w4.grownBy w5 (some g) := gtrans (gdrewN w4 1 _) hg5'); (have hR5 := HR.out.grown hg5 (fun e => by injection e <;> omega)); (have hT5 := HT.out.grown hg5 (fun e => by injection e <;> omega)); (obtain ⟨f1, _, _, HT5⟩ := hT5.after (Below.refl _ _) hT5.lt); (obtain ⟨k1, _, _, HR5⟩ := hR5.after (Below.refl _ _) hR5.lt); (have x2 := f1 0); (have x3 := f1 1); (have u2 : u < 60 := by omega); (clear f1 hT5 hR5 hg5')))
    all_goals
      have B5 := B4.grown hg5 B4.size (fun k hk => by injection hk; omega)
      go_wp2_with fail
      have z3 := HR5.out.set2 (x := .int .i64 p) (y := .int .i64 q)
      obtain ⟨z4, _, _, _⟩ := z3.after (Below.refl _ _) z3.lt
      have u3 : IntKind.i64.wrap (1 + u) = 1 + u := IntWalk.i64_in _ (by omega)
      exact bodyPost_ret (v := .tuple #[.agg #[.int .i64 p, .int .i64 q], .int .i64 (1 + u)]) (by simp [results, Try.results32, go_sem, z4, u3]) rfl ⟨_, _, _, rfl, (B5.setCell (Nat.le_refl _) _).setCell (Nat.le_refl _) _⟩
  · have hsd : Src w4.drew g (w.alloc (.cells #[.int .i64 0, .int .i64 0] 25)).heap.size (100 + 2) := hs4.less (by omega)
    go_wp2_with fail
    go_region_with (first
      | (go_at_call 71; (refine (among_new g _ 100 _ _ w4.drew hsd (by rfl) (by rfl) (by omega) (by omega)).mono ?_); (rintro e w5 ⟨u, rfl, hs5, hg5'⟩); (have hg5 : w4.grownBy w5 (some g) := gtrans (gdrewN w4 1 _) hg5'); (have hR5 := HR.out.grown hg5 (fun e => by injection e <;> omega)); (have hT5 := HT.out.grown hg5 (fun e => by injection e <;> omega)); (obtain ⟨f1, _, _, HT5⟩ := hT5.after (Below.refl _ _) hT5.lt); (obtain ⟨k1, _, _, HR5⟩ := hR5.after (Below.refl _ _) hR5.lt); (have x2 := f1 0); (have x3 := f1 1); (clear f1 hT5 hR5 hg5')))
    all_goals
      have B5 := B4.grown hg5 B4.size (fun k hk => by injection hk; omega)
      go_wp2_with fail
      have z3 := HR5.out.set2 (x := .int .i64 p) (y := .int .i64 q)
      obtain ⟨z4, _, _, _⟩ := z3.after (Below.refl _ _) z3.lt
      exact bodyPost_ret (v := .tuple #[.agg #[.int .i64 p, .int .i64 q], .int .i64 u]) (by simp [results, Try.results32, go_sem, z4]) rfl ⟨_, _, _, rfl, (B5.setCell (Nat.le_refl _) _).setCell (Nat.le_refl _) _⟩

set_option maxRecDepth 100000 in
theorem drawBestBelow_any (A : Option Addr) (n c : Nat) (xs : List Int) (w : World) (h : Rd w w.heap.size 1 A n (u8l xs)) (hn : n ≤ 9223372036854775807) (hx : ∀ x ∈ xs, 0 ≤ x ∧ x ≤ 255) :
    Calls Try.prog 6 #[.slice A n c] w fun e w' => ∃ p q k : Int, e = .returned (.tuple #[.agg #[.int .i64 p, .int .i64 q], .int .i64 k]) ∧ Below w.heap.size w w' := by
  go_enter Try.func6, Try.ntmps6
  have b0 : Below w.heap.size w (w.alloc (.cells #[.int .i64 0, .int .i64 0] 25)) := by go_grown
  have hR0 := Blk.new w 25 #[.int .i64 0, .int .i64 0]
  have h1 := (h.below b0).more b0.size
  go_wp2_with fail
  refine (l19Ask_any A n c xs _ h1 hn hx).mono ?_
  rintro e w1 ⟨p, q, k, rfl, hb1⟩
  have hR1 : Blk w1 w.heap.size 25 #[.int .i64 0, .int .i64 0] := (hb1.block w.heap.size (by simp)).trans hR0
  have B1 := bstep b0 hb1 b0.size
  obtain ⟨c1, c2, c3, HR⟩ := hR1.after (Below.refl _ _) hR1.lt
  clear h1 hR0 hR1 hb1
  go_wp2_with fail
  have z3 := HR.out.set2 (x := .int .i64 p) (y := .int .i64 q)
  obtain ⟨z4, _, _, _⟩ := z3.after (Below.refl _ _) z3.lt
  exact bodyPost_ret (v := .tuple #[.agg #[.int .i64 p, .int .i64 q], .int .i64 k]) (by simp [results, Try.results6, go_sem, z4]) rfl ⟨_, _, _, rfl, (B1.setCell (Nat.le_refl _) _).setCell (Nat.le_refl _) _⟩

end Go.Proofs.Ytnjilpldfidbjaa

namespace Go.Proofs.Ytnjilpldfidbjaa

theorem bbl_last_gcd {p q : Int} (hq : 0 < q) : ∀ k : Nat, 0 < k → ∃ L l, bbl p q k = L ++ [l] ∧ Int.gcd l.1 l.2 = 1
  | 0, h => by omega
  | k + 1, _ => by
    by_cases hn : nearer (bbl p q k) (p * (k + 1 : Nat) / q) ((k + 1 : Nat) : Int) = true
    · refine ⟨bbl p q k, (p * (k + 1 : Nat) / q, ((k + 1 : Nat) : Int)), ?_, bbl_gcd hq hn⟩
      conv => lhs; unfold bbl
      rw [if_pos hn]
    · have e : bbl p q (k + 1) = bbl p q k := by
        conv => lhs; unfold bbl
        rw [if_neg hn]
      by_cases hk : k = 0
      · subst hk
        exact absurd (by simp [bbl, nearer]) hn
      · obtain ⟨L, l, h1, h2⟩ := bbl_last_gcd hq k (by omega)
        exact ⟨L, l, by rw [e, h1], h2⟩

/-- The last one below is the low one. -/
theorem bbl_low {p q k a b c d : Int} (h : Near p q k a b c d) (ho : okF p q = true) (hk : 1 ≤ k ∧ k ≤ 10000) : ∃ L, bbl p q (min k q).toNat = L ++ [(a, b)] := by
  obtain ⟨o1, o2, o3⟩ := okF_iff.1 ho
  obtain ⟨K, hK⟩ : ∃ K : Nat, min k q = K := ⟨(min k q).toNat, by omega⟩
  rw [hK, Int.toNat_natCast]
  obtain ⟨L, l, e, l1, l2, l3, l4⟩ := bbl_inv (p := p) (q := q) K (by omega)
  obtain ⟨L', l', e', g⟩ := bbl_last_gcd (p := p) (q := q) (by omega) K (by omega)
  obtain ⟨rfl, hl⟩ : L = L' ∧ [l] = [l'] := List.append_inj' (e.symm.trans e') rfl
  injection hl with hl
  subst hl
  refine ⟨L, ?_⟩
  rw [e]
  have hl1 : l.1 * q ≤ p * l.2 := by rw [l3]; exact Int.ediv_mul_le _ (by omega)
  have key : a = l.1 ∧ b = l.2 := by
    rcases h with ⟨h1, rfl, rfl, rfl, rfl⟩ | ⟨h1, hS, h3⟩
    · have h4 := l4 d.toNat (by omega) (by omega)
      rw [Int.toNat_of_nonneg (by omega), Int.mul_ediv_cancel _ (by omega)] at h4
      exact frac_eq (by omega) l1 o3 g (by omega)
    · have q1 := hS.b1; have q2 := hS.bm; have q5 := hS.lo
      have h4 := l4 b.toNat (by omega) (by omega)
      rw [Int.toNat_of_nonneg (by omega)] at h4
      have h5 : a ≤ p * b / q := (Int.le_ediv_iff_mul_le (by omega)).2 (by omega)
      have h6 : a * l.2 ≤ p * b / q * l.2 := Int.mul_le_mul_of_nonneg_right h5 (by omega)
      have h7 := hS.most (x := l.1) (y := l.2) h1 h3 l1 (by omega) hl1
      exact frac_eq q1 l1 (coprime_of_det hS.det).1 g (by omega)
  rw [key.1, key.2]

theorem Near.flip {p q m a b c d : Int} (h : Near p q m a b c d) : Near (-p) q m (-c) d (-a) b := by
  rcases h with ⟨h1, rfl, rfl, rfl, rfl⟩ | ⟨h1, hS, h3⟩
  · exact .inl ⟨h1, rfl, rfl, rfl, rfl⟩
  · refine .inr ⟨h1, ⟨hS.d1, hS.dm, hS.b1, hS.bm, ?_, ?_, ?_⟩, by omega⟩
    · have := hS.hi
      rw [Int.neg_mul, Int.neg_mul]; omega
    · have := hS.lo
      rw [Int.neg_mul, Int.neg_mul]; omega
    · have := hS.det
      rw [Int.neg_mul, Int.neg_mul]
      omega
theorem okF_neg {p q : Int} (h : okF p q = true) : okF (-p) q = true := by
  obtain ⟨o1, o2, o3⟩ := okF_iff.1 h
  exact okF_iff.2 ⟨o1, by omega, by rw [Int.neg_gcd]; exact o3⟩
/-- The best fractions above p / q. -/
def bal (p q : Int) (k : Nat) : List (Int × Int) := (bbl (-p) q k).map fun l => (-l.1, l.2)
theorem bal_high {p q k a b c d : Int} (h : Near p q k a b c d) (ho : okF p q = true) (hk : 1 ≤ k ∧ k ≤ 10000) : ∃ L, bal p q (min k q).toNat = L ++ [(c, d)] := by
  obtain ⟨L, hL⟩ := bbl_low h.flip (okF_neg ho) hk
  refine ⟨L.map fun l => (-l.1, l.2), ?_⟩
  unfold bal
  rw [hL]
  simp

end Go.Proofs.Ytnjilpldfidbjaa
