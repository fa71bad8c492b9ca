/- LowerBest and UpperBest: the program's and the reference's. -/
import Derived.Test.YtnjilpldfidbjaaSidB
import Derived.Test.YtnjilpldfidbjaaBest2
namespace Go.Proofs.Ytnjilpldfidbjaa
open Go.RowKit Go.Sort

/-- The code for a fraction and a greatest denominator. -/
def sdc (p q k : Int) : Int := if okF p q = true then (if 1 ≤ k ∧ k ≤ 1000000000 then 0 else 2) else 1
/-- What is returned: the two on both sides, or nothing. -/
def Got (p q k a b c d : Int) : Prop := (sdc p q k = 0 ∧ Near p q k a b c d) ∨ (¬ sdc p q k = 0 ∧ a = 0 ∧ b = 0 ∧ c = 0 ∧ d = 0)
theorem Near.uniq {p q m a b c d a' b' c' d' : Int} (h : Near p q m a b c d) (h' : Near p q m a' b' c' d') : a = a' ∧ b = b' ∧ c = c' ∧ d = d' := by
  rcases h with ⟨h1, rfl, rfl, rfl, rfl⟩ | ⟨h1, h2, h3⟩ <;> rcases h' with ⟨g1, rfl, rfl, rfl, rfl⟩ | ⟨g1, g2, g3⟩
  · exact ⟨rfl, rfl, rfl, rfl⟩
  · omega
  · omega
  · exact h2.uniq g2 h1 h3 g3
theorem Got.uniq {p q m a b c d a' b' c' d' : Int} (h : Got p q m a b c d) (h' : Got p q m a' b' c' d') : a = a' ∧ b = b' ∧ c = c' ∧ d = d' := by
  rcases h with ⟨h1, h2⟩ | ⟨h1, rfl, rfl, rfl, rfl⟩ <;> rcases h' with ⟨g1, g2⟩ | ⟨g1, rfl, rfl, rfl, rfl⟩
  · exact h2.uniq g2
  · exact absurd h1 g1
  · exact absurd g1 h1
  · exact ⟨rfl, rfl, rfl, rfl⟩


set_option maxRecDepth 100000 in
theorem implLowerBest_any (p q k : Int) (w : World) :
    Calls Try.prog 11 #[.agg #[.int .i64 p, .int .i64 q], .int .i64 k] w fun e w' => ∃ a b c d, e = .returned (.tuple #[.agg #[.int .i64 a, .int .i64 b], .int .i64 (sdc p q k)]) ∧ Got p q k a b c d ∧ Below w.heap.size w w' := by
  have hC := checkBetween_any p q k 1000000000
  have hs : (if okF p q = true then (if 1 ≤ k ∧ k ≤ 1000000000 then 0 else 2) else 1) = sdc p q k := rfl
  rw [hs] at hC
  have B0 : Below w.heap.size w ((w.alloc (.cells #[.int .i64 p, .int .i64 q] 25)).alloc (.cells #[.int .i64 0, .int .i64 0] 25)) := by go_grown
  have hP0 := (Blk.new w 25 #[.int .i64 p, .int .i64 q]).alloc (.cells #[.int .i64 0, .int .i64 0] 25)
  have hR0 : Blk ((w.alloc (.cells #[.int .i64 p, .int .i64 q] 25)).alloc (.cells #[.int .i64 0, .int .i64 0] 25)) (w.heap.size + 1) 25 #[.int .i64 0, .int .i64 0] := Blk.newAt (by simp)
  by_cases h0 : sdc p q k = 0
  · have ho : okF p q = true ∧ 1 ≤ k ∧ k ≤ 1000000000 := by
      unfold sdc at h0
      split at h0
      · split at h0
        · exact ⟨by assumption, by assumption⟩
        · cases h0
      · cases h0
    obtain ⟨ho, hk⟩ := ho
    obtain ⟨o1, o2, o3⟩ := okF_iff.1 ho
    have hA := fun w => around_any p q k w o2 o1 (by exact_mod_cast o3) hk
    rw [h0] at hC
    clear hs
    go_enter Try.func11, Try.ntmps11
    go_wp2_with fail
    refine (hC _).mono ?_
    rintro e w1 ⟨rfl, b1⟩
    have B1 := bstep B0 b1 (by simp; omega)
    have P1 := hP0.bel b1
    have R1 := hR0.bel b1
    obtain ⟨c1, -, -, HP1⟩ := P1.after (Below.refl _ _) P1.lt
    have x0 := c1 0
    have x1 := c1 1
    clear c1 hP0 hR0 b1 B0
    have HR1 := hide R1
    clear P1 R1
    go_wp2_with fail
    refine (hA _).mono ?_
    rintro e w2 ⟨a, b, c, d, rfl, hN, b2⟩
    have B2 := bch B1 b2
    have R2 := HR1.out.bel b2
    obtain ⟨c2, f2, u2, HR2⟩ := R2.after (Below.refl _ _) R2.lt
    have y0 := c2 0
    have y1 := c2 1
    have z0 := f2 0
    have z1 := f2 1
    clear c2 f2 R2 x0 x1 b2
    have K : Blk ((w2.alloc (.cells #[.int .i64 a, .int .i64 b] 25)).alloc (.cells #[.int .i64 c, .int .i64 d] 25)) (w.heap.size + 1) 25 #[.int .i64 0, .int .i64 0] := (HR2.out.alloc (.cells #[.int .i64 a, .int .i64 b] 25)).alloc (.cells #[.int .i64 c, .int .i64 d] 25)
    have KB : Below w.heap.size w ((w2.alloc (.cells #[.int .i64 a, .int .i64 b] 25)).alloc (.cells #[.int .i64 c, .int .i64 d] 25)) := ((B2.alloc B2.size (.cells #[.int .i64 a, .int .i64 b] 25)).alloc (by have := B2.size; simp; omega) (.cells #[.int .i64 c, .int .i64 d] 25))
    have m0 := hide (K.same_ (i := 0) (by simp) (.int .i64 a))
    have m1 := hide ((K.set_ 0 (.int .i64 a)).same_ (i := 1) (by simp) (.int .i64 b))
    obtain ⟨c3, f3, -, -⟩ := K.after (Below.refl _ _) K.lt
    have v0 := c3 0
    have v1 := c3 1
    have g0 := f3 0
    have g1 := f3 1
    clear K c3 f3
    go_wp2_with fail
    exact bodyPost_ret (v := .tuple #[.agg #[.int .i64 a, .int .i64 b], .int .i64 0]) (by simp [results, Try.results11, go_sem, m0.out, m1.out]) rfl ⟨a, b, c, d, by rw [h0], .inl ⟨h0, hN⟩, (KB.setCell (show w.heap.size ≤ w.heap.size + 1 by omega) _).setCell (show w.heap.size ≤ w.heap.size + 1 by omega) _⟩
  · have hb : (sdc p q k != 0) = true := by simpa using h0
    generalize hsd : sdc p q k = s at *
    go_enter Try.func11, Try.ntmps11
    go_wp2_with fail
    refine (hC _).mono ?_
    rintro e w1 ⟨rfl, b1⟩
    have B1 := bstep B0 b1 (by simp; omega)
    have R1 := hR0.bel b1
    obtain ⟨c2, f2, u2, HR2⟩ := R1.after (Below.refl _ _) R1.lt
    have y0 := c2 0
    have y1 := c2 1
    have z0 := f2 0
    have z1 := f2 1
    have m0 := hide (R1.same_ (i := 0) (by simp) (.int .i64 0))
    have m1 := hide ((R1.set_ 0 (.int .i64 0)).same_ (i := 1) (by simp) (.int .i64 0))
    clear c2 f2 R1 hP0 hR0 B0 b1 hC hs
    go_wp2_with fail
    exact bodyPost_ret (v := .tuple #[.agg #[.int .i64 0, .int .i64 0], .int .i64 s]) (by simp [results, Try.results11, go_sem, m0.out, m1.out]) rfl ⟨0, 0, 0, 0, rfl, .inr ⟨by rw [hsd]; exact h0, rfl, rfl, rfl, rfl⟩, (B1.setCell (show w.heap.size ≤ w.heap.size + 1 by omega) _).setCell (show w.heap.size ≤ w.heap.size + 1 by omega) _⟩

set_option maxRecDepth 100000 in
theorem implUpperBest_any (p q k : Int) (w : World) :
    Calls Try.prog 13 #[.agg #[.int .i64 p, .int .i64 q], .int .i64 k] w fun e w' => ∃ a b c d, e = .returned (.tuple #[.agg #[.int .i64 c, .int .i64 d], .int .i64 (sdc p q k)]) ∧ Got p q k a b c d ∧ Below w.heap.size w w' := by
  have hC := checkBetween_any p q k 1000000000
  have hs : (if okF p q = true then (if 1 ≤ k ∧ k ≤ 1000000000 then 0 else 2) else 1) = sdc p q k := rfl
  rw [hs] at hC
  have B0 : Below w.heap.size w ((w.alloc (.cells #[.int .i64 p, .int .i64 q] 25)).alloc (.cells #[.int .i64 0, .int .i64 0] 25)) := by go_grown
  have hP0 := (Blk.new w 25 #[.int .i64 p, .int .i64 q]).alloc (.cells #[.int .i64 0, .int .i64 0] 25)
  have hR0 : Blk ((w.alloc (.cells #[.int .i64 p, .int .i64 q] 25)).alloc (.cells #[.int .i64 0, .int .i64 0] 25)) (w.heap.size + 1) 25 #[.int .i64 0, .int .i64 0] := Blk.newAt (by simp)
  by_cases h0 : sdc p q k = 0
  · have ho : okF p q = true ∧ 1 ≤ k ∧ k ≤ 1000000000 := by
      unfold sdc at h0
      split at h0
      · split at h0
        · exact ⟨by assumption, by assumption⟩
        · cases h0
      · cases h0
    obtain ⟨ho, hk⟩ := ho
    obtain ⟨o1, o2, o3⟩ := okF_iff.1 ho
    have hA := fun w => around_any p q k w o2 o1 (by exact_mod_cast o3) hk
    rw [h0] at hC
    clear hs
    go_enter Try.func13, Try.ntmps13
    go_wp2_with fail
    refine (hC _).mono ?_
    rintro e w1 ⟨rfl, b1⟩
    have B1 := bstep B0 b1 (by simp; omega)
    have P1 := hP0.bel b1
    have R1 := hR0.bel b1
    obtain ⟨c1, -, -, HP1⟩ := P1.after (Below.refl _ _) P1.lt
    have x0 := c1 0
    have x1 := c1 1
    clear c1 hP0 hR0 b1 B0
    have HR1 := hide R1
    clear P1 R1
    go_wp2_with fail
    refine (hA _).mono ?_
    rintro e w2 ⟨a, b, c, d, rfl, hN, b2⟩
    have B2 := bch B1 b2
    have R2 := HR1.out.bel b2
    obtain ⟨c2, f2, u2, HR2⟩ := R2.after (Below.refl _ _) R2.lt
    have y0 := c2 0
    have y1 := c2 1
    have z0 := f2 0
    have z1 := f2 1
    clear c2 f2 R2 x0 x1 b2
    have K : Blk ((w2.alloc (.cells #[.int .i64 a, .int .i64 b] 25)).alloc (.cells #[.int .i64 c, .int .i64 d] 25)) (w.heap.size + 1) 25 #[.int .i64 0, .int .i64 0] := (HR2.out.alloc (.cells #[.int .i64 a, .int .i64 b] 25)).alloc (.cells #[.int .i64 c, .int .i64 d] 25)
    have KB : Below w.heap.size w ((w2.alloc (.cells #[.int .i64 a, .int .i64 b] 25)).alloc (.cells #[.int .i64 c, .int .i64 d] 25)) := ((B2.alloc B2.size (.cells #[.int .i64 a, .int .i64 b] 25)).alloc (by have := B2.size; simp; omega) (.cells #[.int .i64 c, .int .i64 d] 25))
    have m0 := hide (K.same_ (i := 0) (by simp) (.int .i64 c))
    have m1 := hide ((K.set_ 0 (.int .i64 c)).same_ (i := 1) (by simp) (.int .i64 d))
    obtain ⟨c3, f3, -, -⟩ := K.after (Below.refl _ _) K.lt
    have v0 := c3 0
    have v1 := c3 1
    have g0 := f3 0
    have g1 := f3 1
    clear K c3 f3
    go_wp2_with fail
    exact bodyPost_ret (v := .tuple #[.agg #[.int .i64 c, .int .i64 d], .int .i64 0]) (by simp [results, Try.results13, go_sem, m0.out, m1.out]) rfl ⟨a, b, c, d, by rw [h0], .inl ⟨h0, hN⟩, (KB.setCell (show w.heap.size ≤ w.heap.size + 1 by omega) _).setCell (show w.heap.size ≤ w.heap.size + 1 by omega) _⟩
  · have hb : (sdc p q k != 0) = true := by simpa using h0
    generalize hsd : sdc p q k = s at *
    go_enter Try.func13, Try.ntmps13
    go_wp2_with fail
    refine (hC _).mono ?_
    rintro e w1 ⟨rfl, b1⟩
    have B1 := bstep B0 b1 (by simp; omega)
    have R1 := hR0.bel b1
    obtain ⟨c2, f2, u2, HR2⟩ := R1.after (Below.refl _ _) R1.lt
    have y0 := c2 0
    have y1 := c2 1
    have z0 := f2 0
    have z1 := f2 1
    have m0 := hide (R1.same_ (i := 0) (by simp) (.int .i64 0))
    have m1 := hide ((R1.set_ 0 (.int .i64 0)).same_ (i := 1) (by simp) (.int .i64 0))
    clear c2 f2 R1 hP0 hR0 B0 b1 hC hs
    go_wp2_with fail
    exact bodyPost_ret (v := .tuple #[.agg #[.int .i64 0, .int .i64 0], .int .i64 s]) (by simp [results, Try.results13, go_sem, m0.out, m1.out]) rfl ⟨0, 0, 0, 0, rfl, .inr ⟨by rw [hsd]; exact h0, rfl, rfl, rfl, rfl⟩, (B1.setCell (show w.heap.size ≤ w.heap.size + 1 by omega) _).setCell (show w.heap.size ≤ w.heap.size + 1 by omega) _⟩

set_option maxRecDepth 100000 in
theorem specLowerBest_any (p q k : Int) (w : World) :
    Calls Try.prog 12 #[.agg #[.int .i64 p, .int .i64 q], .int .i64 k] w fun e w' => ∃ a b c d, e = .returned (.tuple #[.agg #[.int .i64 a, .int .i64 b], .int .i64 (sdc p q k)]) ∧ Got p q k a b c d ∧ Below w.heap.size w w' := by
  have hC := l19Asked_any p q k
  have hs : (if okF p q = true then (if 1 ≤ k ∧ k ≤ 1000000000 then 0 else 2) else 1) = sdc p q k := rfl
  rw [hs] at hC
  have B0 : Below w.heap.size w ((w.alloc (.cells #[.int .i64 p, .int .i64 q] 25)).alloc (.cells #[.int .i64 0, .int .i64 0] 25)) := by go_grown
  have hP0 := (Blk.new w 25 #[.int .i64 p, .int .i64 q]).alloc (.cells #[.int .i64 0, .int .i64 0] 25)
  have hR0 : Blk ((w.alloc (.cells #[.int .i64 p, .int .i64 q] 25)).alloc (.cells #[.int .i64 0, .int .i64 0] 25)) (w.heap.size + 1) 25 #[.int .i64 0, .int .i64 0] := Blk.newAt (by simp)
  by_cases h0 : sdc p q k = 0
  · have ho : okF p q = true ∧ 1 ≤ k ∧ k ≤ 1000000000 := by
      unfold sdc at h0
      split at h0
      · split at h0
        · exact ⟨by assumption, by assumption⟩
        · cases h0
      · cases h0
    obtain ⟨ho, hk⟩ := ho
    obtain ⟨o1, o2, o3⟩ := okF_iff.1 ho
    have hA := fun w => l19Side_any p q k 1 w o2 o1 (by exact_mod_cast o3) hk
    rw [h0] at hC
    clear hs
    go_enter Try.func12, Try.ntmps12
    go_wp2_with fail
    refine (hC _).mono ?_
    rintro e w1 ⟨rfl, b1⟩
    have B1 := bstep B0 b1 (by simp; omega)
    have P1 := hP0.bel b1
    have R1 := hR0.bel b1
    obtain ⟨c1, -, -, HP1⟩ := P1.after (Below.refl _ _) P1.lt
    have x0 := c1 0
    have x1 := c1 1
    clear c1 hP0 hR0 b1 B0
    have HR1 := hide R1
    clear P1 R1
    go_wp2_with fail
    refine (hA _).mono ?_
    rintro e w2 ⟨a, b, c, d, rfl, hN, b2⟩
    have B2 := bch B1 b2
    have R2 := HR1.out.bel b2
    obtain ⟨c2, f2, u2, HR2⟩ := R2.after (Below.refl _ _) R2.lt
    have y0 := c2 0
    have y1 := c2 1
    have z0 := f2 0
    have z1 := f2 1
    clear c2 f2 R2 x0 x1 b2
    have e0 : sel 1 a b c d = .agg #[.int .i64 a, .int .i64 b] := rfl
    rw [e0]
    have K : Blk w2 (w.heap.size + 1) 25 #[.int .i64 0, .int .i64 0] := HR2.out
    have KB : Below w.heap.size w w2 := B2
    have m0 := hide (K.same_ (i := 0) (by simp) (.int .i64 a))
    have m1 := hide ((K.set_ 0 (.int .i64 a)).same_ (i := 1) (by simp) (.int .i64 b))
    obtain ⟨c3, f3, -, -⟩ := K.after (Below.refl _ _) K.lt
    have v0 := c3 0
    have v1 := c3 1
    have g0 := f3 0
    have g1 := f3 1
    clear K c3 f3
    go_wp2_with fail
    exact bodyPost_ret (v := .tuple #[.agg #[.int .i64 a, .int .i64 b], .int .i64 0]) (by simp [results, Try.results12, go_sem, m0.out, m1.out]) rfl ⟨a, b, c, d, by rw [h0], .inl ⟨h0, hN⟩, (KB.setCell (show w.heap.size ≤ w.heap.size + 1 by omega) _).setCell (show w.heap.size ≤ w.heap.size + 1 by omega) _⟩
  · have hb : (sdc p q k != 0) = true := by simpa using h0
    generalize hsd : sdc p q k = s at *
    go_enter Try.func12, Try.ntmps12
    go_wp2_with fail
    refine (hC _).mono ?_
    rintro e w1 ⟨rfl, b1⟩
    have B1 := bstep B0 b1 (by simp; omega)
    have R1 := hR0.bel b1
    obtain ⟨c2, f2, u2, HR2⟩ := R1.after (Below.refl _ _) R1.lt
    have y0 := c2 0
    have y1 := c2 1
    have z0 := f2 0
    have z1 := f2 1
    have m0 := hide (R1.same_ (i := 0) (by simp) (.int .i64 0))
    have m1 := hide ((R1.set_ 0 (.int .i64 0)).same_ (i := 1) (by simp) (.int .i64 0))
    clear c2 f2 R1 hP0 hR0 B0 b1 hC hs
    go_wp2_with fail
    exact bodyPost_ret (v := .tuple #[.agg #[.int .i64 0, .int .i64 0], .int .i64 s]) (by simp [results, Try.results12, go_sem, m0.out, m1.out]) rfl ⟨0, 0, 0, 0, rfl, .inr ⟨by rw [hsd]; exact h0, rfl, rfl, rfl, rfl⟩, (B1.setCell (show w.heap.size ≤ w.heap.size + 1 by omega) _).setCell (show w.heap.size ≤ w.heap.size + 1 by omega) _⟩

set_option maxRecDepth 100000 in
theorem specUpperBest_any (p q k : Int) (w : World) :
    Calls Try.prog 14 #[.agg #[.int .i64 p, .int .i64 q], .int .i64 k] w fun e w' => ∃ a b c d, e = .returned (.tuple #[.agg #[.int .i64 c, .int .i64 d], .int .i64 (sdc p q k)]) ∧ Got p q k a b c d ∧ Below w.heap.size w w' := by
  have hC := l19Asked_any p q k
  have hs : (if okF p q = true then (if 1 ≤ k ∧ k ≤ 1000000000 then 0 else 2) else 1) = sdc p q k := rfl
  rw [hs] at hC
  have B0 : Below w.heap.size w ((w.alloc (.cells #[.int .i64 p, .int .i64 q] 25)).alloc (.cells #[.int .i64 0, .int .i64 0] 25)) := by go_grown
  have hP0 := (Blk.new w 25 #[.int .i64 p, .int .i64 q]).alloc (.cells #[.int .i64 0, .int .i64 0] 25)
  have hR0 : Blk ((w.alloc (.cells #[.int .i64 p, .int .i64 q] 25)).alloc (.cells #[.int .i64 0, .int .i64 0] 25)) (w.heap.size + 1) 25 #[.int .i64 0, .int .i64 0] := Blk.newAt (by simp)
  by_cases h0 : sdc p q k = 0
  · have ho : okF p q = true ∧ 1 ≤ k ∧ k ≤ 1000000000 := by
      unfold sdc at h0
      split at h0
      · split at h0
        · exact ⟨by assumption, by assumption⟩
        · cases h0
      · cases h0
    obtain ⟨ho, hk⟩ := ho
    obtain ⟨o1, o2, o3⟩ := okF_iff.1 ho
    have hA := fun w => l19Side_any p q k (-1) w o2 o1 (by exact_mod_cast o3) hk
    rw [h0] at hC
    clear hs
    go_enter Try.func14, Try.ntmps14
    go_wp2_with fail
    refine (hC _).mono ?_
    rintro e w1 ⟨rfl, b1⟩
    have B1 := bstep B0 b1 (by simp; omega)
    have P1 := hP0.bel b1
    have R1 := hR0.bel b1
    obtain ⟨c1, -, -, HP1⟩ := P1.after (Below.refl _ _) P1.lt
    have x0 := c1 0
    have x1 := c1 1
    clear c1 hP0 hR0 b1 B0
    have HR1 := hide R1
    clear P1 R1
    go_wp2_with fail
    refine (hA _).mono ?_
    rintro e w2 ⟨a, b, c, d, rfl, hN, b2⟩
    have B2 := bch B1 b2
    have R2 := HR1.out.bel b2
    obtain ⟨c2, f2, u2, HR2⟩ := R2.after (Below.refl _ _) R2.lt
    have y0 := c2 0
    have y1 := c2 1
    have z0 := f2 0
    have z1 := f2 1
    clear c2 f2 R2 x0 x1 b2
    have e0 : sel (-1) a b c d = .agg #[.int .i64 c, .int .i64 d] := rfl
    rw [e0]
    have K : Blk w2 (w.heap.size + 1) 25 #[.int .i64 0, .int .i64 0] := HR2.out
    have KB : Below w.heap.size w w2 := B2
    have m0 := hide (K.same_ (i := 0) (by simp) (.int .i64 c))
    have m1 := hide ((K.set_ 0 (.int .i64 c)).same_ (i := 1) (by simp) (.int .i64 d))
    obtain ⟨c3, f3, -, -⟩ := K.after (Below.refl _ _) K.lt
    have v0 := c3 0
    have v1 := c3 1
    have g0 := f3 0
    have g1 := f3 1
    clear K c3 f3
    go_wp2_with fail
    exact bodyPost_ret (v := .tuple #[.agg #[.int .i64 c, .int .i64 d], .int .i64 0]) (by simp [results, Try.results14, go_sem, m0.out, m1.out]) rfl ⟨a, b, c, d, by rw [h0], .inl ⟨h0, hN⟩, (KB.setCell (show w.heap.size ≤ w.heap.size + 1 by omega) _).setCell (show w.heap.size ≤ w.heap.size + 1 by omega) _⟩
  · have hb : (sdc p q k != 0) = true := by simpa using h0
    generalize hsd : sdc p q k = s at *
    go_enter Try.func14, Try.ntmps14
    go_wp2_with fail
    refine (hC _).mono ?_
    rintro e w1 ⟨rfl, b1⟩
    have B1 := bstep B0 b1 (by simp; omega)
    have R1 := hR0.bel b1
    obtain ⟨c2, f2, u2, HR2⟩ := R1.after (Below.refl _ _) R1.lt
    have y0 := c2 0
    have y1 := c2 1
    have z0 := f2 0
    have z1 := f2 1
    have m0 := hide (R1.same_ (i := 0) (by simp) (.int .i64 0))
    have m1 := hide ((R1.set_ 0 (.int .i64 0)).same_ (i := 1) (by simp) (.int .i64 0))
    clear c2 f2 R1 hP0 hR0 B0 b1 hC hs
    go_wp2_with fail
    exact bodyPost_ret (v := .tuple #[.agg #[.int .i64 0, .int .i64 0], .int .i64 s]) (by simp [results, Try.results14, go_sem, m0.out, m1.out]) rfl ⟨0, 0, 0, 0, rfl, .inr ⟨by rw [hsd]; exact h0, rfl, rfl, rfl, rfl⟩, (B1.setCell (show w.heap.size ≤ w.heap.size + 1 by omega) _).setCell (show w.heap.size ≤ w.heap.size + 1 by omega) _⟩

end Go.Proofs.Ytnjilpldfidbjaa
