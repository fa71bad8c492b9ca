/- Children of triples, in the program and in the reference; the law of TripleChild. -/
import Derived.Test.YtdopchoncajheaaMark2
import Derived.RegionTactic
namespace Go.Proofs.Ytdopchoncajheaa
open Go.RowKit

/-- The child's first number, and the number that is struck. -/
def fst (r : Bool) (X Y : Int) : Int := match r with | true => Y | false => X
def snd (r : Bool) (X Y : Int) : Int := match r with | true => X | false => Y

theorem mul3_bd {a Z : Int} (ha : 0 ≤ a) (hA : a ≤ 1000000000) (hz : 0 ≤ Z) (hZ : Z ≤ 1000000000) : 0 ≤ 3 * a * Z ∧ 3 * a * Z ≤ 3000000000000000000 := by
  have := mul_bd ha hA hz hZ
  rw [Int.mul_assoc]; omega

theorem rightChild_any (X Y Z : Int) (w : World) (h : 0 ≤ X ∧ X ≤ 1000000000 ∧ 0 ≤ Y ∧ Y ≤ 1000000000 ∧ 0 ≤ Z ∧ Z ≤ 1000000000) :
    Calls Try.prog 59 #[.agg #[.int .i64 X, .int .i64 Y, .int .i64 Z]] w fun e w' => e = .returned (.agg #[.int .i64 Y, .int .i64 Z, .int .i64 (3 * Y * Z - X)]) ∧ Below w.heap.size w w' := by
  obtain ⟨h1, h2, h3, h4, h5, h6⟩ := h
  obtain ⟨m1, m2⟩ := mul3_bd h3 h4 h5 h6
  go_enter Try.func59, Try.ntmps59
  go_wp2
  refine bodyPost_ret (v := .agg #[.int .i64 Y, .int .i64 Z, .int .i64 (3 * Y * Z - X)]) (by simp [results, Try.results59, go_sem]) rfl ⟨rfl, ?_⟩
  go_grown

theorem leftChild_any (X Y Z : Int) (w : World) (h : 0 ≤ X ∧ X ≤ 1000000000 ∧ 0 ≤ Y ∧ Y ≤ 1000000000 ∧ 0 ≤ Z ∧ Z ≤ 1000000000) :
    Calls Try.prog 74 #[.agg #[.int .i64 X, .int .i64 Y, .int .i64 Z]] w fun e w' => e = .returned (.agg #[.int .i64 X, .int .i64 Z, .int .i64 (3 * X * Z - Y)]) ∧ Below w.heap.size w w' := by
  obtain ⟨h1, h2, h3, h4, h5, h6⟩ := h
  obtain ⟨m1, m2⟩ := mul3_bd h1 h2 h5 h6
  go_enter Try.func74, Try.ntmps74
  go_wp2
  refine bodyPost_ret (v := .agg #[.int .i64 X, .int .i64 Z, .int .i64 (3 * X * Z - Y)]) (by simp [results, Try.results74, go_sem]) rfl ⟨rfl, ?_⟩
  go_grown

theorem child_any (r : Bool) (X Y Z : Int) (w : World) (h : 0 ≤ X ∧ X ≤ 1000000000 ∧ 0 ≤ Y ∧ Y ≤ 1000000000 ∧ 0 ≤ Z ∧ Z ≤ 1000000000) :
    Calls Try.prog 56 #[.agg #[.int .i64 X, .int .i64 Y, .int .i64 Z], .bool r] w fun e w' => e = .returned (.agg #[.int .i64 (fst r X Y), .int .i64 Z, .int .i64 (3 * fst r X Y * Z - snd r X Y)]) ∧ Below w.heap.size w w' := by
  have H := hide h
  clear h
  cases r
  · go_enter Try.func56, Try.ntmps56
    go_wp2_with fail
    refine (leftChild_any _ _ _ _ H.out).mono ?_
    rintro e w1 ⟨rfl, hb1⟩
    have hl1 : Below w.heap.size w w1 := bstep (by go_grown) hb1 (by simp; omega)
    obtain ⟨kc, kf, kz, kb⟩ := (Blk.new (w.alloc (.cells #[.int .i64 X, .int .i64 Y, .int .i64 Z] 25)) 25 #[.int .i64 0, .int .i64 0, .int .i64 0]).after hb1 (by simp)
    simp only [World.size_alloc] at kc kf kz
    go_wp2
    refine bodyPost_ret (v := .agg #[.int .i64 X, .int .i64 Z, .int .i64 (3 * X * Z - Y)]) (by simp [results, Try.results56, go_sem, *]) rfl ⟨rfl, ?_⟩
    go_grown
  · go_enter Try.func56, Try.ntmps56
    go_wp2_with fail
    refine (rightChild_any _ _ _ _ H.out).mono ?_
    rintro e w1 ⟨rfl, hb1⟩
    have hl1 : Below w.heap.size w w1 := bstep (by go_grown) hb1 (by simp; omega)
    obtain ⟨kc, kf, kz, kb⟩ := (Blk.new (w.alloc (.cells #[.int .i64 X, .int .i64 Y, .int .i64 Z] 25)) 25 #[.int .i64 0, .int .i64 0, .int .i64 0]).after hb1 (by simp)
    simp only [World.size_alloc] at kc kf kz
    go_wp2
    refine bodyPost_ret (v := .agg #[.int .i64 Y, .int .i64 Z, .int .i64 (3 * Y * Z - X)]) (by simp [results, Try.results56, go_sem, *]) rfl ⟨rfl, ?_⟩
    go_grown

theorem l22Child_any (r : Bool) (X Y Z : Int) (w : World) (h : 0 ≤ X ∧ X ≤ 1000000000 ∧ 0 ≤ Y ∧ Y ≤ 1000000000 ∧ 0 ≤ Z ∧ Z ≤ 1000000000) :
    Calls Try.prog 55 #[.agg #[.int .i64 X, .int .i64 Y, .int .i64 Z], .bool r] w fun e w' => e = .returned (.tuple #[.agg #[.int .i64 (fst r X Y), .int .i64 Z, .int .i64 (3 * fst r X Y * Z - snd r X Y)], .bool (decide (3 * fst r X Y * Z - snd r X Y ≤ 1000000000))]) ∧ Below w.heap.size w w' := by
  obtain ⟨h1, h2, h3, h4, h5, h6⟩ := h
  obtain ⟨m1, m2⟩ := mul3_bd h1 h2 h5 h6
  obtain ⟨m3, m4⟩ := mul3_bd h3 h4 h5 h6
  cases r
  · go_enter Try.func55, Try.ntmps55
    go_wp2
    go_region
    go_wp2
    refine bodyPost_ret (v := .tuple #[.agg #[.int .i64 X, .int .i64 Z, .int .i64 (3 * X * Z - Y)], .bool (decide (3 * X * Z - Y ≤ 1000000000))]) (by simp [results, Try.results55, go_sem]) rfl ⟨rfl, ?_⟩
    go_grown
  · go_enter Try.func55, Try.ntmps55
    go_wp2
    go_region
    go_wp2
    refine bodyPost_ret (v := .tuple #[.agg #[.int .i64 Y, .int .i64 Z, .int .i64 (3 * Y * Z - X)], .bool (decide (3 * Y * Z - X ≤ 1000000000))]) (by simp [results, Try.results55, go_sem]) rfl ⟨rfl, ?_⟩
    go_grown

theorem implTripleChild_bad (r : Bool) (X Y Z : Int) (w : World) (hv : vtB X Y Z = false) :
    Calls Try.prog 25 #[.agg #[.int .i64 X, .int .i64 Y, .int .i64 Z], .bool r] w fun e w' => e = .returned (.tuple #[.agg #[.int .i64 0, .int .i64 0, .int .i64 0], .int .i64 1]) ∧ Below w.heap.size w w' := by
  go_enter Try.func25, Try.ntmps25
  go_wp2_with fail
  refine (implValidTriple_any _ _ _ _).mono ?_
  rintro e w1 ⟨rfl, hb1⟩
  have hl1 : Below w.heap.size w w1 := bstep (by go_grown) hb1 (by simp; omega)
  obtain ⟨kc0, kf0, kz0, kb0⟩ := ((Blk.new w 25 #[.int .i64 X, .int .i64 Y, .int .i64 Z]).alloc (.cells #[.int .i64 0, .int .i64 0, .int .i64 0] 25)).after hb1 (by simp; omega)
  obtain ⟨kc1, kf1, kz1, kb1⟩ := (Blk.new (w.alloc (.cells #[.int .i64 X, .int .i64 Y, .int .i64 Z] 25)) 25 #[.int .i64 0, .int .i64 0, .int .i64 0]).after hb1 (by simp)
  simp only [World.size_alloc] at kc1 kf1 kz1
  have KB := kb1
  simp only [World.size_alloc] at KB
  go_wp2
  refine bodyPost_ret (v := .tuple #[.agg #[.int .i64 0, .int .i64 0, .int .i64 0], .int .i64 1]) (by simp [results, Try.results25, go_sem, *]) rfl ⟨rfl, ?_⟩
  go_grown

theorem implTripleChild_full (r : Bool) (X Y Z : Int) (w : World) (hv : vtB X Y Z = true) (hf : 1000000000 < 3 * fst r X Y * Z - snd r X Y) :
    Calls Try.prog 25 #[.agg #[.int .i64 X, .int .i64 Y, .int .i64 Z], .bool r] w fun e w' => e = .returned (.tuple #[.agg #[.int .i64 0, .int .i64 0, .int .i64 0], .int .i64 5]) ∧ Below w.heap.size w w' := by
  obtain ⟨h1, h2, h3, h4⟩ := (vtB_iff.1 hv).1
  have H := hide (show 0 ≤ X ∧ X ≤ 1000000000 ∧ 0 ≤ Y ∧ Y ≤ 1000000000 ∧ 0 ≤ Z ∧ Z ≤ 1000000000 from by omega)
  go_enter Try.func25, Try.ntmps25
  go_wp2_with fail
  refine (implValidTriple_any _ _ _ _).mono ?_
  rintro e w1 ⟨rfl, hb1⟩
  have hl1 : Below w.heap.size w w1 := bstep (by go_grown) hb1 (by simp; omega)
  obtain ⟨kc0, kf0, kz0, kb0⟩ := ((Blk.new w 25 #[.int .i64 X, .int .i64 Y, .int .i64 Z]).alloc (.cells #[.int .i64 0, .int .i64 0, .int .i64 0] 25)).after hb1 (by simp; omega)
  obtain ⟨kc1, kf1, kz1, kb1⟩ := (Blk.new (w.alloc (.cells #[.int .i64 X, .int .i64 Y, .int .i64 Z] 25)) 25 #[.int .i64 0, .int .i64 0, .int .i64 0]).after hb1 (by simp)
  simp only [World.size_alloc] at kc1 kf1 kz1
  have KB := kb1
  simp only [World.size_alloc] at KB
  go_wp2_with fail
  refine (child_any _ _ _ _ _ H.out).mono ?_
  rintro e w2 ⟨rfl, hb2⟩
  have hl2 : Below w.heap.size w w2 := bstep hl1 hb2 (by omega)
  clear kc0 kf0 kc1 kf1
  obtain ⟨kc0, kf0, kz0', kb0'⟩ := kb0.out.after hb2 kz0
  obtain ⟨kc1, kf1, kz1', kb1'⟩ := KB.out.after hb2 kz1
  go_wp2
  refine bodyPost_ret (v := .tuple #[.agg #[.int .i64 0, .int .i64 0, .int .i64 0], .int .i64 5]) (by simp [results, Try.results25, go_sem, *]) rfl ⟨rfl, ?_⟩
  go_grown

theorem implTripleChild_ok (r : Bool) (X Y Z : Int) (w : World) (hv : vtB X Y Z = true) (hf : 3 * fst r X Y * Z - snd r X Y ≤ 1000000000) :
    Calls Try.prog 25 #[.agg #[.int .i64 X, .int .i64 Y, .int .i64 Z], .bool r] w fun e w' => e = .returned (.tuple #[.agg #[.int .i64 (fst r X Y), .int .i64 Z, .int .i64 (3 * fst r X Y * Z - snd r X Y)], .int .i64 0]) ∧ Below w.heap.size w w' := by
  obtain ⟨h1, h2, h3, h4⟩ := (vtB_iff.1 hv).1
  have H := hide (show 0 ≤ X ∧ X ≤ 1000000000 ∧ 0 ≤ Y ∧ Y ≤ 1000000000 ∧ 0 ≤ Z ∧ Z ≤ 1000000000 from by omega)
  go_enter Try.func25, Try.ntmps25
  go_wp2_with fail
  refine (implValidTriple_any _ _ _ _).mono ?_
  rintro e w1 ⟨rfl, hb1⟩
  have hl1 : Below w.heap.size w w1 := bstep (by go_grown) hb1 (by simp; omega)
  obtain ⟨kc0, kf0, kz0, kb0⟩ := ((Blk.new w 25 #[.int .i64 X, .int .i64 Y, .int .i64 Z]).alloc (.cells #[.int .i64 0, .int .i64 0, .int .i64 0] 25)).after hb1 (by simp; omega)
  obtain ⟨kc1, kf1, kz1, kb1⟩ := (Blk.new (w.alloc (.cells #[.int .i64 X, .int .i64 Y, .int .i64 Z] 25)) 25 #[.int .i64 0, .int .i64 0, .int .i64 0]).after hb1 (by simp)
  simp only [World.size_alloc] at kc1 kf1 kz1
  have KB := kb1
  simp only [World.size_alloc] at KB
  go_wp2_with fail
  refine (child_any _ _ _ _ _ H.out).mono ?_
  rintro e w2 ⟨rfl, hb2⟩
  have hl2 : Below w.heap.size w w2 := bstep hl1 hb2 (by omega)
  clear kc0 kf0 kc1 kf1
  obtain ⟨kc0, kf0, kz0', kb0'⟩ := kb0.out.after hb2 kz0
  obtain ⟨kc1, kf1, kz1', kb1'⟩ := KB.out.after hb2 kz1
  go_wp2
  refine bodyPost_ret (v := .tuple #[.agg #[.int .i64 (fst r X Y), .int .i64 Z, .int .i64 (3 * fst r X Y * Z - snd r X Y)], .int .i64 0]) (by simp [results, Try.results25, go_sem, *]) rfl ⟨rfl, ?_⟩
  go_grown

theorem specTripleChild_bad (r : Bool) (X Y Z : Int) (w : World) (hv : vtB X Y Z = false) :
    Calls Try.prog 24 #[.agg #[.int .i64 X, .int .i64 Y, .int .i64 Z], .bool r] w fun e w' => e = .returned (.tuple #[.agg #[.int .i64 0, .int .i64 0, .int .i64 0], .int .i64 1]) ∧ Below w.heap.size w w' := by
  go_enter Try.func24, Try.ntmps24
  go_wp2_with fail
  refine (l22Ok_any _ _ _ _).mono ?_
  rintro e w1 ⟨rfl, hb1⟩
  have hl1 : Below w.heap.size w w1 := bstep (by go_grown) hb1 (by simp; omega)
  obtain ⟨kc0, kf0, kz0, kb0⟩ := ((Blk.new w 25 #[.int .i64 X, .int .i64 Y, .int .i64 Z]).alloc (.cells #[.int .i64 0, .int .i64 0, .int .i64 0] 25)).after hb1 (by simp; omega)
  obtain ⟨kc1, kf1, kz1, kb1⟩ := (Blk.new (w.alloc (.cells #[.int .i64 X, .int .i64 Y, .int .i64 Z] 25)) 25 #[.int .i64 0, .int .i64 0, .int .i64 0]).after hb1 (by simp)
  simp only [World.size_alloc] at kc1 kf1 kz1
  have KB := kb1
  simp only [World.size_alloc] at KB
  go_wp2
  refine bodyPost_ret (v := .tuple #[.agg #[.int .i64 0, .int .i64 0, .int .i64 0], .int .i64 1]) (by simp [results, Try.results24, go_sem, *]) rfl ⟨rfl, ?_⟩
  go_grown

theorem specTripleChild_full (r : Bool) (X Y Z : Int) (w : World) (hv : vtB X Y Z = true) (hf : 1000000000 < 3 * fst r X Y * Z - snd r X Y) :
    Calls Try.prog 24 #[.agg #[.int .i64 X, .int .i64 Y, .int .i64 Z], .bool r] w fun e w' => e = .returned (.tuple #[.agg #[.int .i64 0, .int .i64 0, .int .i64 0], .int .i64 5]) ∧ Below w.heap.size w w' := by
  obtain ⟨h1, h2, h3, h4⟩ := (vtB_iff.1 hv).1
  have H := hide (show 0 ≤ X ∧ X ≤ 1000000000 ∧ 0 ≤ Y ∧ Y ≤ 1000000000 ∧ 0 ≤ Z ∧ Z ≤ 1000000000 from by omega)
  have hd : decide (3 * fst r X Y * Z - snd r X Y ≤ 1000000000) = false := decide_eq_false (by omega)
  go_enter Try.func24, Try.ntmps24
  go_wp2_with fail
  refine (l22Ok_any _ _ _ _).mono ?_
  rintro e w1 ⟨rfl, hb1⟩
  have hl1 : Below w.heap.size w w1 := bstep (by go_grown) hb1 (by simp; omega)
  obtain ⟨kc0, kf0, kz0, kb0⟩ := ((Blk.new w 25 #[.int .i64 X, .int .i64 Y, .int .i64 Z]).alloc (.cells #[.int .i64 0, .int .i64 0, .int .i64 0] 25)).after hb1 (by simp; omega)
  obtain ⟨kc1, kf1, kz1, kb1⟩ := (Blk.new (w.alloc (.cells #[.int .i64 X, .int .i64 Y, .int .i64 Z] 25)) 25 #[.int .i64 0, .int .i64 0, .int .i64 0]).after hb1 (by simp)
  simp only [World.size_alloc] at kc1 kf1 kz1
  have KB := kb1
  simp only [World.size_alloc] at KB
  go_wp2_with fail
  refine (l22Child_any _ _ _ _ _ H.out).mono ?_
  rintro e w2 ⟨rfl, hb2⟩
  have hl2 : Below w.heap.size w w2 := bstep hl1 hb2 (by omega)
  clear kc0 kf0 kc1 kf1
  obtain ⟨kc0, kf0, kz0', kb0'⟩ := kb0.out.after hb2 kz0
  obtain ⟨kc1, kf1, kz1', kb1'⟩ := KB.out.after hb2 kz1
  go_wp2
  refine bodyPost_ret (v := .tuple #[.agg #[.int .i64 0, .int .i64 0, .int .i64 0], .int .i64 5]) (by simp [results, Try.results24, go_sem, *]) rfl ⟨rfl, ?_⟩
  go_grown

theorem specTripleChild_ok (r : Bool) (X Y Z : Int) (w : World) (hv : vtB X Y Z = true) (hf : 3 * fst r X Y * Z - snd r X Y ≤ 1000000000) :
    Calls Try.prog 24 #[.agg #[.int .i64 X, .int .i64 Y, .int .i64 Z], .bool r] w fun e w' => e = .returned (.tuple #[.agg #[.int .i64 (fst r X Y), .int .i64 Z, .int .i64 (3 * fst r X Y * Z - snd r X Y)], .int .i64 0]) ∧ Below w.heap.size w w' := by
  obtain ⟨h1, h2, h3, h4⟩ := (vtB_iff.1 hv).1
  have H := hide (show 0 ≤ X ∧ X ≤ 1000000000 ∧ 0 ≤ Y ∧ Y ≤ 1000000000 ∧ 0 ≤ Z ∧ Z ≤ 1000000000 from by omega)
  have hd : decide (3 * fst r X Y * Z - snd r X Y ≤ 1000000000) = true := decide_eq_true (by omega)
  go_enter Try.func24, Try.ntmps24
  go_wp2_with fail
  refine (l22Ok_any _ _ _ _).mono ?_
  rintro e w1 ⟨rfl, hb1⟩
  have hl1 : Below w.heap.size w w1 := bstep (by go_grown) hb1 (by simp; omega)
  obtain ⟨kc0, kf0, kz0, kb0⟩ := ((Blk.new w 25 #[.int .i64 X, .int .i64 Y, .int .i64 Z]).alloc (.cells #[.int .i64 0, .int .i64 0, .int .i64 0] 25)).after hb1 (by simp; omega)
  obtain ⟨kc1, kf1, kz1, kb1⟩ := (Blk.new (w.alloc (.cells #[.int .i64 X, .int .i64 Y, .int .i64 Z] 25)) 25 #[.int .i64 0, .int .i64 0, .int .i64 0]).after hb1 (by simp)
  simp only [World.size_alloc] at kc1 kf1 kz1
  have KB := kb1
  simp only [World.size_alloc] at KB
  go_wp2_with fail
  refine (l22Child_any _ _ _ _ _ H.out).mono ?_
  rintro e w2 ⟨rfl, hb2⟩
  have hl2 : Below w.heap.size w w2 := bstep hl1 hb2 (by omega)
  clear kc0 kf0 kc1 kf1
  obtain ⟨kc0, kf0, kz0', kb0'⟩ := kb0.out.after hb2 kz0
  obtain ⟨kc1, kf1, kz1', kb1'⟩ := KB.out.after hb2 kz1
  go_wp2
  refine bodyPost_ret (v := .tuple #[.agg #[.int .i64 (fst r X Y), .int .i64 Z, .int .i64 (3 * fst r X Y * Z - snd r X Y)], .int .i64 0]) (by simp [results, Try.results24, go_sem, *]) rfl ⟨rfl, ?_⟩
  go_grown

end Go.Proofs.Ytdopchoncajheaa
