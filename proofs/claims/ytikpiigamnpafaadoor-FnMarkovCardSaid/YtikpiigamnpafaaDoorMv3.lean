/- Children of Markov triples (out of Mark3). -/
import Derived.Test.YtikpiigamnpafaaDoorMk2
import Derived.RegionTactic
namespace Go.Proofs.YtikpiigamnpafaaDoor
open Go.RowKit

/-- The child's first number, and the number that is struck. -/
def fst (r : Bool) (X Y : Int) : Int := match r with | true => Y | false => X

def snd (r : Bool) (X Y : Int) : Int := match r with | true => X | false => Y

theorem mul3_bd {a Z : Int} (ha : 0 ≤ a) (hA : a ≤ 1000000000) (hz : 0 ≤ Z) (hZ : Z ≤ 1000000000) : 0 ≤ 3 * a * Z ∧ 3 * a * Z ≤ 3000000000000000000 := by
  have := mul_bd ha hA hz hZ
  rw [Int.mul_assoc]; omega

theorem rightChild_any (X Y Z : Int) (w : World) (h : 0 ≤ X ∧ X ≤ 1000000000 ∧ 0 ≤ Y ∧ Y ≤ 1000000000 ∧ 0 ≤ Z ∧ Z ≤ 1000000000) :
    Calls Tryd.prog 56 #[.agg #[.int .i64 X, .int .i64 Y, .int .i64 Z]] w fun e w' => e = .returned (.agg #[.int .i64 Y, .int .i64 Z, .int .i64 (3 * Y * Z - X)]) ∧ Below w.heap.size w w' := by
  obtain ⟨h1, h2, h3, h4, h5, h6⟩ := h
  obtain ⟨m1, m2⟩ := mul3_bd h3 h4 h5 h6
  go_enter Tryd.func56, Tryd.ntmps56
  go_wp2
  refine bodyPost_ret (v := .agg #[.int .i64 Y, .int .i64 Z, .int .i64 (3 * Y * Z - X)]) (by simp [results, Tryd.results56, go_sem]) rfl ⟨rfl, ?_⟩
  go_grown

theorem leftChild_any (X Y Z : Int) (w : World) (h : 0 ≤ X ∧ X ≤ 1000000000 ∧ 0 ≤ Y ∧ Y ≤ 1000000000 ∧ 0 ≤ Z ∧ Z ≤ 1000000000) :
    Calls Tryd.prog 78 #[.agg #[.int .i64 X, .int .i64 Y, .int .i64 Z]] w fun e w' => e = .returned (.agg #[.int .i64 X, .int .i64 Z, .int .i64 (3 * X * Z - Y)]) ∧ Below w.heap.size w w' := by
  obtain ⟨h1, h2, h3, h4, h5, h6⟩ := h
  obtain ⟨m1, m2⟩ := mul3_bd h1 h2 h5 h6
  go_enter Tryd.func78, Tryd.ntmps78
  go_wp2
  refine bodyPost_ret (v := .agg #[.int .i64 X, .int .i64 Z, .int .i64 (3 * X * Z - Y)]) (by simp [results, Tryd.results78, go_sem]) rfl ⟨rfl, ?_⟩
  go_grown

theorem child_any (r : Bool) (X Y Z : Int) (w : World) (h : 0 ≤ X ∧ X ≤ 1000000000 ∧ 0 ≤ Y ∧ Y ≤ 1000000000 ∧ 0 ≤ Z ∧ Z ≤ 1000000000) :
    Calls Tryd.prog 54 #[.agg #[.int .i64 X, .int .i64 Y, .int .i64 Z], .bool r] w fun e w' => e = .returned (.agg #[.int .i64 (fst r X Y), .int .i64 Z, .int .i64 (3 * fst r X Y * Z - snd r X Y)]) ∧ Below w.heap.size w w' := by
  have H := hide h
  clear h
  cases r
  · go_enter Tryd.func54, Tryd.ntmps54
    go_wp2_with fail
    refine (leftChild_any _ _ _ _ H.out).mono ?_
    rintro e w1 ⟨rfl, hb1⟩
    have hl1 : Below w.heap.size w w1 := bstep (by go_grown) hb1 (by simp; omega)
    obtain ⟨kc, kf, kz, kb⟩ := (Blk.new (w.alloc (.cells #[.int .i64 X, .int .i64 Y, .int .i64 Z] 27)) 27 #[.int .i64 0, .int .i64 0, .int .i64 0]).after hb1 (by simp)
    simp only [World.size_alloc] at kc kf kz
    go_wp2
    refine bodyPost_ret (v := .agg #[.int .i64 X, .int .i64 Z, .int .i64 (3 * X * Z - Y)]) (by simp [results, Tryd.results54, go_sem, *]) rfl ⟨rfl, ?_⟩
    go_grown
  · go_enter Tryd.func54, Tryd.ntmps54
    go_wp2_with fail
    refine (rightChild_any _ _ _ _ H.out).mono ?_
    rintro e w1 ⟨rfl, hb1⟩
    have hl1 : Below w.heap.size w w1 := bstep (by go_grown) hb1 (by simp; omega)
    obtain ⟨kc, kf, kz, kb⟩ := (Blk.new (w.alloc (.cells #[.int .i64 X, .int .i64 Y, .int .i64 Z] 27)) 27 #[.int .i64 0, .int .i64 0, .int .i64 0]).after hb1 (by simp)
    simp only [World.size_alloc] at kc kf kz
    go_wp2
    refine bodyPost_ret (v := .agg #[.int .i64 Y, .int .i64 Z, .int .i64 (3 * Y * Z - X)]) (by simp [results, Tryd.results54, go_sem, *]) rfl ⟨rfl, ?_⟩
    go_grown

theorem l22Child_any (r : Bool) (X Y Z : Int) (w : World) (h : 0 ≤ X ∧ X ≤ 1000000000 ∧ 0 ≤ Y ∧ Y ≤ 1000000000 ∧ 0 ≤ Z ∧ Z ≤ 1000000000) :
    Calls Tryd.prog 77 #[.agg #[.int .i64 X, .int .i64 Y, .int .i64 Z], .bool r] w fun e w' => e = .returned (.tuple #[.agg #[.int .i64 (fst r X Y), .int .i64 Z, .int .i64 (3 * fst r X Y * Z - snd r X Y)], .bool (decide (3 * fst r X Y * Z - snd r X Y ≤ 1000000000))]) ∧ Below w.heap.size w w' := by
  obtain ⟨h1, h2, h3, h4, h5, h6⟩ := h
  obtain ⟨m1, m2⟩ := mul3_bd h1 h2 h5 h6
  obtain ⟨m3, m4⟩ := mul3_bd h3 h4 h5 h6
  cases r
  · go_enter Tryd.func77, Tryd.ntmps77
    go_wp2
    go_region
    go_wp2
    refine bodyPost_ret (v := .tuple #[.agg #[.int .i64 X, .int .i64 Z, .int .i64 (3 * X * Z - Y)], .bool (decide (3 * X * Z - Y ≤ 1000000000))]) (by simp [results, Tryd.results77, go_sem]) rfl ⟨rfl, ?_⟩
    go_grown
  · go_enter Tryd.func77, Tryd.ntmps77
    go_wp2
    go_region
    go_wp2
    refine bodyPost_ret (v := .tuple #[.agg #[.int .i64 Y, .int .i64 Z, .int .i64 (3 * Y * Z - X)], .bool (decide (3 * Y * Z - X ≤ 1000000000))]) (by simp [results, Tryd.results77, go_sem]) rfl ⟨rfl, ?_⟩
    go_grown

theorem implTripleChild_full (r : Bool) (X Y Z : Int) (w : World) (hv : vtB X Y Z = true) (hf : 1000000000 < 3 * fst r X Y * Z - snd r X Y) :
    Calls Tryd.prog 27 #[.agg #[.int .i64 X, .int .i64 Y, .int .i64 Z], .bool r] w fun e w' => e = .returned (.tuple #[.agg #[.int .i64 0, .int .i64 0, .int .i64 0], .int .i64 5]) ∧ Below w.heap.size w w' := by
  obtain ⟨h1, h2, h3, h4⟩ := (vtB_iff.1 hv).1
  have H := hide (show 0 ≤ X ∧ X ≤ 1000000000 ∧ 0 ≤ Y ∧ Y ≤ 1000000000 ∧ 0 ≤ Z ∧ Z ≤ 1000000000 from by omega)
  go_enter Tryd.func27, Tryd.ntmps27
  go_wp2_with fail
  refine (implValidTriple_any _ _ _ _).mono ?_
  rintro e w1 ⟨rfl, hb1⟩
  have hl1 : Below w.heap.size w w1 := bstep (by go_grown) hb1 (by simp; omega)
  obtain ⟨kc0, kf0, kz0, kb0⟩ := ((Blk.new w 27 #[.int .i64 X, .int .i64 Y, .int .i64 Z]).alloc (.cells #[.int .i64 0, .int .i64 0, .int .i64 0] 27)).after hb1 (by simp; omega)
  obtain ⟨kc1, kf1, kz1, kb1⟩ := (Blk.new (w.alloc (.cells #[.int .i64 X, .int .i64 Y, .int .i64 Z] 27)) 27 #[.int .i64 0, .int .i64 0, .int .i64 0]).after hb1 (by simp)
  simp only [World.size_alloc] at kc1 kf1 kz1
  have KB := kb1
  simp only [World.size_alloc] at KB
  go_wp2_with fail
  refine (child_any _ _ _ _ _ H.out).mono ?_
  rintro e w2 ⟨rfl, hb2⟩
  have hl2 : Below w.heap.size w w2 := bstep hl1 hb2 (by omega)
  clear kc0 kf0 kc1 kf1
  obtain ⟨kc0, kf0, kz0', kb0'⟩ := kb0.out.after hb2 kz0
  obtain ⟨kc1, kf1, kz1', kb1'⟩ := KB.out.after hb2 kz1
  go_wp2
  refine bodyPost_ret (v := .tuple #[.agg #[.int .i64 0, .int .i64 0, .int .i64 0], .int .i64 5]) (by simp [results, Tryd.results27, go_sem, *]) rfl ⟨rfl, ?_⟩
  go_grown

theorem implTripleChild_ok (r : Bool) (X Y Z : Int) (w : World) (hv : vtB X Y Z = true) (hf : 3 * fst r X Y * Z - snd r X Y ≤ 1000000000) :
    Calls Tryd.prog 27 #[.agg #[.int .i64 X, .int .i64 Y, .int .i64 Z], .bool r] w fun e w' => e = .returned (.tuple #[.agg #[.int .i64 (fst r X Y), .int .i64 Z, .int .i64 (3 * fst r X Y * Z - snd r X Y)], .int .i64 0]) ∧ Below w.heap.size w w' := by
  obtain ⟨h1, h2, h3, h4⟩ := (vtB_iff.1 hv).1
  have H := hide (show 0 ≤ X ∧ X ≤ 1000000000 ∧ 0 ≤ Y ∧ Y ≤ 1000000000 ∧ 0 ≤ Z ∧ Z ≤ 1000000000 from by omega)
  go_enter Tryd.func27, Tryd.ntmps27
  go_wp2_with fail
  refine (implValidTriple_any _ _ _ _).mono ?_
  rintro e w1 ⟨rfl, hb1⟩
  have hl1 : Below w.heap.size w w1 := bstep (by go_grown) hb1 (by simp; omega)
  obtain ⟨kc0, kf0, kz0, kb0⟩ := ((Blk.new w 27 #[.int .i64 X, .int .i64 Y, .int .i64 Z]).alloc (.cells #[.int .i64 0, .int .i64 0, .int .i64 0] 27)).after hb1 (by simp; omega)
  obtain ⟨kc1, kf1, kz1, kb1⟩ := (Blk.new (w.alloc (.cells #[.int .i64 X, .int .i64 Y, .int .i64 Z] 27)) 27 #[.int .i64 0, .int .i64 0, .int .i64 0]).after hb1 (by simp)
  simp only [World.size_alloc] at kc1 kf1 kz1
  have KB := kb1
  simp only [World.size_alloc] at KB
  go_wp2_with fail
  refine (child_any _ _ _ _ _ H.out).mono ?_
  rintro e w2 ⟨rfl, hb2⟩
  have hl2 : Below w.heap.size w w2 := bstep hl1 hb2 (by omega)
  clear kc0 kf0 kc1 kf1
  obtain ⟨kc0, kf0, kz0', kb0'⟩ := kb0.out.after hb2 kz0
  obtain ⟨kc1, kf1, kz1', kb1'⟩ := KB.out.after hb2 kz1
  go_wp2
  refine bodyPost_ret (v := .tuple #[.agg #[.int .i64 (fst r X Y), .int .i64 Z, .int .i64 (3 * fst r X Y * Z - snd r X Y)], .int .i64 0]) (by simp [results, Tryd.results27, go_sem, *]) rfl ⟨rfl, ?_⟩
  go_grown

end Go.Proofs.YtikpiigamnpafaaDoor
