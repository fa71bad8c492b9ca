/- Children of triples. -/
import Derived.Test.YtjmllmadoelioaaMk2
import Derived.RegionTactic
namespace Go.Proofs.Ytjmllmadoelioaa
open Go.RowKit

/-- The child's first number, and the number that is struck. -/
def fst (r : Bool) (X Y : Int) : Int := match r with | true => Y | false => X

def snd (r : Bool) (X Y : Int) : Int := match r with | true => X | false => Y

theorem mul3_bd {a Z : Int} (ha : 0 ≤ a) (hA : a ≤ 1000000000) (hz : 0 ≤ Z) (hZ : Z ≤ 1000000000) : 0 ≤ 3 * a * Z ∧ 3 * a * Z ≤ 3000000000000000000 := by
  have := mul_bd ha hA hz hZ
  rw [Int.mul_assoc]; omega

theorem rightChild_any (X Y Z : Int) (w : World) (h : 0 ≤ X ∧ X ≤ 1000000000 ∧ 0 ≤ Y ∧ Y ≤ 1000000000 ∧ 0 ≤ Z ∧ Z ≤ 1000000000) :
    Calls Try.prog 42 #[.agg #[.int .i64 X, .int .i64 Y, .int .i64 Z]] w fun e w' => e = .returned (.agg #[.int .i64 Y, .int .i64 Z, .int .i64 (3 * Y * Z - X)]) ∧ Below w.heap.size w w' := by
  obtain ⟨h1, h2, h3, h4, h5, h6⟩ := h
  obtain ⟨m1, m2⟩ := mul3_bd h3 h4 h5 h6
  go_enter Try.func42, Try.ntmps42
  go_wp2
  refine bodyPost_ret (v := .agg #[.int .i64 Y, .int .i64 Z, .int .i64 (3 * Y * Z - X)]) (by simp [results, Try.results42, go_sem]) rfl ⟨rfl, ?_⟩
  go_grown

theorem leftChild_any (X Y Z : Int) (w : World) (h : 0 ≤ X ∧ X ≤ 1000000000 ∧ 0 ≤ Y ∧ Y ≤ 1000000000 ∧ 0 ≤ Z ∧ Z ≤ 1000000000) :
    Calls Try.prog 63 #[.agg #[.int .i64 X, .int .i64 Y, .int .i64 Z]] w fun e w' => e = .returned (.agg #[.int .i64 X, .int .i64 Z, .int .i64 (3 * X * Z - Y)]) ∧ Below w.heap.size w w' := by
  obtain ⟨h1, h2, h3, h4, h5, h6⟩ := h
  obtain ⟨m1, m2⟩ := mul3_bd h1 h2 h5 h6
  go_enter Try.func63, Try.ntmps63
  go_wp2
  refine bodyPost_ret (v := .agg #[.int .i64 X, .int .i64 Z, .int .i64 (3 * X * Z - Y)]) (by simp [results, Try.results63, go_sem]) rfl ⟨rfl, ?_⟩
  go_grown

theorem l22Child_any (r : Bool) (X Y Z : Int) (w : World) (h : 0 ≤ X ∧ X ≤ 1000000000 ∧ 0 ≤ Y ∧ Y ≤ 1000000000 ∧ 0 ≤ Z ∧ Z ≤ 1000000000) :
    Calls Try.prog 71 #[.agg #[.int .i64 X, .int .i64 Y, .int .i64 Z], .bool r] w fun e w' => e = .returned (.tuple #[.agg #[.int .i64 (fst r X Y), .int .i64 Z, .int .i64 (3 * fst r X Y * Z - snd r X Y)], .bool (decide (3 * fst r X Y * Z - snd r X Y ≤ 1000000000))]) ∧ Below w.heap.size w w' := by
  obtain ⟨h1, h2, h3, h4, h5, h6⟩ := h
  obtain ⟨m1, m2⟩ := mul3_bd h1 h2 h5 h6
  obtain ⟨m3, m4⟩ := mul3_bd h3 h4 h5 h6
  cases r
  · go_enter Try.func71, Try.ntmps71
    go_wp2
    go_region
    go_wp2
    refine bodyPost_ret (v := .tuple #[.agg #[.int .i64 X, .int .i64 Z, .int .i64 (3 * X * Z - Y)], .bool (decide (3 * X * Z - Y ≤ 1000000000))]) (by simp [results, Try.results71, go_sem]) rfl ⟨rfl, ?_⟩
    go_grown
  · go_enter Try.func71, Try.ntmps71
    go_wp2
    go_region
    go_wp2
    refine bodyPost_ret (v := .tuple #[.agg #[.int .i64 Y, .int .i64 Z, .int .i64 (3 * Y * Z - X)], .bool (decide (3 * Y * Z - X ≤ 1000000000))]) (by simp [results, Try.results71, go_sem]) rfl ⟨rfl, ?_⟩
    go_grown

end Go.Proofs.Ytjmllmadoelioaa
