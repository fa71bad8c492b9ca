/- The steps of convergents in the reference. -/
import Derived.Test.YtnjilpldfidbjaaBlk
namespace Go.Proofs.Ytnjilpldfidbjaa
open Go.RowKit

theorem l03New_any (w : World) :
    Calls Try.prog 63 #[] w fun e w' => e = .returned (.agg #[.int .i64 1, .int .i64 0, .int .i64 0, .int .i64 1]) ∧ Below w.heap.size w w' := by
  go_enter Try.func63, Try.ntmps63
  go_wp2
  refine bodyPost_ret (v := .agg #[.int .i64 1, .int .i64 0, .int .i64 0, .int .i64 1]) (by simp [results, Try.results63, go_sem]) rfl ⟨rfl, ?_⟩
  go_grown

theorem next_any (p q pp qq t : Int) (w : World) (h1 : -9223372036854775808 ≤ t * p ∧ t * p ≤ 9223372036854775807) (h2 : -9223372036854775808 ≤ t * p + pp ∧ t * p + pp ≤ 9223372036854775807)
    (h3 : -9223372036854775808 ≤ t * q ∧ t * q ≤ 9223372036854775807) (h4 : -9223372036854775808 ≤ t * q + qq ∧ t * q + qq ≤ 9223372036854775807) :
    Calls Try.prog 64 #[.agg #[.int .i64 p, .int .i64 q, .int .i64 pp, .int .i64 qq], .int .i64 t] w fun e w' => e = .returned (.agg #[.int .i64 (t * p + pp), .int .i64 (t * q + qq), .int .i64 p, .int .i64 q]) ∧ Below w.heap.size w w' := by
  generalize hA : t * p = A at *
  generalize hB : t * q = B at *
  go_enter Try.func64, Try.ntmps64
  go_wp2
  refine bodyPost_ret (v := .agg #[.int .i64 (A + pp), .int .i64 (B + qq), .int .i64 p, .int .i64 q]) (by simp [results, Try.results64, go_sem]) rfl ⟨rfl, ?_⟩
  go_grown

end Go.Proofs.Ytnjilpldfidbjaa
