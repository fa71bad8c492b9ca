/- Two fractions that are the same. -/
import Derived.Test.YtjmllmadoelioaaBase
namespace Go.Proofs.Ytjmllmadoelioaa
open Go.RowKit

theorem eqFraction_any (p q : Int) (w : World) :
    Calls Try.prog 28 #[.agg #[.int .i64 p, .int .i64 q], .agg #[.int .i64 p, .int .i64 q]] w fun e w' => e = .returned (.bool true) ∧ Below w.heap.size w w' := by
  go_enter Try.func28, Try.ntmps28
  go_wp2
  go_ret
  exact ⟨rfl, by go_grown⟩

end Go.Proofs.Ytjmllmadoelioaa
