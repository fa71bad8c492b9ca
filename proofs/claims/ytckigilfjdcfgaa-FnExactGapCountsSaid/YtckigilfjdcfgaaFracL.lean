/- Fractions as the laws hand them on. -/
import Derived.Test.YtckigilfjdcfgaaFrac
namespace Go.Proofs.Ytckigilfjdcfgaa
open Go.RowKit

theorem toFraction_any (p q : Int) (w : World) :
    Calls Try.prog 14 #[.agg #[.int .i64 p, .int .i64 q]] w fun e w' => e = .returned (.agg #[.int .i64 p, .int .i64 q]) ∧ Below w.heap.size w w' := by
  go_enter Try.func14, Try.ntmps14
  go_wp2
  refine bodyPost_ret (v := .agg #[.int .i64 p, .int .i64 q]) (by simp [results, Try.results14, go_sem]) rfl ⟨rfl, ?_⟩
  go_grown

end Go.Proofs.Ytckigilfjdcfgaa
