/- Decimal forms in the program: strconv.FormatInt at base 10. -/
import Derived.Test.YtikpiigamnpafaaDoorDec
import Derived.Test.YtikpiigamnpafaaDoorShelfN
import Derived.Test.YtikpiigamnpafaaDoorSrt
import Derived.Shelf.Strconv.Itoa4
import Derived.Lib.AppendIntMem
namespace Go.Proofs.YtikpiigamnpafaaDoor
open Go.RowKit Go.Sort

/-- The table that strconv reads. -/
def Tab (w : World) : Prop := Lib.TabIs Tryd.prog w "internal/strconv.uint64pow10" .u64 Lib.pow10Tab
theorem Tab.below {w w' : World} (h : Tab w) (hb : Below w.heap.size w w') : Tab w' := Lib.tabBelow_of_tabIs h w' hb

theorem implDecimal_any (n : Int) (w : World) (hn : -9223372036854775808 ≤ n ∧ n ≤ 9223372036854775807) (ht : Tab w) :
    Calls Tryd.prog 35 #[.int .i64 n] w fun e w' => e = .returned (str (Lib.itoa n)) ∧ Below w.heap.size w w' := by
  go_enter Tryd.func35, Tryd.ntmps35
  go_wp2_with fail
  refine (Any.strconv_FormatInt_10 Tryd.lays173 n hn.1 hn.2 _ ht).mono ?_
  rintro e w1 ⟨rfl, k, os, rfl⟩
  go_wp2_with fail
  go_ret
  exact ⟨rfl, grow_below w k os⟩

end Go.Proofs.YtikpiigamnpafaaDoor
