/- BezoutOf and the least solution: the program agrees with the reference. -/
import Derived.Test.YtikpiigamnpafaaLin2
import Derived.Test.YtikpiigamnpafaaBez2
namespace Go.Proofs.Ytikpiigamnpafaa
open Go.RowKit

def bzo (a b : Int) : Value := if cfB a && cfB b then .tuple #[.int .i64 (bzX a b), .int .i64 (bzY a b), .int .i64 (Int.gcd a b : Nat), .int .i64 0] else .tuple #[.int .i64 0, .int .i64 0, .int .i64 0, .int .i64 2]

end Go.Proofs.Ytikpiigamnpafaa
