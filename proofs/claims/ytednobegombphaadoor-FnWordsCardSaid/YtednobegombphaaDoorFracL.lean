/- Fractions as the laws hand them on. -/
import Derived.Test.YtednobegombphaaDoorFrac
namespace Go.Proofs.YtednobegombphaaDoor
open Go.RowKit

end Go.Proofs.YtednobegombphaaDoor
