/- Fractions as the laws hand them on. -/
import Derived.Test.YtnjilpldfidbjaaFrac
namespace Go.Proofs.Ytnjilpldfidbjaa
open Go.RowKit

end Go.Proofs.Ytnjilpldfidbjaa
