/- Two fractions that are the same. -/
import Derived.Test.YtnjilpldfidbjaaBase
namespace Go.Proofs.Ytnjilpldfidbjaa
open Go.RowKit

end Go.Proofs.Ytnjilpldfidbjaa
