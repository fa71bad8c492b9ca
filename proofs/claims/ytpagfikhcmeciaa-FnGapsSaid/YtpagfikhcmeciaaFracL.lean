/- Fractions as the laws hand them on. -/
import Derived.Test.YtpagfikhcmeciaaFrac
namespace Go.Proofs.Ytpagfikhcmeciaa
open Go.RowKit

end Go.Proofs.Ytpagfikhcmeciaa
