/- Two fractions that are the same. -/
import Derived.Test.YtpagfikhcmeciaaBase
namespace Go.Proofs.Ytpagfikhcmeciaa
open Go.RowKit

end Go.Proofs.Ytpagfikhcmeciaa
