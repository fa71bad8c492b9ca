/- Fractions as the laws hand them on. -/
import Derived.Test.YthfhjgmlcilmkaaGreatDoorFrac
namespace Go.Proofs.YthfhjgmlcilmkaaGreatDoor
open Go.RowKit

end Go.Proofs.YthfhjgmlcilmkaaGreatDoor
