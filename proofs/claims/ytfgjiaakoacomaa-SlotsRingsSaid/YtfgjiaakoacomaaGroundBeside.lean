/- The tiles beside one, as ground makes them. -/
import Derived.Test.YtfgjiaakoacomaaGroundNear
namespace Go.Proofs.Ytfgjiaakoacomaa
set_option maxRecDepth 20000
open Go.RowKit

end Go.Proofs.Ytfgjiaakoacomaa
