/- What the walks of texts stand on, in a seat without calendars. -/
import Derived.Test.YtefdijgglakccaaDoorTools
import Derived.Test.YtefdijgglakccaaDoorNum
namespace Go.Proofs.YtefdijgglakccaaDoor
open Go.RowKit
end Go.Proofs.YtefdijgglakccaaDoor
