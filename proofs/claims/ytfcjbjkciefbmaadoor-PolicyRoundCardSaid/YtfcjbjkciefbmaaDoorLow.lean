/- What the walks of texts stand on, in a seat without calendars. -/
import Derived.Test.YtfcjbjkciefbmaaDoorTools
import Derived.Test.YtfcjbjkciefbmaaDoorNum
namespace Go.Proofs.YtfcjbjkciefbmaaDoor
open Go.RowKit
end Go.Proofs.YtfcjbjkciefbmaaDoor
