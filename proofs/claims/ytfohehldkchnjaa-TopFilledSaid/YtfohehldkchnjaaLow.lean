/- What the walks of texts stand on, in a seat without calendars. -/
import Derived.Test.YtfohehldkchnjaaTools
import Derived.Test.YtfohehldkchnjaaNum
namespace Go.Proofs.Ytfohehldkchnjaa
open Go.RowKit
end Go.Proofs.Ytfohehldkchnjaa
