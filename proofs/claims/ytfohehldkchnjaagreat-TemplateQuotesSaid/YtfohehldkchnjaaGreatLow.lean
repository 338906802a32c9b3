/- What the walks of texts stand on, in a seat without calendars. -/
import Derived.Test.YtfohehldkchnjaaGreatTools
import Derived.Test.YtfohehldkchnjaaGreatNum
namespace Go.Proofs.YtfohehldkchnjaaGreat
open Go.RowKit
end Go.Proofs.YtfohehldkchnjaaGreat
