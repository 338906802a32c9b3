/- What the walks of texts stand on, in a seat without calendars. -/
import Derived.Test.YtfjcbclakgidkaaTools
import Derived.Test.YtfjcbclakgidkaaNum
namespace Go.Proofs.Ytfjcbclakgidkaa
open Go.RowKit
end Go.Proofs.Ytfjcbclakgidkaa
