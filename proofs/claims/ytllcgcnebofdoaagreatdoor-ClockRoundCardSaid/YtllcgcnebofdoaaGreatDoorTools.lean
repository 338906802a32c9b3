/- Tools of the walks, in a seat of calendars. -/
import Derived.Test.YtllcgcnebofdoaaGreatDoorRows
import Derived.Test.YtllcgcnebofdoaaGreatDoorCalChk
import Derived.BigQuiet
import Derived.Deep.QuietTactic
import Derived.Deep.DeepCutAuto
import Derived.Deep.CutBlock
import Derived.Deep.LoopGhost
import Derived.Deep.RegionHeld3
import Derived.Laws.ResultCell
import Derived.OwnWalk
namespace Go.Proofs.YtllcgcnebofdoaaGreatDoor
open Go.RowKit

theorem infoInt : (Tryz.prog.info? 3).map (fun i => (i.zero, i.size, i.bytes)) = some (some (.int .i64 0), 1, 8) := by kernel_rfl
end Go.Proofs.YtllcgcnebofdoaaGreatDoor
