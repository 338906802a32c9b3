/- The walks of cal's zones: OffsetAt before time begins, Local; the look whether the package is there. -/
import Derived.Test.YtemikhnkjligdaaGreatDoorQZone2
namespace Go.Proofs.YtemikhnkjligdaaGreatDoor
open Go.RowKit

theorem changes_nil (w : World) : Changes w (.slice none 0 0) [] := .inl ⟨none, 0, rfl, rfl⟩

def LocalPost (off : Int) (cs : List (Int × Int)) (m : Int) (w : World) (e : Ending) (w' : World) : Prop :=
  ∃ d mi c : Int, e = .returned (.tuple #[.int .i64 d, .int .i64 mi, .int .i64 c]) ∧ Below w.heap.size w w' ∧ (c ≠ 0 ∨ (c = 0 ∧ ZoneOk off cs ∧ 0 ≤ m ∧ m ≤ 3000000 ∧ d = (m + offAt m off cs) / 1440 ∧ mi = (m + offAt m off cs) % 1440))

end Go.Proofs.YtemikhnkjligdaaGreatDoor
