/- The walks of cal.stretch and cal.workOf. -/
import Derived.Test.YtemikhnkjligdaaGreatDoorQShOf
namespace Go.Proofs.YtemikhnkjligdaaGreatDoor
open Go.RowKit

def strI (f t : Int) : Int := if 0 ≤ f ∧ f ≤ 3000000 ∧ 0 ≤ t ∧ t ≤ 3000001 then (if t < f then 5 else 0) else 2
theorem strI_zero (f t : Int) : strI f t = 0 ↔ 0 ≤ f ∧ f ≤ 3000000 ∧ f ≤ t ∧ t ≤ 3000001 := by
  unfold strI
  repeat' split
  all_goals omega
def wkI (n : Int) : Int := if 0 ≤ n ∧ n ≤ 3000001 then 0 else 2
end Go.Proofs.YtemikhnkjligdaaGreatDoor
