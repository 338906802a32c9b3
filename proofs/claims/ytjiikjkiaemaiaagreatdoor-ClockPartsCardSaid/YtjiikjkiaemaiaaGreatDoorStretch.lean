/- The walks of cal.stretch and cal.workOf. -/
import Derived.Test.YtjiikjkiaemaiaaGreatDoorShOf
namespace Go.Proofs.YtjiikjkiaemaiaaGreatDoor
open Go.RowKit

def strI (f t : Int) : Int := if 0 ≤ f ∧ f ≤ 3000000 ∧ 0 ≤ t ∧ t ≤ 3000001 then (if t < f then 5 else 0) else 2
theorem strI_zero (f t : Int) : strI f t = 0 ↔ 0 ≤ f ∧ f ≤ 3000000 ∧ f ≤ t ∧ t ≤ 3000001 := by
  unfold strI
  repeat' split
  all_goals omega
theorem stretch_any (f t : Int) (w : World) :
    Calls Tryz.prog 22 #[.int .i64 f, .int .i64 t] w fun e w' => e = .returned (.int .i64 (strI f t)) ∧ w = w' := by
  by_cases h1 : 0 ≤ f ∧ f ≤ 3000000
  · have q1 : (decide ((0 : Int) ≤ f) && decide (f ≤ 3000000)) = true := by simpa using h1
    by_cases h2 : 0 ≤ t ∧ t ≤ 3000001
    · have q2 : (decide ((0 : Int) ≤ t) && decide (t ≤ 3000001)) = true := by simpa using h2
      by_cases h3 : t < f
      · have q3 : decide (t < f) = true := decide_eq_true h3
        have HC := Lib.hid (show 5 = strI f t by unfold strI; rw [if_pos (by omega), if_pos h3])
        clear h1 h2 h3
        go_enter Tryz.func22, Tryz.ntmps22
        go_wp2_with (go_at_call 37; refine (within_any _ _ _ _).mono ?_; rintro e w' ⟨rfl, rfl⟩)
        go_ret
        exact ⟨ret_int HC.out, rfl⟩
      · have q3 : decide (t < f) = false := decide_eq_false h3
        have HC := Lib.hid (show 0 = strI f t by unfold strI; rw [if_pos (by omega), if_neg h3])
        clear h1 h2 h3
        go_enter Tryz.func22, Tryz.ntmps22
        go_wp2_with (go_at_call 37; refine (within_any _ _ _ _).mono ?_; rintro e w' ⟨rfl, rfl⟩)
        go_ret
        exact ⟨ret_int HC.out, rfl⟩
    · have q2 : (decide ((0 : Int) ≤ t) && decide (t ≤ 3000001)) = false := by simp; omega
      have HC := Lib.hid (show 2 = strI f t by unfold strI; rw [if_neg (by omega)])
      clear h1 h2
      go_enter Tryz.func22, Tryz.ntmps22
      go_wp2_with (go_at_call 37; refine (within_any _ _ _ _).mono ?_; rintro e w' ⟨rfl, rfl⟩)
      go_ret
      exact ⟨ret_int HC.out, rfl⟩
  · have q1 : (decide ((0 : Int) ≤ f) && decide (f ≤ 3000000)) = false := by simp; omega
    have HC := Lib.hid (show 2 = strI f t by unfold strI; rw [if_neg (by omega)])
    clear h1
    go_enter Tryz.func22, Tryz.ntmps22
    go_wp2_with (go_at_call 37; refine (within_any _ _ _ _).mono ?_; rintro e w' ⟨rfl, rfl⟩)
    go_ret
    exact ⟨ret_int HC.out, rfl⟩
def wkI (n : Int) : Int := if 0 ≤ n ∧ n ≤ 3000001 then 0 else 2
end Go.Proofs.YtjiikjkiaemaiaaGreatDoor
