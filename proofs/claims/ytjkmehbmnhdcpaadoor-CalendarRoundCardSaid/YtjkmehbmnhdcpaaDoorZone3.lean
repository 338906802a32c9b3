/- The walks of cal's zones: OffsetAt before time begins, Local; the look whether the package is there. -/
import Derived.Test.YtjkmehbmnhdcpaaDoorZone2
namespace Go.Proofs.YtjkmehbmnhdcpaaDoor
open Go.RowKit

theorem changes_nil (w : World) : Changes w (.slice none 0 0) [] := .inl ⟨none, 0, rfl, rfl⟩

set_option maxRecDepth 100000 in
set_option maxHeartbeats 1000000 in
theorem OffsetAt_no (w : World) :
    Calls Tryd.prog 7 #[.agg #[.int .i64 0, .slice none 0 0], .int .i64 (-1)] w fun e w' => e = .returned (.tuple #[.int .i64 0, .int .i64 2]) ∧ Below w.heap.size w w' := by
  have hz := CheckZone_any 0 (.slice none 0 0) [] (w.alloc (.cells #[.int .i64 0, .slice none 0 0] 24)) (changes_nil _)
  rw [show zcode 0 [] = 0 from by decide] at hz
  have HZ := Lib.hid hz
  clear hz
  go_enter Tryd.func7, Tryd.ntmps7
  go_wp2_with fail
  refine HZ.out.mono ?_
  rintro e w1 ⟨rfl, hb1⟩
  have HB1 := Lib.hid (below_up ((Below.refl _ _).alloc (Nat.le_refl _) _) hb1 (by simp))
  clear hb1
  go_wp2_with fail
  refine (moment_any _ _).mono ?_
  rintro e w2 ⟨rfl, rfl⟩
  rw [show momI (-1) = 2 from by decide]
  go_wp2_with fail
  refine (or_any _ [0, 2] _ (ints2_at w1 _ _ _) (by simp)).mono ?_
  rintro e w2 ⟨rfl, rfl⟩
  rw [show orI [0, 2] = 2 from by decide]
  go_wp2_with fail
  go_ret2
  exact ⟨rfl, HB1.out.alloc HB1.out.size _⟩

set_option maxRecDepth 100000 in
theorem awake_any (w : World) : Calls Tryd.prog 4 #[] w fun e w' => e = .returned (.bool true) ∧ Below w.heap.size w w' := by
  go_enter Tryd.func4, Tryd.ntmps4
  go_wp2_with fail
  refine (OffsetAt_no w).mono ?_
  rintro e w1 ⟨rfl, hb⟩
  go_wp2
  go_ret
  exact ⟨rfl, hb⟩

def LocalPost (off : Int) (cs : List (Int × Int)) (m : Int) (w : World) (e : Ending) (w' : World) : Prop :=
  ∃ d mi c : Int, e = .returned (.tuple #[.int .i64 d, .int .i64 mi, .int .i64 c]) ∧ Below w.heap.size w w' ∧ (c ≠ 0 ∨ (c = 0 ∧ ZoneOk off cs ∧ 0 ≤ m ∧ m ≤ 3000000 ∧ d = (m + offAt m off cs) / 1440 ∧ mi = (m + offAt m off cs) % 1440))

end Go.Proofs.YtjkmehbmnhdcpaaDoor
