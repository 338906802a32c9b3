/- The walk of know.checkEntry. -/
import Derived.Test.YtfjcbclakgidkaaIaPln
namespace Go.Proofs.Ytfjcbclakgidkaa
open Go.RowKit

/-- what know.checkEntry says of an entry behind one with this number -/
def entE (v : EnD) (before : Int) : Int := if v.1 < 1 ∨ 3000000 < v.1 then 2 else if v.1 ≤ before then 5 else textE v.2.1 v.2.2
set_option maxRecDepth 100000 in
set_option maxHeartbeats 1000000 in
theorem checkEntry_any (i : Int) (t b : ByteArray) (before : Int) (w : World) : Calls Try.prog 16 #[.agg #[.int .i64 i, .string t, .string b], .int .i64 before] w fun e w' => e = .returned (.int .i64 (entE (i, t.data.toList, b.data.toList) before)) ∧ Below w.heap.size w w' := by
  have HX := Lib.hid (Has.new w #[.int .i64 i, .string t, .string b] 24)
  have HB := Lib.hid ((Below.refl w.heap.size w).alloc (Nat.le_refl _) (.cells #[.int .i64 i, .string t, .string b] 24))
  go_enter Try.func16, Try.ntmps16
  have x0 := HX.out.cell 0
  have x1 := HX.out.cell 1
  have x2 := HX.out.cell 2
  go_wp2_with fail
  refine (within_any i 1 3000000 _).mono ?_
  rintro e w2 ⟨rfl, rfl⟩
  have HT := Lib.hid (checkText_any t b)
  by_cases h1 : i < 1 ∨ 3000000 < i
  · have hE : entE (i, t.data.toList, b.data.toList) before = 2 := if_pos h1
    have HE := Lib.hid hE
    have q1 : (decide (1 ≤ i) && decide (i ≤ 3000000)) = false := by rw [Bool.and_eq_false_iff, decide_eq_false_iff_not, decide_eq_false_iff_not]; omega
    rw [q1]
    clear hE
    go_wp2_with fail
    go_ret
    exact ⟨by rw [HE.out]; rfl, HB.out⟩
  have q1 : (decide (1 ≤ i) && decide (i ≤ 3000000)) = true := by rw [Bool.and_eq_true, decide_eq_true_iff, decide_eq_true_iff]; omega
  rw [q1]
  clear q1
  by_cases h2 : i ≤ before
  · have hE : entE (i, t.data.toList, b.data.toList) before = 5 := (if_neg h1).trans (if_pos h2)
    have HE := Lib.hid hE
    have q2 : decide (i ≤ before) = true := decide_eq_true h2
    clear hE
    go_wp2_with fail
    go_ret
    exact ⟨by rw [HE.out]; rfl, HB.out⟩
  have hE : entE (i, t.data.toList, b.data.toList) before = textE t.data.toList b.data.toList := (if_neg h1).trans (if_neg h2)
  have HE := Lib.hid hE
  have q2 : decide (i ≤ before) = false := decide_eq_false h2
  clear hE
  go_wp2_with fail
  refine (HT.out _).mono ?_
  rintro e w3 ⟨rfl, rfl⟩
  go_wp2_with fail
  go_ret
  exact ⟨by rw [HE.out]; rfl, HB.out⟩
end Go.Proofs.Ytfjcbclakgidkaa
