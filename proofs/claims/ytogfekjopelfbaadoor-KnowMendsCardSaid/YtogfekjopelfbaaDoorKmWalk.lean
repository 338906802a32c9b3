/- The walk of the law portkeep2.KnowMends. -/
import Derived.Test.YtogfekjopelfbaaDoorKmPat2
namespace Go.Proofs.YtogfekjopelfbaaDoor
open Go.RowKit

theorem awakeKnow_any (w : World) : Calls Tryd.prog 4 #[] w fun e w' => e = .returned (.bool true) ∧ Below w.heap.size w w' := by
  go_enter Tryd.func4, Tryd.ntmps4
  go_wp2_with fail
  refine (Words_any _ _ (by decide)).mono ?_
  rintro e w1 ⟨a, c, rfl, _, hb⟩
  have h1 : (wordsS { data := #[97] }).length = 1 := by decide
  rw [h1]
  go_wp2
  go_ret
  exact ⟨rfl, hb⟩

theorem Differ_any (a b : ByteArray) (w : World) (hE : EnvM w) : Calls Tryd.prog 5 #[.string a, .string b] w (DiffPost a b w) := by
  by_cases h : bodyE a = 0 ∧ bodyE b = 0
  · exact Differ_ok a b w hE h.1 h.2
  · exact Differ_no a b w hE h

set_option maxRecDepth 100000 in
set_option maxHeartbeats 1000000 in
/-- THE WALK of the law -/
theorem km_walk (a b : ByteArray) (w : World) (hE : EnvM w) :
    Calls Tryd.prog 3 #[.string a, .string b] w fun e w' => e = .returned (.bool true) ∧ Below w.heap.size w w' := by
  have HE := Lib.hid hE
  clear hE
  go_enter Tryd.func3, Tryd.ntmps3
  go_wp2_with fail
  refine (awakeKnow_any _).mono ?_
  rintro e w1 ⟨rfl, hb1⟩
  go_wp2_with fail
  refine (Differ_any a b w1 (HE.out.below hb1)).mono ?_
  rintro e w2 ⟨oa, n, oc, code, rfl, hb2, hcase⟩
  have HB2 := Lib.hid (below_up hb1 hb2 hb1.size)
  clear hb1 hb2
  rcases hcase with ⟨hc, rfl⟩ | ⟨rfl, ha, hb, es, rfl, hM, hs⟩
  · have q0 : (code == 0) = false := by simpa using hc
    have q1 : (code != 0) = true := by simpa using hc
    clear hc
    go_wp2_with fail
    go_ret
    exact ⟨rfl, HB2.out⟩
  · have hp := Patch_ok a b _ es w2 (HE.out.below HB2.out) hs ha hb hM
    have HP := Lib.hid hp
    have hbb : (b.toList == b.toList) = true := by simp
    have hab : (((es.length : Int) == 0) == (a.toList == b.toList)) = true := by
      by_cases he : es = []
      · have e : a = b := (linesB_ok a).inj (by rw [hM.none.1 he]; exact linesB_ok b)
        subst e
        rw [he]
        simp
      · have h1 : ((es.length : Int) == 0) = false := by
          rw [beq_eq_false_iff_ne]
          intro q
          exact he (List.eq_nil_of_length_eq_zero (by omega))
        have h2 : (a.toList == b.toList) = false := by
          rw [beq_eq_false_iff_ne, Lib.toList_data, Lib.toList_data]
          intro q
          have e := bytes_ext q
          subst e
          exact he (hM.none.2 rfl)
        rw [h1, h2]
        rfl
    have HAB := Lib.hid hab
    clear hp hab hM hs ha hb
    go_wp2_with fail
    refine HP.out.mono ?_
    rintro e w3 ⟨rfl, hb3⟩
    have HB3 := Lib.hid (below_up HB2.out hb3 HB2.out.size)
    clear hb3
    go_wp2_with fail
    go_ret
    exact ⟨show Ending.returned (.bool (((es.length : Int) == 0) == (a.toList == b.toList))) = _ from by rw [HAB.out], HB3.out⟩

end Go.Proofs.YtogfekjopelfbaaDoor
