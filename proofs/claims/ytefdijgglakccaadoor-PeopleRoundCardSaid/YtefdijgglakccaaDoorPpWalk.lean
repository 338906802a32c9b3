/- The walk of portkeep2.PeopleRound. -/
import Derived.Test.YtefdijgglakccaaDoorPpRead2
namespace Go.Proofs.YtefdijgglakccaaDoor
open Go.RowKit

set_option maxRecDepth 100000 in
set_option maxHeartbeats 4000000 in
theorem people_walk (l : List PerD) (v : Value) (w : World) (h : Pers w v l) (hE : Env w) :
    Calls Tryd.prog 3 #[v] w (fun e w' => e = .returned (.bool true) ∧ Below w.heap.size w w') := by
  have H := Lib.hid h
  have HE := Lib.hid hE
  obtain ⟨a, cap, rfl⟩ := SliceAt.len h
  clear h hE
  go_enter Tryd.func3, Tryd.ntmps3
  go_wp2_with fail
  refine (awakeRoute_any w HE.out).mono ?_
  rintro e w3 ⟨rfl, hb3⟩
  have HB3 := Lib.hid hb3
  clear hb3
  go_wp2_with fail
  refine (PeopleText_any l _ w3 (H.out.below HB3.out) (HE.out.below HB3.out)).mono ?_
  rintro e w4 ⟨s, k, rfl, hb4, hc1, hc2, hc3⟩
  have HB4 := Lib.hid (below_up HB3.out hb4 HB3.out.size)
  clear hb4
  by_cases hk : k = 0
  · subst hk
    obtain ⟨hF, rfl⟩ := hc2 rfl
    have HF := Lib.hid hF
    clear hc1 hc2 hc3 hF
    have HRD := Lib.hid (ReadPeople_ok l w4 HF.out (HE.out.below HB4.out))
    generalize hT : bs (textP l) = T at *
    go_wp2_with fail
    refine HRD.out.mono ?_
    rintro e w5 ⟨u, rfl, hca, hb5⟩
    obtain ⟨ua, uc, rfl⟩ := SliceAt.len hca
    have HB5 := Lib.hid (below_up HB4.out hb5 HB4.out.size)
    have HCA := Lib.hid hca
    clear hca hb5 HRD
    go_wp2_with fail
    refine (PeopleText_any l _ w5 HCA.out (HE.out.below HB5.out)).mono ?_
    rintro e w7 ⟨s, k, rfl, hb7, hc1, hc2, hc3⟩
    have HB7 := Lib.hid (below_up HB5.out hb7 HB5.out.size)
    obtain rfl : k = 0 := hc3 HF.out
    obtain rfl : s = T := by rw [← hT]; exact (hc2 rfl).2
    clear hb7 hc1 hc2 hc3 HF hT
    go_wp2_with fail
    go_ret
    exact ⟨by simp, HB7.out⟩
  · have hs := hc1 hk
    subst hs
    have q0 : (k == 0) = false := by simpa using hk
    have q1 : (k != 0) = true := by simpa using hk
    clear hc1 hc2 hc3 hk
    go_wp2_with fail
    go_ret
    exact ⟨by simp, HB4.out⟩
end Go.Proofs.YtefdijgglakccaaDoor
