/- The walk of portkeep2.PolicyRound. -/
import Derived.Test.YtfcjbjkciefbmaaDoorPoRead
import Derived.Test.YtfcjbjkciefbmaaDoorPoText2
namespace Go.Proofs.YtfcjbjkciefbmaaDoor
open Go.RowKit

set_option maxRecDepth 100000 in
set_option maxHeartbeats 4000000 in
theorem policy_walk (p : PolD) (vp vl : Value) (w : World) (h : PolAt w vp vl p) (hE : Env w) :
    Calls Tryd.prog 3 #[.agg #[vp, vl]] w (fun e w' => e = .returned (.bool true) ∧ Below w.heap.size w w') := by
  have HE := Lib.hid hE
  obtain ⟨pa, pn, pc, rfl⟩ : ∃ a n c, vp = .slice a n c := by
    obtain ⟨a, c, e⟩ := SliceAt.len h.pauses
    exact ⟨a, _, c, e⟩
  obtain ⟨la, ln, lc, rfl⟩ : ∃ a n c, vl = .slice a n c := by
    obtain ⟨a, c, e⟩ := SliceAt.len h.levs
    exact ⟨a, _, c, e⟩
  have hbx := box1 w #[.slice pa pn pc, .slice la ln lc] 25
  have H := Lib.hid (h.below hbx.2)
  have HX := Lib.hid hbx.1
  have HB := Lib.hid hbx.2
  clear h hE hbx
  go_enter Tryd.func3, Tryd.ntmps3
  go_upto_region 1 with fail
  generalize w.alloc (.cells #[.slice pa pn pc, .slice la ln lc] 25) = w2 at *
  go_wp2_with fail
  refine (awakeLevel_any w2 (HE.out.below HB.out)).mono ?_
  rintro e w3 ⟨rfl, hb3⟩
  have HB3 := Lib.hid (below_up HB.out hb3 HB.out.size)
  have HX3 := Lib.hid (HX.out.below hb3 HX.out.lt)
  have H3 := Lib.hid (H.out.below hb3)
  have k0 := HX3.out.cell 0
  have k1 := HX3.out.cell 1
  clear hb3 HX HB H
  go_wp2_with fail
  refine (PolicyText_any p _ _ w3 H3.out (HE.out.below HB3.out)).mono ?_
  rintro e w4 ⟨s, k, rfl, hb4, hc1, hc2, hc3⟩
  have HB4 := Lib.hid (below_up HB3.out hb4 HB3.out.size)
  clear hb4 k0 k1
  by_cases hk : k = 0
  · subst hk
    obtain ⟨hP, hN, rfl⟩ := hc2 rfl
    have HP := Lib.hid hP
    have HN := Lib.hid hN
    have hsz := pol_short hP hN
    have q0 : decide (400000 < ((bs (textI (polIts p))).size : Int)) = false := by rw [bs_size]; simp; omega
    have q1 : decide (400000 < (bs (textI (polIts p))).size) = false := by rw [bs_size]; simp; omega
    clear hc1 hc2 hc3 hP hN hsz
    have HRD := Lib.hid (ReadPolicy_ok p w4 HP.out HN.out (HE.out.below HB4.out))
    generalize hT : bs (textI (polIts p)) = T at *
    have HT := Lib.hid hT
    clear hT
    go_wp2_with fail
    refine HRD.out.mono ?_
    rintro e w5 ⟨vp2, vl2, rfl, hpo, hb5⟩
    obtain ⟨pa2, pn2, pc2, rfl⟩ : ∃ a n c, vp2 = .slice a n c := by
      obtain ⟨a, c, e⟩ := SliceAt.len hpo.pauses
      exact ⟨a, _, c, e⟩
    obtain ⟨la2, ln2, lc2, rfl⟩ : ∃ a n c, vl2 = .slice a n c := by
      obtain ⟨a, c, e⟩ := SliceAt.len hpo.levs
      exact ⟨a, _, c, e⟩
    have HB5 := Lib.hid (below_up HB4.out hb5 HB4.out.size)
    have HP5 := Lib.hid hpo
    clear hb5 hpo HRD
    go_upto_region 7 with fail
    obtain ⟨bx, bbl⟩ := box1 w5 #[.slice pa2 pn2 pc2, .slice la2 ln2 lc2] 25
    have HB6 := Lib.hid (below_up HB5.out bbl HB5.out.size)
    have HP6 := Lib.hid (HP5.out.below bbl)
    have n0 := bx.cell 0
    have n1 := bx.cell 1
    clear bx bbl HB5 HP5
    generalize w5.alloc (.cells #[.slice pa2 pn2 pc2, .slice la2 ln2 lc2] 25) = w6 at *
    go_wp2_with fail
    refine (PolicyText_any p _ _ w6 HP6.out (HE.out.below HB6.out)).mono ?_
    rintro e w7 ⟨s, k, rfl, hb7, hc1, hc2, hc3⟩
    have HB7 := Lib.hid (below_up HB6.out hb7 HB6.out.size)
    obtain rfl : k = 0 := hc3 HP.out HN.out
    obtain rfl : s = T := by rw [← HT.out]; exact (hc2 rfl).2.2
    clear hb7 hc1 hc2 hc3 HT
    go_wp2_with fail
    go_ret
    exact ⟨by simp, HB7.out⟩
  · have hs := hc1 hk
    subst hs
    have q0 : (k == 0) = false := by simpa using hk
    have q1 : (k != 0) = true := by simpa using hk
    clear hc1 hc2 hc3 hk
    go_wp2_with fail
    go_ret
    exact ⟨by simp, HB4.out⟩
end Go.Proofs.YtfcjbjkciefbmaaDoor
