/- The walk of portkeep2.CalendarRound. -/
import Derived.Test.YtjkmehbmnhdcpaaDoorCtRead
import Derived.Test.YtjkmehbmnhdcpaaDoorZone3
namespace Go.Proofs.YtjkmehbmnhdcpaaDoor
open Go.RowKit

set_option maxRecDepth 100000 in
set_option maxHeartbeats 4000000 in
theorem calendar_walk (c : CalD) (vcs vwk vsp : Value) (w : World) (h : CalAt w vcs vwk vsp c) (hE : Env w) :
    Calls Tryd.prog 3 #[.agg #[.int .i64 c.off, vcs, vwk, vsp]] w (fun e w' => e = .returned (.bool true) ∧ Below w.heap.size w w') := by
  obtain ⟨acs, ccs, rfl⟩ := SliceAt.len h.cs
  obtain ⟨awk, cwk, rfl⟩ := SliceAt.len h.wk
  obtain ⟨asp, csp, rfl⟩ := SliceAt.len h.sps
  have H := Lib.hid h
  have HE := Lib.hid hE
  clear h hE
  have hbx := box1 w #[.int .i64 c.off, .slice acs c.cs.length ccs, .slice awk c.wk.length cwk, .slice asp c.sps.length csp] 28
  go_enter Tryd.func3, Tryd.ntmps3
  go_upto_region 1 with fail
  generalize w.alloc (.cells #[.int .i64 c.off, .slice acs c.cs.length ccs, .slice awk c.wk.length cwk, .slice asp c.sps.length csp] 28) = w2 at *
  obtain ⟨hx, hbl⟩ := hbx
  have HX := Lib.hid hx
  have HB2 := Lib.hid hbl
  clear hx hbl
  go_wp2_with fail
  refine (awake_any w2).mono ?_
  rintro e w3 ⟨rfl, hb3⟩
  have HX3 := Lib.hid (HX.out.below hb3 HX.out.lt)
  have HB3 := Lib.hid (below_up HB2.out hb3 HB2.out.size)
  have k0 := HX3.out.cell 0
  have k1 := HX3.out.cell 1
  have k2 := HX3.out.cell 2
  have k3 := HX3.out.cell 3
  clear hb3
  go_wp2_with fail
  refine (CalendarText_any c _ _ _ w3 (H.out.below HB3.out) (HE.out.below HB3.out)).mono ?_
  rintro e w4 ⟨s, k, rfl, hb4, hc1, hc2, hc3⟩
  have HB4 := Lib.hid (below_up HB3.out hb4 HB3.out.size)
  clear k0 k1 k2 k3 hb4
  by_cases hk : k = 0
  · subst hk
    obtain ⟨hF, rfl, hl⟩ := hc2 rfl
    have HF := Lib.hid hF
    have HLN := Lib.hid hl
    clear hc1 hc2 hc3 hF hl
    have HRD := Lib.hid (ReadCalendar_ok c w4 HF.out HLN.out (HE.out.below HB4.out))
    generalize hT : bs (textL (calLns c)) = T at *
    go_wp2_with fail
    refine HRD.out.mono ?_
    rintro e w5 ⟨ucs, uwk, usp, rfl, hca, hb5⟩
    obtain ⟨bcs, dcs, rfl⟩ := SliceAt.len hca.cs
    obtain ⟨bwk, dwk, rfl⟩ := SliceAt.len hca.wk
    obtain ⟨bsp, dsp, rfl⟩ := SliceAt.len hca.sps
    have HB5 := Lib.hid (below_up HB4.out hb5 HB4.out.size)
    have HCA := Lib.hid hca
    clear hca hb5 HRD
    obtain ⟨hx, hbl⟩ := box1 w5 #[.int .i64 c.off, .slice bcs c.cs.length dcs, .slice bwk c.wk.length dwk, .slice bsp c.sps.length dsp] 28
    have HB6 := Lib.hid (below_up HB5.out hbl HB5.out.size)
    have HCA6 := Lib.hid (HCA.out.below hbl)
    have HX6 := Lib.hid hx
    go_upto_region 7 with fail
    generalize w5.alloc (.cells #[.int .i64 c.off, .slice bcs c.cs.length dcs, .slice bwk c.wk.length dwk, .slice bsp c.sps.length dsp] 28) = w6 at *
    have k0 := HX6.out.cell 0
    have k1 := HX6.out.cell 1
    have k2 := HX6.out.cell 2
    have k3 := HX6.out.cell 3
    clear hx hbl
    go_wp2_with fail
    refine (CalendarText_any c _ _ _ w6 HCA6.out (HE.out.below HB6.out)).mono ?_
    rintro e w7 ⟨s, k, rfl, hb7, hc1, hc2, hc3⟩
    have HB7 := Lib.hid (below_up HB6.out hb7 HB6.out.size)
    obtain rfl : k = 0 := hc3 HF.out HLN.out
    obtain rfl : s = T := by rw [← hT]; exact (hc2 rfl).2.1
    clear k0 k1 k2 k3 hb7 hc1 hc2 hc3 HLN HF hT
    go_wp2_with fail
    go_ret
    exact ⟨by simp, HB7.out⟩
  · have hs := hc1 hk
    subst hs
    have q0 : (k == 0) = false := by simpa using hk
    have q1 : (k != 0) = true := by simpa using hk
    clear hc1 hc2 hc3 hk
    go_wp2_with fail
    go_ret
    exact ⟨by simp, HB4.out⟩
end Go.Proofs.YtjkmehbmnhdcpaaDoor
