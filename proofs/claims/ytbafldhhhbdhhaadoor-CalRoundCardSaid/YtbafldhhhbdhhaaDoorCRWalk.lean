/- The walk of portkeep2.CalRound. -/
import Derived.Test.YtbafldhhhbdhhaaDoorReadM
namespace Go.Proofs.YtbafldhhhbdhhaaDoor
open Go.RowKit

set_option maxRecDepth 100000 in
set_option maxHeartbeats 1000000 in
theorem round_walk (off : Int) (v : Value) (cs : List (Int × Int)) (m : Int) (w : World) (h : Changes w v cs) (hE : Env w) :
    Calls Tryd.prog 3 #[.agg #[.int .i64 off, v], .int .i64 m] w (fun e w' => e = .returned (.bool true) ∧ Below w.heap.size w w') := by
  obtain ⟨a, cap, rfl⟩ := SliceAt.len h
  have H := Lib.hid h
  have HE := Lib.hid hE
  clear h hE
  have hbx := box1 w #[.int .i64 off, .slice a cs.length cap] 24
  go_enter Tryd.func3, Tryd.ntmps3
  go_upto_region 1 with fail
  generalize w.alloc (.cells #[.int .i64 off, .slice a cs.length cap] 24) = w2 at *
  obtain ⟨hx, hbl⟩ := hbx
  have HX := Lib.hid hx
  have HB2 := Lib.hid hbl
  clear hx hbl
  go_wp2_with fail
  refine (awake_any w2).mono ?_
  rintro e w3 ⟨rfl, hb3⟩
  have HX3 := Lib.hid (HX.out.below hb3 HX.out.lt)
  have HB3 := Lib.hid (below_up HB2.out hb3 HB2.out.size)
  have k0 := HX3.out.cell 0
  have k1 := HX3.out.cell 1
  clear hb3
  go_wp2_with fail
  refine (MomentText_any off _ cs m w3 (H.out.below HB3.out) (HE.out.below HB3.out)).mono ?_
  rintro e w4 ⟨s, c, rfl, hb4, hcase⟩
  have HX4 := Lib.hid (HX3.out.below hb4 HX3.out.lt)
  have HB4 := Lib.hid (below_up HB3.out hb4 HB3.out.size)
  clear k0 k1 hb4
  rcases hcase with ⟨hc, rfl⟩ | ⟨rfl, hzc, hm1, hm2, d, mi, k, hsum, hd1, hd2, hmi, hk61, hkm, rfl⟩
  · have q0 : (c == 0) = false := by simpa using hc
    have q1 : (c != 0) = true := by simpa using hc
    clear hc
    go_wp2_with fail
    go_ret
    exact ⟨by simp, HB4.out⟩
  · have HR := Lib.hid (fun W hW hw => ReadMoment_ok off (.slice a cs.length cap) cs m d mi k W hW hw hzc hd1 hd2 hmi hk61 hkm)
    clear hzc hm1 hm2 hsum hd1 hd2 hmi hk61 hkm
    have k0 := HX4.out.cell 0
    have k1 := HX4.out.cell 1
    go_wp2_with fail
    refine (HR.out w4 (H.out.below HB4.out) (HE.out.below HB4.out)).mono ?_
    rintro e w5 ⟨rfl, hb5⟩
    have HB5 := Lib.hid (below_up HB4.out hb5 HB4.out.size)
    clear hb5
    go_wp2_with fail
    go_ret
    exact ⟨by simp, HB5.out⟩

end Go.Proofs.YtbafldhhhbdhhaaDoor
