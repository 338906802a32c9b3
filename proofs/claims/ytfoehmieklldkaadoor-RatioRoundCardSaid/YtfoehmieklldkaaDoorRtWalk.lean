/- The walk of the law RatioRound. -/
import Derived.Test.YtfoehmieklldkaaDoorRtLaw
namespace Go.Proofs.YtfoehmieklldkaaDoor
open Go.RowKit

set_option maxRecDepth 100000 in
set_option maxHeartbeats 8000000 in
theorem rt_walk (a1 a2 b1 b2 c1 c2 : List UInt8) (w : World) (hE : Env w) :
    Calls Tryd.prog 5 #[.agg #[.string (bs a1), .string (bs a2)], .agg #[.string (bs b1), .string (bs b2)], .agg #[.string (bs c1), .string (bs c2)]] w (fun e w' => e = .returned (.bool true) ∧ Below w.heap.size w w') := by
  have hbx := box3 w #[.string (bs a1), .string (bs a2)] #[.string (bs b1), .string (bs b2)] #[.string (bs c1), .string (bs c2)] 44 44 44
  have HP1 := Lib.hid (fun W hW => Plus_any a1 a2 b1 b2 W hW)
  have HP2 := Lib.hid (fun W hW => Plus_any b1 b2 a1 a2 W hW)
  have HT1 := Lib.hid (fun x1 x2 W hW => Times_any x1 x2 c1 c2 W hW)
  have HT2 := Lib.hid (fun W hW => Times_any a1 a2 c1 c2 W hW)
  have HT3 := Lib.hid (fun W hW => Times_any b1 b2 c1 c2 W hW)
  generalize bs a1 = za1 at *
  generalize bs a2 = za2 at *
  generalize bs b1 = zb1 at *
  generalize bs b2 = zb2 at *
  generalize bs c1 = zc1 at *
  generalize bs c2 = zc2 at *
  have HE := Lib.hid hE
  clear hE
  go_enter Tryd.func5, Tryd.ntmps5
  go_upto_region 1 with fail
  generalize ((w.alloc (.cells #[.string za1, .string za2] 44)).alloc (.cells #[.string zb1, .string zb2] 44)).alloc (.cells #[.string zc1, .string zc2] 44) = w2 at *
  obtain ⟨h1, h2, h3, hbl⟩ := hbx
  have H1 := Lib.hid h1
  have H2 := Lib.hid h2
  have H3 := Lib.hid h3
  have HB2 := Lib.hid hbl
  clear h1 h2 h3 hbl
  go_wp2_with fail
  refine (awake_any w2).mono ?_
  rintro e w3 ⟨rfl, hb3⟩
  have H1 := Lib.hid (H1.out.below hb3 H1.out.lt)
  have H2 := Lib.hid (H2.out.below hb3 H2.out.lt)
  have H3 := Lib.hid (H3.out.below hb3 H3.out.lt)
  have HB := Lib.hid (below_up HB2.out hb3 HB2.out.size)
  have k0 := H1.out.cell 0
  have k1 := H1.out.cell 1
  have k2 := H2.out.cell 0
  have k3 := H2.out.cell 1
  clear hb3 HB2
  go_upto_region 3 with fail
  go_wp2_with fail
  refine (HP1.out w3 (HE.out.below HB.out)).mono ?_
  rintro e w4 ⟨x1, y1, code1, rfl, hb4, hc1⟩
  have HC1 : Hid (OpR (RatOk a1 a2 ∧ RatOk b1 b2) (plusQ (decV a1) (decV a2) (decV b1) (decV b2)) x1 y1 code1) := Lib.hid hc1
  have H1 := Lib.hid (H1.out.below hb4 H1.out.lt)
  have H2 := Lib.hid (H2.out.below hb4 H2.out.lt)
  have H3 := Lib.hid (H3.out.below hb4 H3.out.lt)
  have HB := Lib.hid (below_up HB.out hb4 HB.out.size)
  clear hb4 hc1 k0 k1 k2 k3
  go_upto_region 4 with fail
  have hx := Has.new w4 #[.string x1, .string y1] 44
  have H1 := Lib.hid (H1.out.alloc (.cells #[.string x1, .string y1] 44))
  have H2 := Lib.hid (H2.out.alloc (.cells #[.string x1, .string y1] 44))
  have H3 := Lib.hid (H3.out.alloc (.cells #[.string x1, .string y1] 44))
  have HB := Lib.hid (HB.out.alloc HB.out.size (.cells #[.string x1, .string y1] 44))
  generalize w4.alloc (.cells #[.string x1, .string y1] 44) = w5 at *
  generalize w4.heap.size = B7 at *
  have HX := Lib.hid hx
  have k0 := H1.out.cell 0
  have k1 := H1.out.cell 1
  have k2 := H2.out.cell 0
  have k3 := H2.out.cell 1
  clear hx
  go_wp2_with fail
  refine (HP2.out w5 (HE.out.below HB.out)).mono ?_
  rintro e w6 ⟨x2, y2, code2, rfl, hb6, hc2⟩
  obtain ⟨hcc, rfl, rfl⟩ := plus_same HC1.out hc2
  have HCC := Lib.hid hcc
  have H1 := Lib.hid (H1.out.below hb6 H1.out.lt)
  have H2 := Lib.hid (H2.out.below hb6 H2.out.lt)
  have H3 := Lib.hid (H3.out.below hb6 H3.out.lt)
  have HX := Lib.hid (HX.out.below hb6 HX.out.lt)
  have HB := Lib.hid (below_up HB.out hb6 HB.out.size)
  clear hb6 hc2 hcc k0 k1 k2 k3
  go_upto_region 5 with fail
  have hx := Has.new w6 #[.string x1, .string y1] 44
  have H1 := Lib.hid (H1.out.alloc (.cells #[.string x1, .string y1] 44))
  have H2 := Lib.hid (H2.out.alloc (.cells #[.string x1, .string y1] 44))
  have H3 := Lib.hid (H3.out.alloc (.cells #[.string x1, .string y1] 44))
  have HX := Lib.hid (HX.out.alloc (.cells #[.string x1, .string y1] 44))
  have HB := Lib.hid (HB.out.alloc HB.out.size (.cells #[.string x1, .string y1] 44))
  generalize w6.alloc (.cells #[.string x1, .string y1] 44) = w7 at *
  generalize w6.heap.size = B9 at *
  have k0 := HX.out.cell 0
  have k1 := HX.out.cell 1
  have k2 := hx.cell 0
  have k3 := hx.cell 1
  clear hx
  rcases HC1.out with ⟨hcode, -, -, -⟩ | ⟨rfl, hok, rfl, rfl, hf1, hf2⟩
  · have hcode2 : code2 ≠ 0 := fun h => hcode (HCC.out.2 h)
    have q0 : (code1 == 0) = false := by simpa using hcode
    have q1 : (code1 != 0) = true := by simpa using hcode
    have q2 : (code2 == 0) = false := by simpa using hcode2
    have q3 : (code2 != 0) = true := by simpa using hcode2
    clear hcode hcode2 HCC
    go_wp2_with fail
    go_ret
    exact ⟨by simp, HB.out⟩
  · obtain rfl : code2 = 0 := HCC.out.1 rfl
    have HOK := Lib.hid hok
    have HF1 := Lib.hid hf1
    have HF2 := Lib.hid hf2
    clear hok hf1 hf2
    go_upto_region 9 with fail
    clear k0 k1 k2 k3
    have k0 := HX.out.cell 0
    have k1 := HX.out.cell 1
    have k2 := H3.out.cell 0
    have k3 := H3.out.cell 1
    go_wp2_with fail
    refine (HT1.out _ _ w7 (HE.out.below HB.out)).mono ?_
    rintro e w8 ⟨x3, y3, code3, rfl, hb8, hc3⟩
    rw [decV_digits, decV_digits] at hc3
    have HC3 := Lib.hid hc3
    have H1 := Lib.hid (H1.out.below hb8 H1.out.lt)
    have H2 := Lib.hid (H2.out.below hb8 H2.out.lt)
    have H3 := Lib.hid (H3.out.below hb8 H3.out.lt)
    have HB := Lib.hid (below_up HB.out hb8 HB.out.size)
    clear hb8 hc3 k0 k1 k2 k3 HX
    go_upto_region 10 with fail
    have hx := Has.new w8 #[.string x3, .string y3] 44
    have H1 := Lib.hid (H1.out.alloc (.cells #[.string x3, .string y3] 44))
    have H2 := Lib.hid (H2.out.alloc (.cells #[.string x3, .string y3] 44))
    have H3 := Lib.hid (H3.out.alloc (.cells #[.string x3, .string y3] 44))
    have HB := Lib.hid (HB.out.alloc HB.out.size (.cells #[.string x3, .string y3] 44))
    generalize w8.alloc (.cells #[.string x3, .string y3] 44) = w9 at *
    generalize w8.heap.size = B11 at *
    have HP := Lib.hid hx
    clear hx
    have k0 := H1.out.cell 0
    have k1 := H1.out.cell 1
    have k2 := H3.out.cell 0
    have k3 := H3.out.cell 1
    go_wp2_with fail
    refine (HT2.out w9 (HE.out.below HB.out)).mono ?_
    rintro e w10 ⟨x4, y4, code4, rfl, hb10, hc4⟩
    have HC4 := Lib.hid hc4
    have H2 := Lib.hid (H2.out.below hb10 H2.out.lt)
    have H3 := Lib.hid (H3.out.below hb10 H3.out.lt)
    have HP := Lib.hid (HP.out.below hb10 HP.out.lt)
    have HB := Lib.hid (below_up HB.out hb10 HB.out.size)
    clear hb10 hc4 k0 k1 k2 k3 H1
    go_upto_region 11 with fail
    have hx := Has.new w10 #[.string x4, .string y4] 44
    have H2 := Lib.hid (H2.out.alloc (.cells #[.string x4, .string y4] 44))
    have H3 := Lib.hid (H3.out.alloc (.cells #[.string x4, .string y4] 44))
    have HP := Lib.hid (HP.out.alloc (.cells #[.string x4, .string y4] 44))
    have HB := Lib.hid (HB.out.alloc HB.out.size (.cells #[.string x4, .string y4] 44))
    generalize w10.alloc (.cells #[.string x4, .string y4] 44) = w11 at *
    generalize w10.heap.size = B12 at *
    have HQ := Lib.hid hx
    clear hx
    have k0 := H2.out.cell 0
    have k1 := H2.out.cell 1
    have k2 := H3.out.cell 0
    have k3 := H3.out.cell 1
    go_wp2_with fail
    refine (HT3.out w11 (HE.out.below HB.out)).mono ?_
    rintro e w12 ⟨x5, y5, code5, rfl, hb12, hc5⟩
    have HC5 := Lib.hid hc5
    have HP := Lib.hid (HP.out.below hb12 HP.out.lt)
    have HQ := Lib.hid (HQ.out.below hb12 HQ.out.lt)
    have HB := Lib.hid (below_up HB.out hb12 HB.out.size)
    clear hb12 hc5 k0 k1 k2 k3 H2 H3
    go_upto_region 12 with fail
    have hx := Has.new w12 #[.string x5, .string y5] 44
    have HP := Lib.hid (HP.out.alloc (.cells #[.string x5, .string y5] 44))
    have HQ := Lib.hid (HQ.out.alloc (.cells #[.string x5, .string y5] 44))
    have HB := Lib.hid (HB.out.alloc HB.out.size (.cells #[.string x5, .string y5] 44))
    generalize w12.alloc (.cells #[.string x5, .string y5] 44) = w13 at *
    generalize w12.heap.size = B13 at *
    have HR := Lib.hid hx
    clear hx
    rcases HC3.out with ⟨hcode, -, -, -⟩ | ⟨rfl, hok3, rfl, rfl, hf3, hg3⟩
    · have q0 : (code3 == 0) = false := by simpa using hcode
      have q1 : (code3 != 0) = true := by simpa using hcode
      clear hcode
      go_wp2_with fail
      go_ret
      exact ⟨by simp, HB.out⟩
    rcases HC4.out with ⟨hcode, -, -, -⟩ | ⟨rfl, hok4, rfl, rfl, hf4, hg4⟩
    · have q0 : (code4 == 0) = false := by simpa using hcode
      have q1 : (code4 != 0) = true := by simpa using hcode
      clear hcode
      go_wp2_with fail
      go_ret
      exact ⟨by simp, HB.out⟩
    rcases HC5.out with ⟨hcode, -, -, -⟩ | ⟨rfl, hok5, rfl, rfl, hf5, hg5⟩
    · have q0 : (code5 == 0) = false := by simpa using hcode
      have q1 : (code5 != 0) = true := by simpa using hcode
      clear hcode
      go_wp2_with fail
      go_ret
      exact ⟨by simp, HB.out⟩
    have HTS := Lib.hid (times_sum HOK.out.1 HOK.out.2 hok4.2 HF1.out HF2.out rfl rfl rfl hf3 hg3 hf4 hg4 hf5 hg5)
    have HFP := Lib.hid (And.intro hf3 hg3)
    clear hok3 hok4 hok5 hf3 hg3 hf4 hg4 hf5 hg5 HC3 HC4 HC5 HC1 HT1 HT2 HT3 HP1 HP2
    generalize timesQ (plusQ (decV a1) (decV a2) (decV b1) (decV b2)).1 (plusQ (decV a1) (decV a2) (decV b1) (decV b2)).2 (decV c1) (decV c2) = P at *
    generalize timesQ (decV a1) (decV a2) (decV c1) (decV c2) = Q at *
    generalize timesQ (decV b1) (decV b2) (decV c1) (decV c2) = R at *
    have k0 := HQ.out.cell 0
    have k1 := HQ.out.cell 1
    have k2 := HR.out.cell 0
    have k3 := HR.out.cell 1
    go_upto_region 14 with fail
    go_wp2_with fail
    refine (Plus_any _ _ _ _ w13 (HE.out.below HB.out)).mono ?_
    rintro e w14 ⟨x6, y6, code6, rfl, hb14, hc6⟩
    rw [decV_digits, decV_digits, decV_digits, decV_digits, ← HTS.out.2.2.2] at hc6
    obtain ⟨rfl, rfl, rfl⟩ : code6 = 0 ∧ x6 = bs (Lib.decDigits P.1) ∧ y6 = bs (Lib.decDigits P.2) := by
      rcases hc6 with ⟨-, -, -, h⟩ | ⟨h1, -, h2, h3, -, -⟩
      · exact absurd ⟨⟨HTS.out.2.1, HTS.out.2.2.1⟩, HFP.out⟩ h
      · exact ⟨h1, h2, h3⟩
    have HP := Lib.hid (HP.out.below hb14 HP.out.lt)
    have HB := Lib.hid (below_up HB.out hb14 HB.out.size)
    clear hb14 hc6 k0 k1 k2 k3
    go_upto_region 15 with fail
    have hx := Has.new w14 #[.string (bs (Lib.decDigits P.1)), .string (bs (Lib.decDigits P.2))] 44
    have HP := Lib.hid (HP.out.alloc (.cells #[.string (bs (Lib.decDigits P.1)), .string (bs (Lib.decDigits P.2))] 44))
    have HB := Lib.hid (HB.out.alloc HB.out.size (.cells #[.string (bs (Lib.decDigits P.1)), .string (bs (Lib.decDigits P.2))] 44))
    generalize w14.alloc (.cells #[.string (bs (Lib.decDigits P.1)), .string (bs (Lib.decDigits P.2))] 44) = w15 at *
    generalize w14.heap.size = B15 at *
    have k0 := hx.cell 0
    have k1 := hx.cell 1
    have k2 := HP.out.cell 0
    have k3 := HP.out.cell 1
    clear hx
    go_wp2_with fail
    refine (CheckRatio_ok _ _ w15 (HE.out.below HB.out) HTS.out.1).mono ?_
    rintro e w16 ⟨rfl, hb16⟩
    have HB := Lib.hid (below_up HB.out hb16 HB.out.size)
    clear hb16
    go_wp2_with fail
    go_ret
    exact ⟨by simp, HB.out⟩

end Go.Proofs.YtfoehmieklldkaaDoor
