/- The walk of Plus. -/
import Derived.Test.YtfoehmieklldkaaDoorRatD
namespace Go.Proofs.YtfoehmieklldkaaDoor
open Go.RowKit

set_option maxRecDepth 100000 in
set_option maxHeartbeats 20000000 in
theorem Plus_any (s t s' t' : List UInt8) (w : World) (hE : Env w) :
    Calls Tryd.prog 17 #[.agg #[.string (bs s), .string (bs t)], .agg #[.string (bs s'), .string (bs t')]] w
      (OpPost (RatOk s t ∧ RatOk s' t') (plusQ (decV s) (decV t) (decV s') (decV t')) w) := by
  have hbx := box3 w #[.string (bs s), .string (bs t)] #[.string (bs s'), .string (bs t')] #[.string ⟨#[]⟩, .string ⟨#[]⟩] 44 44 44
  have HR := Lib.hid (fun W hW => two_any s t s' t' W hW)
  generalize bs s = zs at *
  generalize bs t = zt at *
  generalize bs s' = zs' at *
  generalize bs t' = zt' at *
  have HE := Lib.hid hE
  clear hE
  go_enter Tryd.func17, Tryd.ntmps17
  go_upto_region 1 with fail
  generalize ((w.alloc (.cells #[.string zs, .string zt] 44)).alloc (.cells #[.string zs', .string zt'] 44)).alloc (.cells #[.string ⟨#[]⟩, .string ⟨#[]⟩] 44) = w2 at *
  obtain ⟨h1, h2, h3, hbl⟩ := hbx
  have H1 := Lib.hid h1
  have H2 := Lib.hid h2
  have H3 := Lib.hid h3
  have HB2 := Lib.hid hbl
  have k0 := h1.cell 0
  have k1 := h1.cell 1
  have k2 := h2.cell 0
  have k3 := h2.cell 1
  clear h1 h2 h3 hbl
  go_wp2_with fail
  refine (HR.out w2 (HE.out.below HB2.out)).mono ?_
  rintro e w3 ⟨a1, l1, c1, a2, l2, c2, a3, l3, c3, a4, l4, c4, code, rfl, hb3, hcase⟩
  have HB3 := Lib.hid hb3
  have HCA := Lib.hid hcase
  clear hb3 hcase k0 k1 k2 k3
  go_upto_region 2 with fail
  have hbx2 := box2 w3 #[.slice a1 l1 c1, .slice a2 l2 c2] #[.slice a3 l3 c3, .slice a4 l4 c4] 82 82
  have hlt3 : w.heap.size + 2 < w3.heap.size := Nat.lt_of_lt_of_le H3.out.lt HB3.out.size
  have hB3s := Nat.le_trans HB2.out.size HB3.out.size
  generalize (w3.alloc (.cells #[.slice a1 l1 c1, .slice a2 l2 c2] 82)).alloc (.cells #[.slice a3 l3 c3, .slice a4 l4 c4] 82) = w4 at *
  obtain ⟨h5, h6, hb34⟩ := hbx2
  have H5 := Lib.hid h5
  have H6 := Lib.hid h6
  have HB34 := Lib.hid hb34
  have HB4 := Lib.hid (below_up (below_up HB2.out HB3.out HB2.out.size) hb34 hB3s)
  have H3' := Lib.hid (H3.out.below (below_up' HB3.out hb34) H3.out.lt)
  clear h5 h6 hb34
  rcases HCA.out with ⟨hcode, hno⟩ | ⟨rfl, hok, hok', hn1, hn2, hn3, hn4⟩
  · have q0 : (code == 0) = false := by simpa using hcode
    have q1 : (code != 0) = true := by simpa using hcode
    have HNO := Lib.hid (And.intro hcode hno)
    have y0 := H3'.out.cell 0
    have y1 := H3'.out.cell 1
    have y2 := H3'.out.fz 0
    have y3 := H3'.out.fz 1
    clear hcode hno
    go_wp2_with fail
    refine bodyPost_ret (results_cell_tmp_row rfl _ _ (w.heap.size + 2) _ _ (0, 0) _ rfl (has_set2 H3'.out) Tryd.underlying44 rfl infoRatioT) rfl ?_
    exact ⟨_, _, _, rfl, below_set2 HB4.out (by omega), .inl ⟨HNO.out.1, rfl, rfl, fun h => HNO.out.2 h.1⟩⟩
  · have HOK := Lib.hid (And.intro hok hok')
    have HN1 := Lib.hid (hn1.below HB34.out)
    have HN2 := Lib.hid (hn2.below HB34.out)
    have HN3 := Lib.hid (hn3.below HB34.out)
    have HN4 := Lib.hid (hn4.below HB34.out)
    clear hok hok' hn1 hn2 hn3 hn4 HCA
    have HK := Lib.hid (fun W (hW : Below w4.heap.size w4 W) => And.intro (has_cells H5.out hW) (has_cells H6.out hW))
    generalize w3.heap.size = B7 at *
    obtain ⟨a, ha⟩ : ∃ a, a = decV s := ⟨_, rfl⟩
    obtain ⟨b, hb⟩ : ∃ b, b = decV t := ⟨_, rfl⟩
    obtain ⟨c, hc⟩ : ∃ c, c = decV s' := ⟨_, rfl⟩
    obtain ⟨d, hd⟩ : ∃ d, d = decV t' := ⟨_, rfl⟩
    have hbp : 0 < b := by rw [hb]; exact HOK.out.1.pos
    have hdp : 0 < d := by rw [hd]; exact HOK.out.2.pos
    rw [← ha] at HN1
    rw [← hb] at HN2
    rw [← hc] at HN3
    rw [← hd] at HN4
    have hgp : 0 < Nat.gcd b d := Nat.gcd_pos_of_pos_right _ hdp
    have HP := Lib.hid (And.intro hbp (And.intro hdp hgp))
    have HAE := Lib.hid (And.intro ha (And.intro hb (And.intro hc hd)))
    clear ha hb hc hd hbp hdp hgp
    have HB := Lib.hid (Below.refl w4.heap.size w4)
    obtain ⟨⟨k0, k1⟩, ⟨k2, k3⟩⟩ := HK.out _ HB.out
    go_upto_region 4 with fail
    go_wp2_with fail
    refine (divisor_any _ _ _ _ 2300 _ HN2.out HN4.out (by omega)).mono ?_
    rintro e w5 ⟨a5, l5, c5, rfl, hg, hb⟩
    have HG := Lib.hid hg
    have HB := Lib.hid (below_up' HB.out hb)
    have HN1 := Lib.hid (HN1.out.below hb)
    have HN2 := Lib.hid (HN2.out.below hb)
    have HN3 := Lib.hid (HN3.out.below hb)
    have HN4 := Lib.hid (HN4.out.below hb)
    clear hg hb k0 k1 k2 k3
    obtain ⟨⟨k0, k1⟩, ⟨k2, k3⟩⟩ := HK.out _ HB.out
    go_upto_region 5 with fail
    go_wp2_with fail
    refine (by_any _ _ _ _ 2300 _ HN2.out HG.out (by omega) HP.out.2.2).mono ?_
    rintro e w6 ⟨a6, l6, c6, a7, l7, c7, rfl, hq, -, hb⟩
    have HQB := Lib.hid hq
    have HB := Lib.hid (below_up' HB.out hb)
    have HG := Lib.hid (HG.out.below hb)
    have HN1 := Lib.hid (HN1.out.below hb)
    have HN3 := Lib.hid (HN3.out.below hb)
    have HN4 := Lib.hid (HN4.out.below hb)
    clear hq hb k0 k1 k2 k3
    obtain ⟨⟨k0, k1⟩, ⟨k2, k3⟩⟩ := HK.out _ HB.out
    go_upto_region 6 with fail
    go_wp2_with fail
    refine (by_any _ _ _ _ 2300 _ HN4.out HG.out (by omega) HP.out.2.2).mono ?_
    rintro e w7 ⟨a8, l8, c8, a9, l9, c9, rfl, hq, -, hb⟩
    have HQD := Lib.hid hq
    have HB := Lib.hid (below_up' HB.out hb)
    have HG := Lib.hid (HG.out.below hb)
    have HQB := Lib.hid (HQB.out.below hb)
    have HN1 := Lib.hid (HN1.out.below hb)
    have HN3 := Lib.hid (HN3.out.below hb)
    have HN4 := Lib.hid (HN4.out.below hb)
    clear hq hb k0 k1 k2 k3
    obtain ⟨⟨k0, k1⟩, ⟨k2, k3⟩⟩ := HK.out _ HB.out
    go_upto_region 7 with fail
    have HKC := Lib.hid (fun W (hW : Below w7.heap.size w7 W) => HK.out _ (below_up' HB.out hW))
    have HT1 := Lib.hid (fun W (hW : Below w7.heap.size w7 W) => times_any _ _ _ _ 2300 W (HN1.out.below hW) (HQD.out.below hW) (by omega))
    have HT2 := Lib.hid (fun W (hW : Below w7.heap.size w7 W) => times_any _ _ _ _ 2300 W (HN3.out.below hW) (HQB.out.below hW) (by omega))
    clear k0 k1 k2 k3
    go_cut [14] (fun u wx => ∃ p l k, u = .slice p l k ∧ NatAt wx (.slice p l k) (a * (d / Nat.gcd b d) + c * (b / Nat.gcd b d)) 4601 ∧ Below w7.heap.size w7 wx)
    case first =>
      go_region_held3 (fun W => (W.cell? ⟨B7, 0, none⟩ = some (.slice a1 l1 c1) ∧ W.cell? ⟨B7, 1, none⟩ = some (.slice a2 l2 c2)) ∧ (W.cell? ⟨B7 + 1, 0, none⟩ = some (.slice a3 l3 c3) ∧ W.cell? ⟨B7 + 1, 1, none⟩ = some (.slice a4 l4 c4)))
        (first
          | exact HKC.out _ hB
          | exact HKC.out _ (Below.refl _ _).drew)
        (first
          | (go_at_call 45
             have hg := hn2
             refine (plus_any _ _ _ _ (2300 + 2300) _ hp1 hp2 (by omega)).mono ?_
             rintro e w' ⟨p, l, k, rfl, hs, hb3⟩
             have hB := below_up' hB hb3)
          | (go_at_call 44
             have hg := hn1
             refine (HT2.out _ hB).mono ?_
             rintro e w' ⟨b2, k2, d2, rfl, hp2, hb2⟩
             have hn2 := True.intro
             have hp1 := hp1.below hb2
             have hB := below_up' hB hb2)
          | (go_at_call 44
             refine (HT1.out _ (Below.refl _ _).drew).mono ?_
             rintro e w' ⟨b1, k1, d1, rfl, hp1, hb1⟩
             have hn1 := True.intro
             have hB := below_up' (Below.refl w7.heap.size w7).drew hb1))
      all_goals go_wp2
      all_goals go_meet
      all_goals exact ⟨_, _, _, rfl, hs, hB⟩
    case rest =>
      obtain ⟨p, l, k, rfl, hs, hb⟩ := hcut
      have HS := Lib.hid hs
      have HB := Lib.hid (below_up' HB.out hb)
      have HG := Lib.hid (HG.out.below hb)
      have HQB := Lib.hid (HQB.out.below hb)
      have HN4 := Lib.hid (HN4.out.below hb)
      clear hs hb HKC HT1 HT2
      obtain ⟨N, hN⟩ : ∃ N, N = a * (d / Nat.gcd b d) + c * (b / Nat.gcd b d) := ⟨_, rfl⟩
      rw [← hN] at HS
      have HNN := Lib.hid hN
      have HHP := Lib.hid (Nat.gcd_pos_of_pos_right N HP.out.2.2)
      clear hN
      obtain ⟨⟨k0, k1⟩, ⟨k2, k3⟩⟩ := HK.out _ HB.out
      go_upto_region 8 with fail
      go_wp2_with fail
      refine (divisor_any _ _ _ _ 4601 _ HS.out (HG.out.le (by omega)) (by omega)).mono ?_
      rintro e w8 ⟨a10, l10, c10, rfl, hh, hb⟩
      have HH := Lib.hid hh
      have HB := Lib.hid (below_up' HB.out hb)
      have HS := Lib.hid (HS.out.below hb)
      have HQB := Lib.hid (HQB.out.below hb)
      have HN4 := Lib.hid (HN4.out.below hb)
      clear hh hb k0 k1 k2 k3
      obtain ⟨⟨k0, k1⟩, ⟨k2, k3⟩⟩ := HK.out _ HB.out
      go_upto_region 9 with fail
      go_wp2_with fail
      refine (by_any _ _ _ _ 4601 _ HS.out HH.out (by omega) HHP.out).mono ?_
      rintro e w9 ⟨a11, l11, c11, a12, l12, c12, rfl, hq, -, hb⟩
      have HNUM := Lib.hid hq
      have HB := Lib.hid (below_up' HB.out hb)
      have HH := Lib.hid (HH.out.below hb)
      have HQB := Lib.hid (HQB.out.below hb)
      have HN4 := Lib.hid (HN4.out.below hb)
      clear hq hb k0 k1 k2 k3
      obtain ⟨⟨k0, k1⟩, ⟨k2, k3⟩⟩ := HK.out _ HB.out
      go_upto_region 10 with fail
      go_wp2_with fail
      refine (by_any _ _ _ _ 4601 _ (HN4.out.le (by omega)) HH.out (by omega) HHP.out).mono ?_
      rintro e w10 ⟨a13, l13, c13, a14, l14, c14, rfl, hq, -, hb⟩
      have HQ2 := Lib.hid hq
      have HB := Lib.hid (below_up' HB.out hb)
      have HNUM := Lib.hid (HNUM.out.below hb)
      have HQB := Lib.hid (HQB.out.below hb)
      clear hq hb k0 k1 k2 k3
      go_upto_region 11 with fail
      have HBC := Lib.hid (below_up HB4.out HB.out HB4.out.size)
      have HRC := Lib.hid (H3'.out.below HB.out H3'.out.lt)
      have HT := Lib.hid (fun W (hW : Below w10.heap.size w10 W) => times_any _ _ _ _ 4601 W ((HQB.out.below hW).le (by omega)) (HQ2.out.below hW) (by omega))
      go_wp2_with fail
      refine (HT.out _ (Below.refl _ _)).mono ?_
      rintro e w11 ⟨b1, k1, d1, rfl, hp1, hB⟩
      have HP1 := Lib.hid hp1
      have HB1 := Lib.hid hB
      clear hp1 hB
      go_wp2_with fail
      refine (limited_any _ _ _ _ _ _ _ _ 9202 _ ((HNUM.out.below HB1.out).le (by omega)) HP1.out (by omega) ((HE.out.below HBC.out).below HB1.out)).mono ?_
      rintro e w12 ⟨x, y, code, rfl, hb3, hlim⟩
      have HLIM := Lib.hid hlim
      have HB2 := Lib.hid (below_up' HB1.out hb3)
      have hf := HRC.out.below HB2.out HRC.out.lt
      have HF := Lib.hid hf
      have y0 := hf.cell 0
      have y1 := hf.cell 1
      have y2 := hf.fz 0
      have y3 := hf.fz 1
      clear hf hlim hb3
      go_wp2_with fail
      refine bodyPost_ret (results_cell_tmp_row rfl _ _ (w.heap.size + 2) _ _ (0, 0) _ rfl (has_set2 HF.out) Tryd.underlying44 rfl infoRatioT) rfl ?_
      refine ⟨_, _, _, rfl, below_set2 (below_up HBC.out HB2.out HBC.out.size) (by omega), ?_⟩
      unfold plusQ
      rw [← HAE.out.1, ← HAE.out.2.1, ← HAE.out.2.2.1, ← HAE.out.2.2.2, ← HNN.out]
      rcases HLIM.out with ⟨h1, h2, h3, h4, h5⟩ | ⟨h1, h2, h3, h4⟩
      · exact .inr ⟨h1, HOK.out, h2, h3, h4, h5⟩
      · exact .inl ⟨by rw [h1]; decide, h2, h3, fun h => h4 h.2⟩

end Go.Proofs.YtfoehmieklldkaaDoor
