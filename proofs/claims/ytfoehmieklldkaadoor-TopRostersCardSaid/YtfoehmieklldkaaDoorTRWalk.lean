/- The walk of the law TopRosters. -/
import Derived.Test.YtfoehmieklldkaaDoorTopS
namespace Go.Proofs.YtfoehmieklldkaaDoor
open Go.RowKit

set_option maxRecDepth 100000 in
set_option maxHeartbeats 16000000 in
theorem tr_walk (v dv : Value) (l : List (Int × Int)) (D : List Int) (P R M : Int) (w : World) (h : SliceAt 2 formR w v l) (hd : SliceAt 1 intR w dv D) :
    Calls Tryd.prog 6 #[v, dv, .agg #[.int .i64 P, .int .i64 R, .int .i64 M]] w (fun e w' => e = .returned (.bool true) ∧ Below w.heap.size w w') := by
  obtain ⟨a, cap, rfl⟩ := h.len
  obtain ⟨ad, cd, rfl⟩ := hd.len
  have H := Lib.hid h
  have HD := Lib.hid hd
  have hbx := box1 w #[.int .i64 P, .int .i64 R, .int .i64 M] 50
  clear h hd
  go_enter Tryd.func6, Tryd.ntmps6
  go_upto_region 1 with fail
  generalize w.alloc (.cells #[.int .i64 P, .int .i64 R, .int .i64 M] 50) = w2 at *
  obtain ⟨hx, hbl⟩ := hbx
  have HX := Lib.hid hx
  have HB2 := Lib.hid hbl
  clear hx hbl
  go_wp2_with fail
  refine (awakeTop_any w2).mono ?_
  rintro e w3 ⟨rfl, hb3⟩
  have HX3 := Lib.hid (HX.out.below hb3 HX.out.lt)
  have HB3 := Lib.hid (below_up HB2.out hb3 HB2.out.size)
  clear hb3
  go_wp2_with fail
  refine (Plan_any _ _ l D w3 (H.out.stable formR_stable HB3.out) (HD.out.stable intR_stable HB3.out)).mono ?_
  rintro e w4 ⟨ap, mp, cp, code, rfl, hb4, hcase⟩
  have HX4 := Lib.hid (HX3.out.below hb4 HX3.out.lt)
  have HB4 := Lib.hid (below_up HB3.out hb4 HB3.out.size)
  clear hb4
  have k0 := HX4.out.cell 0
  have k1 := HX4.out.cell 1
  have k2 := HX4.out.cell 2
  rcases hcase with ⟨hcode, rfl⟩ | ⟨rfl, hfe, fs, ds, ps, rfl, hf60, hok, rfl, hdl, hd60, hpl, hp60, rfl, hps, hinv⟩
  · have q0 : (code == 0) = false := by simpa using hcode
    have q1 : (code != 0) = true := by simpa using hcode
    clear hcode
    go_wp2_with fail
    go_ret
    exact ⟨rfl, HB4.out⟩
  · have HFE := Lib.hid hfe
    have HOK := Lib.hid hok
    have HD60 := Lib.hid hd60
    have HPL := Lib.hid hpl
    have HP60 := Lib.hid hp60
    have HPS := Lib.hid hps
    have HPI := Lib.hid hinv
    have hfl : (fs.map FN.pair).length = fs.length := by simp
    have hdl2 : (intsOf ds).length = ds.length := intsOf_length ds
    have HF : Hid (FormsAt w _ fs) := Lib.hid (H.out : SliceAt 2 formR w _ (fs.map FN.pair))
    have HDN : Hid (NatsAt w _ ds) := Lib.hid (HD.out : SliceAt 1 intR w _ (intsOf ds))
    rw [hfl] at HF ⊢
    rw [hdl2] at HDN ⊢
    have HPLL : Hid (planE fs.length (intsOf ps) = 0) := Lib.hid (by rw [← hpl]; exact planE_ok hp60)
    clear hfe hok hd60 hpl hp60 hps hinv hfl hdl2 H HD
    have hcr := fun W => CheckRules_any P R M W
    by_cases hre : rulesE P R M = 0
    case neg =>
      obtain ⟨c3, hc3⟩ : ∃ c3, c3 = rulesE P R M := ⟨_, rfl⟩
      rw [← hc3] at hcr hre
      have q1 : (c3 != 0) = true := by simpa using hre
      have q0 : (c3 == 0) = false := by simpa using hre
      have HCR := Lib.hid hcr
      clear hcr hc3 hre
      go_wp2_with fail
      refine (HCR.out _).mono ?_
      rintro e w5 ⟨rfl, hb5⟩
      have HB5 := Lib.hid (below_up HB4.out hb5 HB4.out.size)
      clear hb5 k0 k1 k2
      go_wp2_with fail
      go_ret
      exact ⟨rfl, HB5.out⟩
    case pos =>
      have HRE := Lib.hid hre
      rw [hre] at hcr
      have HCR := Lib.hid hcr
      clear hcr hre
      go_wp2_with fail
      refine (HCR.out _).mono ?_
      rintro e w5 ⟨rfl, hb5⟩
      have HX5 := Lib.hid (HX4.out.below hb5 HX4.out.lt)
      have HB5 := Lib.hid (below_up HB4.out hb5 HB4.out.size)
      have HPS5 := Lib.hid (HPS.out.below hb5)
      clear hb5 k0 k1 k2
      have k0 := HX5.out.cell 0
      have k1 := HX5.out.cell 1
      have k2 := HX5.out.cell 2
      go_wp2_with fail
      refine (Roster_any _ _ (fs.map FN.pair) (intsOf ps) P R M w5 (HF.out.below HB5.out) HPS5.out (by rw [List.length_map]; omega)).mono ?_
      rintro e w6 ⟨ga, gn, gc, la, ln, lc, code, rfl, hb6, hcase⟩
      have HX6 := Lib.hid (HX5.out.below hb6 HX5.out.lt)
      have HB6 := Lib.hid (below_up HB5.out hb6 HB5.out.size)
      have HPS6 := Lib.hid (HPS5.out.below hb6)
      clear hb6 k0 k1 k2
      rcases hcase with ⟨hcode, rfl, rfl, hc4⟩ | ⟨rfl, fs', ps', g, lf, P', R', M', rfl, rfl, rfl, hP, hR, hM, _, hfs, _, _, hps', _, _, hgl, rfl, rfl, hg, hlf, hright, hlff, hcnt⟩
      · obtain rfl : code = 4 := hc4 HFE.out (by rw [List.length_map]; exact HPLL.out) HRE.out
        clear hcode hc4
        go_wp2_with fail
        go_ret
        exact ⟨rfl, HB6.out⟩
      · obtain rfl := pair_inj hfs
        obtain rfl := intsOf_inj hps'
        clear hfs hps'
        have HG := Lib.hid hg
        have HLF := Lib.hid hlf
        have HRT := Lib.hid hright
        have HLFF := Lib.hid hlff
        have HCNT := Lib.hid hcnt
        have HF6 := Lib.hid (HF.out.below HB6.out)
        have k0 := HX6.out.cell 0
        have k1 := HX6.out.cell 1
        have k2 := HX6.out.cell 2
        clear hg hlf hright hlff hcnt
        go_wp2_with fail
        refine (Judge_any _ _ fs P' R' M' g w6 HF6.out HG.out hf60 HOK.out HFE.out hP hR hM (by omega) HRT.out).mono ?_
        rintro e w7 ⟨rfl, hb7⟩
        have HB7 := Lib.hid (below_up HB6.out hb7 HB6.out.size)
        have HG7 := Lib.hid (SliceAt.stable dutyR_stable HG.out hb7)
        have HLF7 := Lib.hid (SliceAt.stable dutyR_stable HLF.out hb7)
        have HPS7 := Lib.hid (HPS6.out.below hb7)
        clear hb7 k0 k1 k2
        have hmk := fun W => make_ints W fs.length (by omega)
        go_upto_region 13 with fail
        have hmi := madeInts w7 fs.length
        have hb8 : Below w7.heap.size w7 (w7.alloc (.cells (madeCells #[.int .i64 0] fs.length) 3)) := (Below.refl _ _).alloc (Nat.le_refl _) _
        rw [replicate_map] at hmi
        generalize w7.alloc (.cells (madeCells #[.int .i64 0] fs.length) 3) = w8 at *
        have HMI := Lib.hid hmi
        have HB8 := Lib.hid hb8
        have hw75 : w7.heap.size < w8.heap.size := hmi.lt
        clear hmi hb8 hmk
        have hdf : ∀ d ∈ g ++ lf, d.1 < fs.length := fun d hd => by
          rcases List.mem_append.1 hd with hd | hd
          · obtain ⟨k, hk, rfl⟩ := List.getElem_of_mem hd
            exact (HRT.out k hk).f
          · exact HLFF.out d hd
        have hgl2 : (g ++ lf).length ≤ 2000 := by rw [List.length_append]; exact hgl
        have HCC := Lib.hid (fun b W h0 h1 h2 => concat_any b ga la gc lc g lf W h0 h1 h2 hgl)
        obtain ⟨gl, hgz⟩ : ∃ gl, gl = g ++ lf := ⟨_, rfl⟩
        rw [← hgz] at hdf hgl2 HCC
        have HDF := Lib.hid hdf
        have HGL := Lib.hid hgz
        clear hdf hgz
        go_wp2_with (refine (HCC.out _ _ (Has.new _ _ _) (SliceAt.stable dutyR_stable HG7.out (HB8.out.alloc (by omega) _)) (SliceAt.stable dutyR_stable HLF7.out (HB8.out.alloc (by omega) _))).mono ?_; rintro e w9 ⟨ac, cc, rfl, hown, hb9⟩)
        have hb98 : Below w8.heap.size w8 w9 := below_up ((Below.refl _ _).alloc (Nat.le_refl _) _) hb9 (by simp)
        obtain ⟨B, HI0⟩ : ∃ B, Hid (MnInv fs.length gl B w7 w9 (.slice ac gl.length cc) 0) := ⟨_, Lib.hid ⟨Has.below HMI.out hb98 HMI.out.lt, hown, below_up HB8.out hb98 HB8.out.size⟩⟩
        clear hown hb9 hb98
        go_wp2_with fail
        go_loopw [14, 70] (fun _ iv wr => ∃ i : Nat, iv = .int .i64 i ∧ i ≤ gl.length ∧ MnInv fs.length gl B w7 wr (.slice ac gl.length cc) i) (fun _ iv _ => gl.length - (intOf iv).toNat)
        case atStart => exact ⟨0, rfl, Nat.zero_le _, HI0.out⟩
        case round =>
          obtain ⟨i, rfl, hi, hinv⟩ := hrel
          clear HI0
          by_cases hlt : i < gl.length
          · obtain ⟨b, off, cap', hv, hc', hb, e0, e1⟩ := hinv.duty hlt
            simp only [Value.slice.injEq] at hv
            obtain ⟨rfl, _, rfl⟩ := hv
            have hdf := HDF.out _ (List.getElem_mem hlt)
            have hcl := cnt_le gl i gl[i].1
            have hcell := (hinv.ints.cells gl[i].1 (by simpa using hdf))
            simp only [List.getElem_map, List.getElem_range] at hcell
            have HSTEP := Lib.hid (fun W (hW : Below wr.heap.size wr W) u hu => (hinv.below' hW).step (u := u) hlt hdf hu)
            have HINV := Lib.hid hinv
            obtain ⟨bxx, bb⟩ := box1 wr #[.int .i64 (gl[i].1 : Nat), .int .i64 (gl[i].2 : Nat)] 60
            have hkl := hinv.ints.lt
            clear hinv
            generalize gl[i].1 = t at *
            generalize gl[i].2 = q at *
            generalize cnt (gl.take i) t = cn at *
            go_upto_region 16 with fail
            have k0 := bxx.cell 0
            have hne := bxx.lt
            have z0 := (below_cell bb hkl).trans hcell.1
            have z1 := (below_frozen bb hkl).trans hcell.2
            have HBB := Lib.hid bb
            have hbs := bb.size
            clear bxx bb e0 e1 hcell
            generalize wr.alloc (.cells #[.int .i64 (t : Nat), .int .i64 (q : Nat)] 60) = wb at *
            generalize wr.heap.size = bd at *
            go_upto_region 18 with fail
            go_wp2_with fail
            go_roundw
            case rel => exact ⟨i + 1, by go_num, by omega, (HSTEP.out _ HBB.out _ rfl)⟩
            case measure => simp [intOf]; omega
          · obtain rfl : gl.length = i := by omega
            have hm := hinv.ints
            rw [List.take_length, HGL.out, ← HPL.out, many_plan (fun t ht => HCNT.out t (by rw [← HPL.out]; exact ht))] at hm
            have hs9 : NatsAt wr (.slice (some ⟨w7.heap.size, 0, none⟩) fs.length fs.length) ps := by
              have h1 := hm.slice (cap := fs.length) (by rw [intsOf_length, HPL.out]; exact Nat.le_refl _)
              rw [intsOf_length, HPL.out] at h1
              exact h1
            have hp9 := HPS7.out.below hinv.below
            have hlen : ps.length ≤ 60 := by rw [HPL.out]; exact hf60
            have HEQ := Lib.hid (equal_same _ _ ps wr hs9 hp9 (by omega))
            have HB9 := Lib.hid (below_up HB7.out hinv.below HB7.out.size)
            have HP9 := Lib.hid hp9
            clear hinv hm hs9 hp9
            go_wp2_with fail
            refine HEQ.out.mono ?_
            rintro e wa ⟨rfl, hba⟩
            have HBA := Lib.hid (below_up HB9.out hba HB9.out.size)
            have HPA := Lib.hid (HP9.out.below hba)
            have HFA := Lib.hid (HF.out.below HBA.out)
            have HDA := Lib.hid (HDN.out.below HBA.out)
            clear hba
            go_wp2_with fail
            go_loopw [15, 16, 17, 18, 19, 20, 98] (fun _ _ _ _ _ _ iv wr => ∃ i : Nat, iv = .int .i64 i ∧ i ≤ fs.length ∧ Below wa.heap.size wa wr) (fun _ _ _ _ _ _ iv _ => fs.length - (intOf iv).toNat)
            case atStart => exact ⟨0, rfl, Nat.zero_le _, Below.refl _ _⟩
            case round =>
              obtain ⟨i, rfl, hi, hbr⟩ := hrel
              by_cases hlt : i < fs.length
              · have hips : i < ps.length := by rw [HPL.out]; exact hlt
                have hpr := HPA.out.below hbr
                have HPR := Lib.hid hpr
                obtain ⟨bp, op, cpp, hv, hbp, help⟩ := hpr.at (by omega)
                simp only [Value.slice.injEq] at hv
                obtain ⟨rfl, hvl, rfl⟩ := hv
                clear hvl
                have c0 := help i hips
                have HBR := Lib.hid hbr
                by_cases h0 : ps[i] = 0
                · rw [h0] at c0
                  clear help h0 hbr hpr
                  go_wp2_with fail
                  go_roundw
                  case rel => exact ⟨i + 1, by go_num, by omega, HBR.out⟩
                  case measure => simp [intOf]; omega
                · obtain ⟨s, hs1, hs2⟩ := less_short HPI.out HPL.out hips h0
                  have hq : ps[i] ≤ 60 := HP60.out _ (List.getElem_mem hips)
                  have hclo := clone_nats _ ps wr hpr (by omega) (by omega)
                  rw [HPL.out] at hclo
                  have HCL := Lib.hid hclo
                  have hx1 : ((intsOf ps).map (Value.int .i64))[i]? = some (.int .i64 (ps[i] : Nat)) := by simp [intsOf, hips]
                  have hx2 : ∀ y : Nat, ((intsOf ps).map (Value.int .i64)).set i (.int .i64 (y : Nat)) = (intsOf (ps.set i y)).map (Value.int .i64) := fun y => by simp [intsOf, List.map_set]
                  have HX2 := Lib.hid hx2
                  obtain ⟨y, hy⟩ : ∃ y, ps[i] = y + 1 := ⟨ps[i] - 1, by omega⟩
                  have hy2 : ps[i] - 1 = y := by omega
                  rw [hy] at c0 hx1
                  rw [hy2] at hs2
                  have HLP : Hid (∀ p ∈ ps.set i y, p ≤ 60) := Lib.hid (set_le HP60.out (by omega))
                  have HS := Lib.hid hs2
                  have s0 : IntKind.i64.wrap ((y : Int) + 1 - 1) = (y : Int) := by rw [Int.add_sub_cancel]; exact IntWalk.i64_in _ (by omega)
                  have hy60 : y ≤ 60 := by omega
                  rw [show ((y + 1 : Nat) : Int) = (y : Int) + 1 from rfl] at c0 hx1
                  have q0 : ((y : Int) + 1 == 0) = false := by simp; omega
                  clear help h0 hbr hpr hx2 hy hy2 hs2 hq hclo
                  go_upto_region 26 with fail
                  clear c0 q0
                  go_wp2_with fail
                  refine HCL.out.mono ?_
                  rintro e wb ⟨gq, cq, rfl, ho, hbb⟩
                  have d0 := (ho.cellAt i (by omega)).trans hx1
                  have d1 := ho.frozenAt i
                  have ho2 := (ho.stored i (.int .i64 (y : Nat))).1
                  rw [HX2.out] at ho2
                  have hge := (ho.lt gq rfl).1
                  have hb2 : Below wa.heap.size wa (wb.setCell ⟨gq, i, none⟩ (.int .i64 (y : Nat))) := (below_up HBR.out hbb HBR.out.size).setCell (Nat.le_trans HBR.out.size hge) _
                  have hls : NatsAt (wb.setCell ⟨gq, i, none⟩ (.int .i64 (y : Nat))) (.slice (some ⟨gq, 0, none⟩) fs.length cq) (ps.set i y) := slice_of_owns1 (e := 3) (B := wr.heap.size) (Value.int .i64) (by rw [intsOf_length, List.length_set, HPL.out]; exact ho2) (fun _ _ => rfl)
                  have HL2 := Lib.hid hls
                  have HB2' := Lib.hid hb2
                  clear ho ho2 hbb hb2 hls hx1 HX2
                  go_upto_region 28 with fail
                  clear d0 d1 s0
                  generalize wb.setCell ⟨gq, i, none⟩ (.int .i64 (y : Nat)) = wc at *
                  have HCV := Lib.hid (CoverX_any _ _ fs (intsOf (ps.set i y)) ds.length wc (HFA.out.below HB2'.out) HL2.out hf60 HOK.out HFE.out hdl)
                  have HPE : Hid (planE fs.length (intsOf (ps.set i y)) = 0) := Lib.hid (by
                    have h1 := planE_ok HLP.out
                    rw [List.length_set, HPL.out] at h1
                    exact h1)
                  clear hge hy60 hlt hi
                  go_wp2_with fail
                  refine HCV.out.mono ?_
                  rintro e wd ⟨a3, m3, c3, code, rfl, hbd, hcase⟩
                  rcases hcase with ⟨_, hpe⟩ | ⟨rfl, rfl, ps', hps', _, _, hsl⟩
                  · exact absurd HPE.out hpe
                  · obtain rfl := intsOf_inj hps'
                    rw [covList_ints] at hsl
                    have HBD := Lib.hid (below_up HB2'.out hbd HB2'.out.size)
                    have hcl : ((List.range ds.length).map fun t => cov (fmOf fs) (pOf (ps.set i y)) fs.length t).length = ds.length := by simp
                    have hcb : ∀ c ∈ ((List.range ds.length).map fun t => cov (fmOf fs) (pOf (ps.set i y)) fs.length t), c ≤ 3600 := fun c hc => by
                      obtain ⟨t, _, rfl⟩ := List.mem_map.1 hc
                      have h1 := cov_le (F := fmOf fs) (pOf_le HLP.out) fs.length t
                      omega
                    have hsh : pOf ((List.range ds.length).map fun t => cov (fmOf fs) (pOf (ps.set i y)) fs.length t) s < pOf ds s := by
                      have h1 : pOf ((List.range ds.length).map fun t => cov (fmOf fs) (pOf (ps.set i y)) fs.length t) s = cov (fmOf fs) (pOf (ps.set i y)) fs.length s := by simp [pOf, hs1]
                      rw [h1]
                      exact HS.out
                    obtain ⟨cs, hcs⟩ : ∃ cs, cs = (List.range ds.length).map fun t => cov (fmOf fs) (pOf (ps.set i y)) fs.length t := ⟨_, rfl⟩
                    rw [← hcs] at hcl hcb hsh hsl
                    have HSHO := Lib.hid (Short_any _ _ ds cs wd (HDA.out.below HBD.out) hsl hdl hcl HD60.out hcb)
                    have HPO := Lib.hid (short_pos hs1 hsh)
                    clear hcs hcl hcb hsh hsl hbd hps'
                    go_wp2_with fail
                    refine HSHO.out.mono ?_
                    rintro e we ⟨a4, c4, rfl, hsl4, hbe⟩
                    have HCI := Lib.hid (containsI_any _ (shortL ds cs) we hsl4 (by rw [shortL_length]; omega) HPO.out)
                    have HBE := Lib.hid (below_up HBD.out hbe HBD.out.size)
                    clear hsl4 hbe
                    go_wp2_with fail
                    refine HCI.out.mono ?_
                    rintro e wf ⟨rfl, rfl⟩
                    go_wp2_with fail
                    go_roundw
                    case rel => exact ⟨i + 1, by go_num, by rw [← HPL.out]; exact hips, HBE.out⟩
                    case measure => have := HPL.out; simp [intOf]; omega
              · obtain rfl : fs.length = i := by omega
                have HBR := Lib.hid hbr
                clear hbr
                go_wp2_with fail
                go_ret
                exact ⟨rfl, below_up HBA.out HBR.out HBA.out.size⟩

end Go.Proofs.YtfoehmieklldkaaDoor
