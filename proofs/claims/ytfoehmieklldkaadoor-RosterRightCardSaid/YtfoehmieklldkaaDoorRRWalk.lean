/- The walk of the law RosterRight. -/
import Derived.Test.YtfoehmieklldkaaDoorMany
import Derived.Test.YtfoehmieklldkaaDoorGrows
import Derived.Test.YtfoehmieklldkaaDoorRoster
namespace Go.Proofs.YtfoehmieklldkaaDoor
open Go.RowKit

set_option maxRecDepth 100000 in
set_option maxHeartbeats 8000000 in
theorem rr_walk (v pv : Value) (l : List (Int × Int)) (p : List Int) (P R M : Int) (w : World) (h : SliceAt 2 formR w v l) (hp : SliceAt 1 intR w pv p) (hl : l.length ≤ 140737488355328) :
    Calls Tryd.prog 7 #[v, pv, .agg #[.int .i64 P, .int .i64 R, .int .i64 M]] w (fun e w' => e = .returned (.bool true) ∧ Below w.heap.size w w') := by
  obtain ⟨a, cap, rfl⟩ := h.len
  obtain ⟨ap, cp, rfl⟩ := hp.len
  have H := Lib.hid h
  have HP := Lib.hid hp
  have hbx := box1 w #[.int .i64 P, .int .i64 R, .int .i64 M] 50
  clear h hp
  go_enter Tryd.func7, Tryd.ntmps7
  go_upto_region 1 with fail
  generalize w.alloc (.cells #[.int .i64 P, .int .i64 R, .int .i64 M] 50) = w2 at *
  obtain ⟨hx, hbl⟩ := hbx
  have HX := Lib.hid hx
  have HB2 := Lib.hid hbl
  clear hx hbl
  go_wp2_with fail
  refine (awake_any w2).mono ?_
  rintro e w3 ⟨rfl, hb3⟩
  have HX3 := Lib.hid (HX.out.below hb3 HX.out.lt)
  have HB3 := Lib.hid (below_up HB2.out hb3 HB2.out.size)
  have k0 := HX3.out.cell 0
  have k1 := HX3.out.cell 1
  have k2 := HX3.out.cell 2
  clear hb3
  go_wp2_with fail
  refine (Roster_any _ _ l p P R M w3 (H.out.stable formR_stable HB3.out) (HP.out.stable intR_stable HB3.out) hl).mono ?_
  rintro e w4 ⟨ga, gn, gc, la, ln, lc, code, rfl, hb4, hcase⟩
  have HX4 := Lib.hid (HX3.out.below hb4 HX3.out.lt)
  have HB4 := Lib.hid (below_up HB3.out hb4 HB3.out.size)
  clear hb4 k0 k1 k2
  rcases hcase with ⟨hcode, rfl, rfl, _⟩ | ⟨rfl, fs, ps, g, lf, P', R', M', rfl, rfl, rfl, hP, hR, hM, hfe, rfl, hf60, hok, rfl, hpl, hp60, hgl, rfl, rfl, hg, hlf, hright, hlff, hcnt⟩
  · have q0 : (code == 0) = false := by simpa using hcode
    have q1 : (code != 0) = true := by simpa using hcode
    clear hcode
    go_wp2_with fail
    go_ret
    exact ⟨by simp, HB4.out⟩
  · have HFE := Lib.hid hfe
    have HOK := Lib.hid hok
    have HPL := Lib.hid hpl
    have HP60 := Lib.hid hp60
    have HG := Lib.hid hg
    have HLF := Lib.hid hlf
    have HRT := Lib.hid hright
    have HLFF := Lib.hid hlff
    have HCNT := Lib.hid hcnt
    have hfl : (fs.map FN.pair).length = fs.length := by simp
    have hil : (intsOf ps).length = ps.length := intsOf_length ps
    have HF : Hid (FormsAt w _ fs) := Lib.hid (H.out : SliceAt 2 formR w _ (fs.map FN.pair))
    have HPN : Hid (NatsAt w _ ps) := Lib.hid (HP.out : SliceAt 1 intR w _ (intsOf ps))
    rw [hfl] at HF ⊢
    rw [hil] at HPN ⊢
    have hmk := fun W => make_ints W fs.length (by omega)
    clear hfe hok hpl hp60 hg hlf hright hlff hcnt hfl hil H HP
    go_upto_region 7 with fail
    have hmi := madeInts w4 fs.length
    have hb5 : Below w4.heap.size w4 (w4.alloc (.cells (madeCells #[.int .i64 0] fs.length) 3)) := (Below.refl _ _).alloc (Nat.le_refl _) _
    rw [replicate_map] at hmi
    generalize w4.alloc (.cells (madeCells #[.int .i64 0] fs.length) 3) = w5 at *
    have HMI := Lib.hid hmi
    have HB5 := Lib.hid hb5
    have hw45 : w4.heap.size < w5.heap.size := hmi.lt
    clear hmi hb5 hmk
    have hdf : ∀ d ∈ g ++ lf, d.1 < fs.length := fun d hd => by
      rcases List.mem_append.1 hd with hd | hd
      · obtain ⟨k, hk, rfl⟩ := List.getElem_of_mem hd
        exact (HRT.out k hk).f
      · exact HLFF.out d hd
    have hgl2 : (g ++ lf).length ≤ 2000 := by rw [List.length_append]; exact hgl
    have HCC := Lib.hid (fun b W h0 h1 h2 => concat_any b ga la gc lc g lf W h0 h1 h2 hgl)
    obtain ⟨ds, hds⟩ : ∃ ds, ds = g ++ lf := ⟨_, rfl⟩
    rw [← hds] at hdf hgl2 HCC
    have HDF := Lib.hid hdf
    have HDS := Lib.hid hds
    clear hdf hds
    go_wp2_with (refine (HCC.out _ _ (Has.new _ _ _) (SliceAt.stable dutyR_stable HG.out (HB5.out.alloc (by omega) _)) (SliceAt.stable dutyR_stable HLF.out (HB5.out.alloc (by omega) _))).mono ?_; rintro e w6 ⟨ac, cc, rfl, hown, hb6⟩)
    have hb65 : Below w5.heap.size w5 w6 := below_up ((Below.refl _ _).alloc (Nat.le_refl _) _) hb6 (by simp)
    obtain ⟨B, HI0⟩ : ∃ B, Hid (MnInv fs.length ds B w4 w6 (.slice ac ds.length cc) 0) := ⟨_, Lib.hid ⟨Has.below HMI.out hb65 HMI.out.lt, hown, below_up HB5.out hb65 HB5.out.size⟩⟩
    clear hown hb6 hb65
    go_wp2_with fail
    go_loopw [12, 40] (fun _ iv wr => ∃ i : Nat, iv = .int .i64 i ∧ i ≤ ds.length ∧ MnInv fs.length ds B w4 wr (.slice ac ds.length cc) i) (fun _ iv _ => ds.length - (intOf iv).toNat)
    case atStart => exact ⟨0, rfl, Nat.zero_le _, HI0.out⟩
    case round =>
      obtain ⟨i, rfl, hi, hinv⟩ := hrel
      clear HI0
      by_cases hlt : i < ds.length
      · obtain ⟨b, off, cap', hv, hc', hb, e0, e1⟩ := hinv.duty hlt
        simp only [Value.slice.injEq] at hv
        obtain ⟨rfl, _, rfl⟩ := hv
        have hdf := HDF.out _ (List.getElem_mem hlt)
        have hcl := cnt_le ds i ds[i].1
        have hcell := (hinv.ints.cells ds[i].1 (by simpa using hdf))
        simp only [List.getElem_map, List.getElem_range] at hcell
        have HSTEP := Lib.hid (fun W (hW : Below wr.heap.size wr W) u hu => (hinv.below' hW).step (u := u) hlt hdf hu)
        have HINV := Lib.hid hinv
        obtain ⟨bxx, bb⟩ := box1 wr #[.int .i64 (ds[i].1 : Nat), .int .i64 (ds[i].2 : Nat)] 60
        have hkl := hinv.ints.lt
        clear hinv
        generalize ds[i].1 = t at *
        generalize ds[i].2 = q at *
        generalize cnt (ds.take i) t = cn at *
        go_upto_region 10 with fail
        have k0 := bxx.cell 0
        have hne := bxx.lt
        have z0 := (below_cell bb hkl).trans hcell.1
        have z1 := (below_frozen bb hkl).trans hcell.2
        have HBB := Lib.hid bb
        have hbs := bb.size
        clear bxx bb e0 e1 hcell
        generalize wr.alloc (.cells #[.int .i64 (t : Nat), .int .i64 (q : Nat)] 60) = wb at *
        generalize wr.heap.size = bd at *
        go_upto_region 12 with fail
        go_wp2_with fail
        go_roundw
        case rel => exact ⟨i + 1, by go_num, by omega, (HSTEP.out _ HBB.out _ rfl)⟩
        case measure => simp [intOf]; omega
      · obtain rfl : ds.length = i := by omega
        have hx4 := HX4.out.below hinv.below HX4.out.lt
        have k0 := hx4.cell 0
        have k1 := hx4.cell 1
        have k2 := hx4.cell 2
        have hbw := below_up HB4.out hinv.below HB4.out.size
        have HF7 := Lib.hid (HF.out.below hbw)
        have HP7 := Lib.hid (HPN.out.below hbw)
        have HG7 := Lib.hid (SliceAt.stable dutyR_stable HG.out hinv.below)
        have hm := hinv.ints
        rw [List.take_length, HDS.out, ← HPL.out, many_plan (fun t ht => HCNT.out t (by rw [← HPL.out]; exact ht))] at hm
        have HM := Lib.hid hm
        have HBW := Lib.hid hbw
        clear hinv hx4 hm hbw
        go_wp2_with fail
        refine (Judge_any _ _ fs P' R' M' g wr HF7.out HG7.out hf60 HOK.out HFE.out hP hR hM (by omega) HRT.out).mono ?_
        rintro e w8 ⟨rfl, hb8⟩
        have hs8 : NatsAt w8 (.slice (some ⟨w4.heap.size, 0, none⟩) fs.length fs.length) ps := by
          have h1 := HM.out.slice (cap := fs.length) (by rw [intsOf_length, HPL.out]; exact Nat.le_refl _)
          rw [intsOf_length, HPL.out] at h1
          exact SliceAt.stable intR_stable h1 hb8
        have hp8 := HP7.out.below hb8
        have hlen : ps.length ≤ 60 := by rw [HPL.out]; exact hf60
        have HEQ := Lib.hid (equal_same _ _ ps w8 hs8 hp8 (by omega))
        have HB8 := Lib.hid hb8
        clear hs8 hp8 hb8 k0 k1 k2
        go_wp2_with fail
        refine HEQ.out.mono ?_
        rintro e w9 ⟨rfl, hb9⟩
        go_wp2_with fail
        go_ret
        exact ⟨rfl, below_up (below_up HBW.out HB8.out HBW.out.size) hb9 (Nat.le_trans HBW.out.size HB8.out.size)⟩

end Go.Proofs.YtfoehmieklldkaaDoor
