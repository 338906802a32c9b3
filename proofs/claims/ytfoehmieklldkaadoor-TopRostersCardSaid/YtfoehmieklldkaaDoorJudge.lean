/- The walk of staff.Judge over right duties: it finds no breach. -/
import Derived.Test.YtfoehmieklldkaaDoorJudM
namespace Go.Proofs.YtfoehmieklldkaaDoor
open Go.RowKit

theorem duty_cells {w : World} {b off : Nat} {l : List (Nat × Nat)} (h : ∀ i (h : i < l.length), ∃ cs, ElemAt w b off 2 i cs ∧ dutyR w cs l[i]) (i : Nat) (hi : i < l.length) :
    w.cell? ⟨b, off + i * 2, none⟩ = some (.int .i64 (l[i].1 : Nat)) ∧ w.cell? ⟨b, off + i * 2 + 1, none⟩ = some (.int .i64 (l[i].2 : Nat)) := by
  obtain ⟨cs, ⟨_, hc⟩, hr⟩ := h i hi
  cases hr
  exact ⟨by simpa using hc 0 (by simp), by simpa using hc 1 (by simp)⟩
theorem rulesE_zero {P R M : Nat} (hP : P ≤ 60) (hR : R ≤ 400) (hM : M ≤ 400) : rulesE P R M = 0 := by
  unfold rulesE
  rw [if_pos (by omega)]

set_option maxRecDepth 100000 in
set_option maxHeartbeats 4000000 in
theorem Judge_any (v gv : Value) (fs : List FN) (P R M : Nat) (g : List (Nat × Nat)) (w : World) (h : FormsAt w v fs) (hg : SliceAt 2 dutyR w gv g) (hl60 : fs.length ≤ 60) (hok : ∀ x ∈ fs, x.ok) (hfe : formsE (fs.map FN.pair) = 0)
    (hP : P ≤ 60) (hR : R ≤ 400) (hM : M ≤ 400) (hgl : g.length ≤ 2000) (hr : RightG fs P R M g) :
    Calls Tryd.prog 23 #[v, .agg #[.int .i64 (P : Nat), .int .i64 (R : Nat), .int .i64 (M : Nat)], gv] w fun e w' => e = .returned (.tuple #[.slice none 0 0, .int .i64 0]) ∧ Below w.heap.size w w' := by
  obtain ⟨a, cap, rfl⟩ := h.len
  obtain ⟨ag, cg, rfl⟩ := SliceAt.len hg
  have H := Lib.hid h
  have HG := Lib.hid hg
  have HOK := Lib.hid hok
  have HR := Lib.hid hr
  have hbx := box1 w #[.int .i64 (P : Nat), .int .i64 (R : Nat), .int .i64 (M : Nat)] 50
  have hcf := fun W hW => CheckForms_any (.slice a fs.length cap) (fs.map FN.pair) W hW
  rw [hfe] at hcf
  have HCF := Lib.hid hcf
  have hcr := fun W => CheckRules_any (P : Nat) (R : Nat) (M : Nat) W
  rw [rulesE_zero hP hR hM] at hcr
  have HCR := Lib.hid hcr
  clear h hg hok hr hfe hcf hcr
  go_enter Tryd.func23, Tryd.ntmps23
  go_upto_region 1 with fail
  generalize w.alloc (.cells #[.int .i64 (P : Nat), .int .i64 (R : Nat), .int .i64 (M : Nat)] 50) = w2 at *
  obtain ⟨hx, hbl⟩ := hbx
  have HX := Lib.hid hx
  have HB2 := Lib.hid hbl
  have k0 := hx.cell 0
  have k1 := hx.cell 1
  have k2 := hx.cell 2
  have HKS := Lib.hid (fun W (hW : Below w2.heap.size w2 W) => (⟨(below_cell hW hx.lt).trans k0, (below_cell hW hx.lt).trans k1, (below_cell hW hx.lt).trans k2⟩ : W.cell? ⟨w.heap.size, 0, none⟩ = some (.int .i64 (P : Nat)) ∧ W.cell? ⟨w.heap.size, 1, none⟩ = some (.int .i64 (R : Nat)) ∧ W.cell? ⟨w.heap.size, 2, none⟩ = some (.int .i64 (M : Nat))))
  have HFS := Lib.hid (fun W (hW : Below w2.heap.size w2 W) => (H.out.below HB2.out).below hW)
  clear hx hbl
  go_cut [8] (fun u wx => u = .int .i64 0 ∧ Below w2.heap.size w2 wx)
  case first =>
    go_region_held3 (fun W => W.cell? ⟨w.heap.size, 0, none⟩ = some (.int .i64 (P : Nat)) ∧ W.cell? ⟨w.heap.size, 1, none⟩ = some (.int .i64 (R : Nat)) ∧ W.cell? ⟨w.heap.size, 2, none⟩ = some (.int .i64 (M : Nat)))
      (first | exact HKS.out _ hB | exact HKS.out _ (hB.alloc hB.size _) | exact HKS.out _ (Below.refl _ _).drew)
      (first
        | (go_at_call 30; have hg := hn2; refine (or_any _ [0, 0] _ (ints2_at _ _ _ _) (by simp)).mono ?_; rintro e w' ⟨rfl, rfl⟩; have hB := hB.alloc hB.size (.cells #[.int .i64 0, .int .i64 0] 27))
        | (go_at_call 21; have hg := hn1; refine (HCR.out _).mono ?_; rintro e w' ⟨rfl, hb⟩; have hB := below_up' hB hb; have hn2 := True.intro)
        | (go_at_call 35; refine (HCF.out _ (HFS.out _ (Below.refl _ _).drew)).mono ?_; rintro e w' ⟨rfl, hb⟩; have hB := below_up' (Below.refl w2.heap.size w2).drew hb; have hn1 := True.intro))
    go_wp2
    go_meet
    exact ⟨by rw [show orI [0, 0] = 0 by decide], hB⟩
  case rest =>
    obtain ⟨rfl, hb3⟩ := hcut
    have HB3 := Lib.hid (below_up HB2.out hb3 HB2.out.size)
    have HX3 := Lib.hid (HX.out.below hb3 HX.out.lt)
    clear hb3 k0 k1 k2 HKS HFS HCF HCR
    have q0 : decide ((2000 : Int) < (g.length : Int)) = false := by simp; omega
    have k0 := HX3.out.cell 0
    have s0 : IntKind.i64.wrap ((P : Int) + 1) = (P : Int) + 1 := IntWalk.i64_in _ (by omega)
    have hmk1 := fun W => make_ints1 W P (by omega)
    go_upto_region 8 with fail
    clear hmk1 k0 q0
    have hmi := madeInts wc (P + 1)
    have hb4 : Below wc.heap.size wc (wc.alloc (.cells (madeCells #[.int .i64 0] (P + 1)) 3)) := (Below.refl _ _).alloc (Nat.le_refl _) _
    have hbw := HB3.out.size
    generalize wc.alloc (.cells (madeCells #[.int .i64 0] (P + 1)) 3) = w4 at *
    have HMI := Lib.hid hmi
    have HX4 := Lib.hid (HX3.out.below hb4 HX3.out.lt)
    have HB4 := Lib.hid (below_up HB3.out hb4 HB3.out.size)
    generalize wc.heap.size = bs at *
    have k0 := HX4.out.cell 0
    have hmk2 := fun W => make_bools1 W P (by omega)
    clear hmi hb4
    go_upto_region 9 with fail
    clear hmk2 k0
    have hb5 : Below w4.heap.size w4 (w4.alloc (.cells (madeCells #[.bool false] (P + 1)) 4)) := (Below.refl _ _).alloc (Nat.le_refl _) _
    generalize w4.alloc (.cells (madeCells #[.bool false] (P + 1)) 4) = w5 at *
    have HMI5 := Lib.hid (Has.below HMI.out hb5 (Has.lt HMI.out))
    have HX5 := Lib.hid (HX4.out.below hb5 HX4.out.lt)
    have HB5 := Lib.hid (below_up HB4.out hb5 HB4.out.size)
    have k0 := HX5.out.cell 0
    have hmk3 := fun W => make_rows1 W P (by omega)
    clear hb5
    go_upto_region 10 with fail
    clear hmk3 k0
    have hmn := madeNils w5 (P + 1) 34
    have hb6 : Below w5.heap.size w5 (w5.alloc (.cells (madeCells #[.slice none 0 0] (P + 1)) 34)) := (Below.refl _ _).alloc (Nat.le_refl _) _
    have hbw5 := HB5.out.size
    generalize w5.alloc (.cells (madeCells #[.slice none 0 0] (P + 1)) 34) = w6 at *
    have HMI6 : Hid (IntsB w6 bs ((List.range (P + 1)).map fun p => ((loadN fs (g.take 0) p : Nat) : Int))) := Lib.hid (by
      have := Has.below HMI5.out hb6 (Has.lt HMI5.out)
      rw [replicate_map] at this
      exact this)
    have HJ0 := Lib.hid (show JuM fs P R M g w w6 w.heap.size bs w5.heap.size 0 0 (fun _ => .slice none 0 0) from ⟨HX5.out.below hb6 HX5.out.lt, hmn, HMI6.out, Rows.nils _ _ _ _ _, fun _ _ => by simp [Value.ownBlock], Nat.le_refl _, hbw, hbw5, below_up HB5.out hb6 HB5.out.size⟩)
    generalize w5.heap.size = bm at *
    clear hmn hb6 HMI HMI5 HMI6 HX3 HX4 HX5
    go_wp2_with fail
    go_loopw [9, 13, 14, 16, 43] (fun ov _ _ _ iv wr => ∃ (i : Nat) (V : Nat → Value), iv = .int .i64 i ∧ i ≤ g.length ∧ ov = .slice none 0 0 ∧ JuM fs P R M g w wr w.heap.size bs bm i i V) (fun _ _ _ _ iv _ => g.length - (intOf iv).toNat)
    case atStart => exact ⟨0, _, rfl, Nat.zero_le _, rfl, HJ0.out⟩
    case round =>
      obtain ⟨i, V, rfl, hi, rfl, hj⟩ := hrel
      by_cases hlt : i < g.length
      · obtain ⟨bg, og, cgg, hvg, hcg, hbg, helg⟩ := SliceAt.at HG.out (by omega)
        cases hvg
        obtain ⟨e0, e1⟩ := duty_cells helg i hlt
        have c0 := (below_cell hj.below hbg).trans e0
        have c1 := (below_cell hj.below hbg).trans e1
        have hd := HR.out i hlt
        have hbgr : bg < wr.heap.size := Nat.lt_of_lt_of_le hbg hj.below.size
        have HGC := Lib.hid (fun k (hk : k < g.length) => (duty_cells helg k hk).1)
        obtain ⟨d, hdd⟩ : ∃ d, d = g[i] := ⟨_, rfl⟩
        have HDD := Lib.hid (show ∃ h : i < g.length, d = g[i] from ⟨hlt, hdd⟩)
        rw [← hdd] at c0 c1 hd
        obtain ⟨d1, d2⟩ := d
        obtain ⟨h1, h2, h3, h4, h5⟩ := hd
        simp only at c0 c1 h1 h2 h3 h4 h5
        have HAP := Lib.hid h4
        have HMO := Lib.hid h5
        clear helg e0 e1 hdd h4 h5
        go_upto_region 13 with fail
        obtain ⟨bxx, bb⟩ := box1 wr #[.int .i64 (d1 : Nat), .int .i64 (d2 : Nat)] 60
        have HJ5 := Lib.hid (hj.below' bb)
        have HBX := Lib.hid bxx
        clear hj bb c0 c1
        generalize wr.alloc (.cells #[.int .i64 (d1 : Nat), .int .i64 (d2 : Nat)] 60) = wf at *
        generalize wr.heap.size = bd at *
        have k0 := bxx.cell 0
        have k1 := bxx.cell 1
        have k2 := HJ5.out.kx.cell 0
        have b1 : (decide ((0 : Int) ≤ (d1 : Int)) && decide ((d1 : Int) ≤ (fs.length : Int) - 1)) = true := by simp; omega
        have b2 : (decide ((1 : Int) ≤ (d2 : Int)) && decide ((d2 : Int) ≤ (P : Int))) = true := by simp; omega
        have s1 : IntKind.i64.wrap ((fs.length : Int) - 1) = (fs.length : Int) - 1 := IntWalk.i64_in _ (by omega)
        clear bxx
        go_wp2_with fail
        refine (within_any _ _ _ _).mono ?_
        rintro e w' ⟨rfl, rfl⟩
        rw [b1]
        go_wp2_with fail
        refine (within_any _ _ _ _).mono ?_
        rintro e w' ⟨rfl, rfl⟩
        rw [b2]
        go_wp2_with fail
        refine (within_any _ _ _ _).mono ?_
        rintro e w' ⟨rfl, rfl⟩
        rw [b1]
        go_wp2_with fail
        refine (within_any _ _ _ _).mono ?_
        rintro e w' ⟨rfl, rfl⟩
        rw [b2]
        have hqP : d2 < P + 1 := by omega
        obtain ⟨va, vc, hvq⟩ := owns_slice (HJ5.out.rows.own d2 hqP)
        have d3 := HJ5.out.kh.cell d2
        rw [show ((List.range (P + 1)).map V).toArray[d2]? = some (V d2) by simp [hqP], hvq] at d3
        have hrow := nat_slice (HJ5.out.rows.own d2 hqP)
        rw [hvq] at hrow
        have HROW := Lib.hid hrow
        have HVQ := Lib.hid hvq
        have s2 : IntKind.i64.wrap (d2 : Int) = (d2 : Int) := IntWalk.i64_in _ (by omega)
        have hil := idxL_length g i d2
        clear hrow hvq b1 b2 s1
        go_wp2_with fail
        clear k0 k1 k2 d3
        go_loopw [9, 16, 92] (fun ov _ kv wx => ∃ k : Nat, kv = .int .i64 k ∧ k ≤ (idxL g i d2).length ∧ ov = .slice none 0 0 ∧ Below wf.heap.size wf wx) (fun _ _ kv _ => (idxL g i d2).length - (intOf kv).toNat)
        case atStart => exact ⟨0, rfl, Nat.zero_le _, rfl, Below.refl _ _⟩
        case round =>
          obtain ⟨k, rfl, hk, rfl, hbw2⟩ := hrel
          by_cases hkl : k < (idxL g i d2).length
          · have hkl2 : k < (intsOf (idxL g i d2)).length := by simpa [intsOf] using hkl
            obtain ⟨br, orr, cr, hv, hcr, hbr, helr⟩ := SliceAt.at (SliceAt.stable intR_stable HROW.out hbw2) (by omega)
            simp only [Value.slice.injEq] at hv
            obtain ⟨rfl, hvl, rfl⟩ := hv
            clear hvl
            have c0 := ints_cell helr k (((idxL g i d2)[k] : Nat) : Int) (by simp [intsOf, hkl])
            obtain ⟨hkk, hmem⟩ := hasL_of_idx (fs := fs) hi (List.getElem_mem hkl)
            have hkr : (idxL g i d2)[k] < g.length := hkk
            generalize (idxL g i d2)[k] = kk at *
            have hap := HAP.out _ hmem
            have hf0 := (HR.out kk hkk).f
            have hj := HJ5.out.below' hbw2
            have hbx := HBX.out.below hbw2 HBX.out.lt
            obtain ⟨bf, off, cap', hvf, hcapf, hbf, helf⟩ := H.out.at (by omega)
            cases hvf
            have g0 := (below_cell hj.below hbg).trans (HGC.out kk hkk)
            rw [fOf_at hf0, fOf_at h1] at hap
            have hy1 := HOK.out fs[g[kk].1] (List.getElem_mem hf0)
            have hy2 := HOK.out fs[d1] (List.getElem_mem h1)
            obtain ⟨e0, e1⟩ := helf g[kk].1 hf0
            obtain ⟨e2, e3⟩ := helf d1 h1
            have f0 := (below_cell hj.below hbf).trans e0
            have f1 := (below_cell hj.below hbf).trans e1
            have f2 := (below_cell hj.below hbf).trans e2
            have f3 := (below_cell hj.below hbf).trans e3
            have k0 := hbx.cell 0
            have k1 := hj.kx.cell 1
            have hw1 : bg < wr.heap.size := Nat.lt_of_lt_of_le hbg hj.below.size
            have hw2 : bf < wr.heap.size := Nat.lt_of_lt_of_le hbf hj.below.size
            have hw3 := hbx.lt
            have hw4 := hj.kx.lt
            have hca := fun W => apart_any fs[g[kk].1] fs[d1] R hy1 hy2 hR W
            rw [hap] at hca
            generalize fs[g[kk].1] = y1 at *
            generalize fs[d1] = y2 at *
            generalize g[kk].1 = fi at *
            unfold FN.agg at hca
            have HCA := Lib.hid hca
            have HBW2 := Lib.hid hbw2
            have HKS := Lib.hid (fun W (hW : Below wr.heap.size wr W) => (⟨(below_cell hW hw1).trans g0, (below_cell hW hw2).trans f0, (below_cell hW hw2).trans f1, (below_cell hW hw2).trans f2, (below_cell hW hw2).trans f3, (below_cell hW hw3).trans k0, (below_cell hW hw4).trans k1⟩ :
              W.cell? ⟨bg, og + kk * 2, none⟩ = some (.int .i64 (fi : Nat)) ∧ W.cell? ⟨bf, off + fi * 2, none⟩ = some (.int .i64 (y1.f : Nat)) ∧ W.cell? ⟨bf, off + fi * 2 + 1, none⟩ = some (.int .i64 (y1.n : Nat)) ∧ W.cell? ⟨bf, off + d1 * 2, none⟩ = some (.int .i64 (y2.f : Nat)) ∧ W.cell? ⟨bf, off + d1 * 2 + 1, none⟩ = some (.int .i64 (y2.n : Nat)) ∧ W.cell? ⟨bd, 0, none⟩ = some (.int .i64 (d1 : Nat)) ∧ W.cell? ⟨w.heap.size, 1, none⟩ = some (.int .i64 (R : Nat))))
            have t1 : IntKind.i64.wrap (kk : Int) = (kk : Int) := IntWalk.i64_in _ (by omega)
            have t2 : IntKind.i64.wrap (fi : Int) = (fi : Int) := IntWalk.i64_in _ (by omega)
            have t3 : IntKind.i64.wrap (d1 : Int) = (d1 : Int) := IntWalk.i64_in _ (by omega)
            clear helr helf e0 e1 e2 e3 hj hbx hap hy1 hy2 hca hmem g0 f0 f1 f2 f3 k0 k1 hbw2
            go_upto_region 21 with fail
            clear c0
            go_cut [112] (fun u wx => u = .bool false ∧ Below wr.heap.size wr wx)
            case first =>
              go_region_held3 (fun W => W.cell? ⟨bg, og + kk * 2, none⟩ = some (.int .i64 (fi : Nat)) ∧ W.cell? ⟨bf, off + fi * 2, none⟩ = some (.int .i64 (y1.f : Nat)) ∧ W.cell? ⟨bf, off + fi * 2 + 1, none⟩ = some (.int .i64 (y1.n : Nat)) ∧ W.cell? ⟨bf, off + d1 * 2, none⟩ = some (.int .i64 (y2.f : Nat)) ∧ W.cell? ⟨bf, off + d1 * 2 + 1, none⟩ = some (.int .i64 (y2.n : Nat)) ∧ W.cell? ⟨bd, 0, none⟩ = some (.int .i64 (d1 : Nat)) ∧ W.cell? ⟨w.heap.size, 1, none⟩ = some (.int .i64 (R : Nat)))
                (first | exact HKS.out _ hB | exact HKS.out _ (Below.refl _ _).drew)
                (first | (go_at_call 51; refine (HCA.out _).mono ?_; rintro e w' ⟨rfl, hb⟩; have hB := below_up' (Below.refl wr.heap.size wr).drew hb))
              go_wp2
              go_meet
              exact ⟨rfl, hB⟩
            case rest =>
              obtain ⟨rfl, hbw3⟩ := hcut
              have HBW3 := Lib.hid (below_up' HBW2.out hbw3)
              clear hbw3
              go_wp2_with fail
              go_roundw
              case rel => exact ⟨k + 1, by go_num, by omega, rfl, HBW3.out⟩
              case measure => simp [intOf]; omega
          · obtain rfl : k = (idxL g i d2).length := by omega
            have hj := HJ5.out.below' hbw2
            have hbx := HBX.out.below hbw2 HBX.out.lt
            have HJ6 := Lib.hid hj
            have HBX6 := Lib.hid hbx
            have d3 := hj.kh.cell d2
            rw [show ((List.range (P + 1)).map V).toArray[d2]? = some (V d2) by simp [hqP], HVQ.out] at d3
            have d4 := hj.kh.fz d2
            have k1 := hbx.cell 1
            have hw1 := hbx.lt
            have hw3 := hj.kh.lt
            have hnd : bm ≠ bd := has_ne hj.kh hbx (by decide)
            have hn1 : (V d2).ownBlock ≠ some bm := own_ne_has (hj.rows.own d2 hqP) hj.kh (by decide)
            have hn2 : (V d2).ownBlock ≠ some bd := own_ne_has (hj.rows.own d2 hqP) hbx (by decide)
            have HOWN := Lib.hid (fun W (hW : Below wr.heap.size wr W) => owns_below (hj.rows.own d2 hqP) hW)
            rw [HVQ.out] at HOWN hn1 hn2
            have hbal : Below wr.heap.size wr (wr.drew.alloc (.cells #[.int .i64 (i : Nat)] 3)) := (Below.refl _ _).drew.alloc (by simp) _
            have HKG := Lib.hid (fun w6 (hg : (wr.drew.alloc (.cells #[.int .i64 (i : Nat)] 3)).grownBy w6 (Value.slice va (idxL g i d2).length vc).ownBlock) => (⟨(hg.frozen_far ⟨bm, d2, none⟩ (Nat.lt_of_lt_of_le hw3 hbal.size) (Ne.symm hn1)).trans ((below_frozen hbal hw3).trans d4),
              (hg.cell_far ⟨bm, d2, none⟩ (Nat.lt_of_lt_of_le hw3 hbal.size) (Ne.symm hn1)).trans ((below_cell hbal hw3).trans d3), (hg.cell_far ⟨bd, 1, none⟩ (Nat.lt_of_lt_of_le hw1 hbal.size) (Ne.symm hn2)).trans ((below_cell hbal hw1).trans k1)⟩ :
              w6.frozen? ⟨bm, d2, none⟩ = false ∧ w6.cell? ⟨bm, d2, none⟩ = some (.slice va (idxL g i d2).length vc) ∧ w6.cell? ⟨bd, 1, none⟩ = some (.int .i64 (d2 : Nat))))
            have d5 := (below_cell hbal hw3).trans d3
            have k5 := (below_cell hbal hw1).trans k1
            have hwb := hj.below.size
            have HBAL := Lib.hid hbal
            obtain ⟨i0, hi0, hz0, hz1, hz2⟩ := info_parts infoInt
            have HN2 := Lib.hid hn2
            clear hj hbx hn1 hn2 hbal hbw2
            have hidx : (d2 : Int) < (P : Int) + 1 := by omega
            go_upto_region 24 with fail
            go_cut [12] (fun u wx => u = .slice (some ⟨bm, 0, none⟩) (P + 1) (P + 1) ∧ ∃ v', JuM fs P R M g w wx w.heap.size bs bm (i + 1) i (updV V d2 v') ∧ Has wx bd #[.int .i64 (d1 : Nat), .int .i64 (d2 : Nat)] 60)
            case first =>
              go_region_law ((refine step_append_lies _ (by rfl) _ _ _ (by rfl) w.heap.size 3 i0 (.int .i64 0) 1 8 Tryd.underlying34 hi0 hz0 hz1 hz2 rfl (by omega) _ _ _ (by rfl) (HOWN.out _ HBAL.out) ⟨wr.heap.size, 0, none⟩ 1 1 [.int .i64 (i : Nat)] (by rfl) rfl (World.news_of_block (heap_alloc_new _ _)) (by simp [Value.oneCell']) (by omega) (by unfold maxLen; omega) (by omega) (by simp; omega) (wr.heap.size + 1) (by simp) ?_; intro g' c' w6 hown1 hgrow hat hlt'; have z1 := (HKG.out w6 hgrow).1; have z2 := (HKG.out w6 hgrow).2.1; have z3 := (HKG.out w6 hgrow).2.2))
              all_goals go_wp2
              all_goals go_meet
              all_goals
                obtain ⟨hlt2, hdg⟩ := HDD.out
                obtain ⟨v', rfl, hm⟩ := HJ6.out.addRow hlt2 (by rw [← hdg]) hqP HVQ.out HBAL.out hown1 hgrow hat
                exact ⟨rfl, _, hm, ((HBX6.out.below HBAL.out HBX6.out.lt).kept hgrow (Ne.symm HN2.out)).set_other _ _ (Ne.symm hnd)⟩
            case rest =>
              obtain ⟨rfl, v', hm, hbx7⟩ := hcut
              obtain ⟨e0, e1⟩ := hm.ks.cells d2 (by simpa using hqP)
              simp only [List.getElem_map, List.getElem_range] at e0
              obtain ⟨bf, off, cap', hvf, hcapf, hbf, helf⟩ := H.out.at (by omega)
              cases hvf
              have f1 := (below_cell hm.below hbf).trans (helf d1 h1).2
              have hmo := HMO.out
              have hyo := HOK.out fs[d1] (List.getElem_mem h1)
              have hfo := fOf_at h1
              rw [hfo] at hmo
              generalize fs[d1] = y at *
              obtain ⟨y1, y2, y3⟩ := hyo
              have k0 := hbx7.cell 0
              have k1 := hbx7.cell 1
              obtain ⟨hlt2, hdg⟩ := HDD.out
              have hm2 := hm.addSlots (q := d2) hlt2 (by rw [← hdg]) hqP (u := ((loadN fs (g.take i) d2 : Nat) : Int) + ((y.n : Nat) : Int)) (by rw [← hdg, hfo])
              have HM2 := Lib.hid hm2
              have HBX7 := Lib.hid (hbx7.set_other (c := bs) d2 (.int .i64 (((loadN fs (g.take i) d2 : Nat) : Int) + ((y.n : Nat) : Int))) (has_ne hbx7 hm.ks (by decide)))
              generalize loadN fs (g.take i) d2 = ld at *
              have s0 : IntKind.i64.wrap (((ld : Nat) : Int) + ((y.n : Nat) : Int)) = ((ld : Nat) : Int) + ((y.n : Nat) : Int) := IntWalk.i64_in _ (by omega)
              have t3 : IntKind.i64.wrap (d1 : Int) = (d1 : Int) := IntWalk.i64_in _ (by omega)
              clear hm hbx7 hm2 helf hdg hfo d3 d4 d5 k5
              go_upto_region 25 with fail
              go_cut [10] (fun u wx => u = .slice (some ⟨bs, 0, none⟩) (P + 1) (P + 1) ∧ (JuM fs P R M g w wx w.heap.size bs bm (i + 1) (i + 1) (updV V d2 v') ∧ Has wx bd #[.int .i64 (d1 : Nat), .int .i64 (d2 : Nat)] 60) ∧ wx.cell? ⟨bs, d2, none⟩ = some (.int .i64 (((ld : Nat) : Int) + ((y.n : Nat) : Int))))
              case first =>
                go_region
                all_goals go_wp2
                all_goals go_meet
                all_goals exact ⟨rfl, ⟨HM2.out.below' (Below.refl _ _).drew, HBX7.out.below (Below.refl _ _).drew HBX7.out.lt⟩, set_same e0⟩
              case rest =>
                obtain ⟨rfl, ⟨hm3, hbx8⟩, e4⟩ := hcut
                have k3 := hbx8.cell 1
                have k4 := hm3.kx.cell 2
                have HM3 := Lib.hid hm3
                have q3 : decide ((M : Int) < ((ld : Nat) : Int) + ((y.n : Nat) : Int)) = false := by simp; omega
                clear hm3 hbx8 e0 e1 f1 k0 k1
                go_upto_region 26 with fail
                go_quiet (fail)
                go_wp2
                go_roundw
                case rel => exact ⟨i + 1, _, by go_num, by omega, rfl, HM3.out.below' (drewN_below (Below.refl _ _) _)⟩
                case measure => simp [intOf]; omega
      · obtain rfl : g.length = i := by omega
        have HJ := Lib.hid hj
        clear hj
        go_wp2_with fail
        refine (sort_nil _ _).mono ?_
        rintro e w' ⟨rfl, rfl⟩
        go_wp2_with fail
        go_ret2
        exact ⟨rfl, HJ.out.below⟩

end Go.Proofs.YtfoehmieklldkaaDoor
