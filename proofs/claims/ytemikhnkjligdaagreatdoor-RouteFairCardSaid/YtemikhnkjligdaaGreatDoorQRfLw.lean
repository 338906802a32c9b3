/- The walk of the law RouteFair. -/
import Derived.Test.YtemikhnkjligdaaGreatDoorQRfEql
namespace Go.Proofs.YtemikhnkjligdaaGreatDoor
open Go Go.RowKit

theorem below_step {W a b : World} (h : Below W.heap.size W a) (k : Below a.heap.size a b) : Below W.heap.size W b := below_up h k h.size
set_option maxRecDepth 100000 in
set_option maxHeartbeats 4000000 in
theorem law_any (ps : List PerD) (vp : Value) (cs : List CalD) (vc : Value) (steps : List StD) (vs : Value) (l : List HdD) (v : Value) (ws : List WkD) (vw : Value) (m : Int) (w : World) (hp : Pers w vp ps) (hpl : ps.length ≤ 9223372036854775807)
    (hc : Clds w vc cs) (h : Hds w v l) (hws : Wks w vw ws) (hst : Sts w vs steps) (hE : Env w) :
    Calls Tryz.prog 3 #[vp, vc, v, vw, vs, .int .i64 m] w fun e w' => e = .returned (.bool true) ∧ Below w.heap.size w w' := by
  obtain ⟨pa, pc, rfl⟩ := SliceAt.len hp
  obtain ⟨ca, cc, rfl⟩ := SliceAt.len hc
  obtain ⟨a, cap, rfl⟩ := SliceAt.len h
  obtain ⟨wa, wcp, rfl⟩ := SliceAt.len hws
  obtain ⟨sa, sc, rfl⟩ := SliceAt.len hst
  have HP := Lib.hid hp
  have HC := Lib.hid hc
  have H := Lib.hid h
  have HW := Lib.hid hws
  have HS := Lib.hid hst
  have HPL := Lib.hid hpl
  have HE := Lib.hid hE
  clear hp hc h hws hst hpl hE
  have hmm := @run_makeMap Tryz.prog
  go_enter Tryz.func3, Tryz.ntmps3
  go_wp2_with fail
  refine (awakeRoute_any w HE.out).mono ?_
  rintro e w1 ⟨rfl, hb1⟩
  have HB1 := Lib.hid hb1
  clear hb1
  go_wp2_with fail
  refine (Assign_any ps _ cs _ steps _ l _ ws _ m w1 (HP.out.below HB1.out) HPL.out (HC.out.below HB1.out) (H.out.below HB1.out) (HW.out.below HB1.out) (HS.out.below HB1.out)).mono ?_
  rintro e w2 ⟨k, v1, v2, rfl, hk, hk1, hk2, hb2⟩
  have HB2 := Lib.hid (below_up HB1.out hb2 HB1.out.size)
  have HK := Lib.hid hk
  have HK1 := Lib.hid hk1
  have HK2 := Lib.hid hk2
  clear hk hk1 hk2 hb2 HB1
  by_cases hz : ¬ k = 0
  · have qz : (k == 0) = false := by simpa using hz
    have qz2 : (k != 0) = true := by simpa using hz
    obtain ⟨rfl, rfl⟩ := HK1.out hz
    clear hz
    go_wp2_with fail
    go_ret
    exact ⟨rfl, HB2.out⟩
  have hz := Decidable.not_not.1 hz
  have HF := Lib.hid (HK.out.1 hz)
  obtain ⟨all, left, hall, hleft, hde⟩ := HK2.out hz
  subst hz
  clear HK HK1 HK2
  obtain ⟨la, lc, rfl⟩ := SliceAt.len hall
  obtain ⟨ga, gc, rfl⟩ := SliceAt.len hleft
  have HD := Lib.hid hde
  have HAL := Lib.hid hall
  have HLE := Lib.hid hleft
  have hn := held_nodup HF.out.pre.hd HF.out.pre.wk HF.out.apart
  have HN := Lib.hid hn
  have HFA := Lib.hid (hde.fine HF.out.pre.hd HF.out.pre.wk HF.out.apart HF.out.pre.mo)
  have HFL := Lib.hid (HF.out.pre.wk.sub hde.sub)
  have hal := HFA.out.1
  have hll := HFL.out.few
  have hhl := HF.out.pre.hd.1
  have hwl := HF.out.pre.wk.few
  have hpl := HF.out.pre.pp.1
  have hlen := hde.len
  clear hall hleft hde hn
  obtain ⟨tot, ht⟩ : ∃ tot : Nat, tot = all.length + left.length := ⟨_, rfl⟩
  have r1 : IntKind.i64.wrap ((all.length : Int) + (left.length : Int)) = (tot : Int) := by rw [IntWalk.i64_in _ (by omega)]; omega
  have r2 : IntKind.i64.wrap ((l.length : Int) + (ws.length : Int)) = (tot : Int) := by rw [IntWalk.i64_in _ (by omega)]; omega
  clear hlen ht
  go_wp2_with fail
  refine (CheckHeld_any ps _ all _ w2 (HP.out.below HB2.out) HPL.out HAL.out).mono ?_
  rintro e w3 ⟨⟨k3, rfl, hk3⟩, hb3⟩
  obtain rfl := hk3.2 ⟨HF.out.pre.pp, HFA.out⟩
  have HB3 := Lib.hid hb3
  clear hb3 hk3
  go_wp2_with fail
  go_loopw [70] (fun iv wr => ∃ i : Nat, iv = .int .i64 ((i : Nat) : Int) ∧ i ≤ l.length ∧ Below w2.heap.size w2 wr) (fun iv _ => l.length - (intOf iv).toNat)
  case atStart => exact ⟨0, rfl, Nat.zero_le _, HB3.out⟩
  case round =>
    obtain ⟨i, rfl, hi, hbr⟩ := hrel
    have HBR := Lib.hid hbr
    clear hbr HB3
    by_cases hlt : i < l.length
    · obtain ⟨b, off, cp, hv, hb, hel⟩ := Hds.at (H.out.below (HB2.out.trans (HBR.out.mono HB2.out.size))) (by omega)
      cases hv
      obtain ⟨e0, e1, e2, e3⟩ := hel i hlt
      have HM := Lib.hid (HD.out.keeps _ (List.getElem_mem hlt))
      clear hel
      generalize l[i] = y at *
      obtain ⟨y1, y2, y3, y4⟩ := y
      simp only at e0 e1 e2 e3
      obtain ⟨bx, bbl⟩ := box1 wr #[.int .i64 y1, .int .i64 y2, .int .i64 y3, .int .i64 y4] 33
      have HB4 := Lib.hid (below_step HBR.out bbl)
      have HCN := Lib.hid (contains_any _ all ⟨y1, y2, y3, y4⟩ _ (HAL.out.below HB4.out) (by omega) HM.out)
      have k0 := bx.cell 0
      have k1 := bx.cell 1
      have k2 := bx.cell 2
      have k3 := bx.cell 3
      go_upto_region 11 with fail
      generalize wr.alloc (.cells #[.int .i64 y1, .int .i64 y2, .int .i64 y3, .int .i64 y4] 33) = wb at *
      clear bx bbl e0 e1 e2 e3
      go_wp2_with fail
      refine HCN.out.mono ?_
      rintro e w5 ⟨rfl, hb5⟩
      have HB5 := Lib.hid (below_step HB4.out hb5)
      clear hb5 HCN k0 k1 k2 k3
      go_wp2_with fail
      go_roundw
      case rel => exact ⟨i + 1, by go_num, hlt, HB5.out⟩
      case measure => simp [intOf]; omega
    · obtain rfl : i = l.length := by omega
      have HT0 := Lib.hid (TMap.made wr)
      have HB4 := Lib.hid (show Below w2.heap.size w2 (wr.alloc (.map #[] 0)) from HBR.out.alloc HBR.out.size _)
      have hMl : w2.heap.size ≤ wr.heap.size := HBR.out.size
      go_upto_region 15 with fail
      generalize wr.alloc (.map #[] 0) = w4 at *
      generalize wr.heap.size = Mb at *
      clear HBR
      go_wp2_with fail
      go_loopw [82] (fun iv wr => ∃ i : Nat, iv = .int .i64 ((i : Nat) : Int) ∧ i ≤ all.length ∧ (∃ S, TMap wr Mb i S ∧ ∀ t, t ∈ S ↔ t ∈ (all.take i).map (·.ticket)) ∧ Below w2.heap.size w2 wr) (fun iv _ => all.length - (intOf iv).toNat)
      case atStart => exact ⟨0, rfl, Nat.zero_le _, ⟨[], HT0.out, by simp⟩, HB4.out⟩
      case round =>
        clear HT0 HB4
        obtain ⟨i, rfl, hi, ⟨S, hS, hSm⟩, hbr⟩ := hrel
        have HBR := Lib.hid hbr
        have HSM := Lib.hid hSm
        have HTM := Lib.hid hS
        clear hbr hS hSm
        by_cases hlt : i < all.length
        · obtain ⟨b, off, cp, hv, hb, hel⟩ := Hds.at (HAL.out.below HBR.out) (by omega)
          cases hv
          obtain ⟨e0, e1, e2, e3⟩ := hel i hlt
          have htk := (HFA.out.2.each i hlt).1
          have HSN := Lib.hid (show (all.take (i + 1)).map (·.ticket) = (all.take i).map (·.ticket) ++ [all[i].ticket] by rw [List.take_succ_eq_append_getElem hlt, List.map_append]; rfl)
          clear hel
          generalize all[i] = y at *
          obtain ⟨y1, y2, y3, y4⟩ := y
          simp only at e0 e1 e2 e3 htk HSN
          obtain ⟨bx, bbl⟩ := box1 wr #[.int .i64 y1, .int .i64 y2, .int .i64 y3, .int .i64 y4] 33
          have HBB := Lib.hid (below_step HBR.out bbl)
          have k0 := bx.cell 0
          obtain ⟨w5, hrun, hT5, hg5⟩ := TMap.put (HTM.out.below bbl HTM.out.lt) (s := y1) (by omega) (by omega)
          go_upto_region 18 with fail
          generalize wr.alloc (.cells #[.int .i64 y1, .int .i64 y2, .int .i64 y3, .int .i64 y4] 33) = wb at *
          have HT5 := Lib.hid hT5
          have HB5 := Lib.hid (below_grown HBB.out hg5 HBB.out.size hMl)
          clear bx bbl e0 e1 e2 e3 hT5 hg5
          go_wp2_with fail
          go_roundw
          case rel =>
            refine ⟨i + 1, by go_num, hlt, ⟨y1 :: S, HT5.out, fun t => ?_⟩, HB5.out⟩
            rw [HSN.out, List.mem_append, List.mem_singleton, List.mem_cons, HSM.out t]
            exact Or.comm
          case measure => simp [intOf]; omega
        · obtain rfl : i = all.length := by omega
          have hsm := HSM.out
          rw [List.take_length] at hsm
          have HSA := Lib.hid hsm
          have HTA := Lib.hid HTM.out
          have HBA := Lib.hid HBR.out
          clear hsm HSM HTM HBR
          generalize hwr : wr = w5 at *
          clear hwr
          go_wp2_with fail
          go_loopw [92] (fun iv wr => ∃ i : Nat, iv = .int .i64 ((i : Nat) : Int) ∧ i ≤ left.length ∧ (∃ S, TMap wr Mb (all.length + i) S ∧ ∀ t, t ∈ S ↔ t ∈ all.map (·.ticket) ∨ t ∈ (left.take i).map (·.ticket)) ∧ Below w2.heap.size w2 wr) (fun iv _ => left.length - (intOf iv).toNat)
          case atStart => exact ⟨0, rfl, Nat.zero_le _, ⟨S, HTA.out, fun t => by rw [HSA.out t]; simp⟩, HBA.out⟩
          case round =>
            clear HTA HBA HSA
            obtain ⟨i, rfl, hi, ⟨S, hS, hSm⟩, hbr⟩ := hrel
            have HBR := Lib.hid hbr
            have HSM := Lib.hid hSm
            have HTM := Lib.hid hS
            clear hbr hS hSm
            by_cases hlt : i < left.length
            · obtain ⟨b, off, cp, hv, hb, hel⟩ := Wks.at (HLE.out.below HBR.out) (by omega)
              cases hv
              obtain ⟨u, e0, e1, e2, e3, e4, e5, hsk⟩ := hel i hlt
              obtain ⟨ka, kc, rfl⟩ := SliceAt.len hsk
              obtain ⟨sn, hsn⟩ : ∃ sn, sn = (left[i].needs).length := ⟨_, rfl⟩
              rw [← hsn] at e5
              have htk := (HFL.out.one _ (List.getElem_mem hlt)).1
              have HSN := Lib.hid (show (left.take (i + 1)).map (·.ticket) = (left.take i).map (·.ticket) ++ [left[i].ticket] by rw [List.take_succ_eq_append_getElem hlt, List.map_append]; rfl)
              have HNS := Lib.hid (show left[i].ticket ∉ S from fun hm => by
                rcases (HSM.out _).1 hm with q | q
                · obtain ⟨x, hx, e⟩ := List.mem_map.1 q
                  exact HD.out.apart HN.out _ (List.getElem_mem hlt) x hx e
                · obtain ⟨x, hx, e⟩ := List.mem_map.1 q
                  obtain ⟨j, hj, rfl⟩ := List.mem_iff_getElem.1 hx
                  rw [List.length_take] at hj
                  rw [List.getElem_take] at e
                  exact List.pairwise_iff_getElem.1 HFL.out.apart j i (by omega) hlt (by omega) e)
              clear hel hsk hsn
              obtain ⟨y, hy⟩ : ∃ y, y = left[i] := ⟨_, rfl⟩
              rw [← hy] at e0 e1 e2 e3 e4 htk HSN HNS
              clear hy
              obtain ⟨y1, y2, y3, y4, y5, sk⟩ := y
              simp only at e0 e1 e2 e3 e4 htk HSN HNS
              obtain ⟨bx, bbl⟩ := box1 wr #[.int .i64 y1, .int .i64 y2, .int .i64 y3, .int .i64 y4, .int .i64 y5, .slice ka sn kc] 38
              have HBB := Lib.hid (below_step HBR.out bbl)
              have k0 := bx.cell 0
              have hTb := HTM.out.below bbl HTM.out.lt
              have hlook := hTb.look (s := y1) (by omega)
              rw [decide_eq_false HNS.out] at hlook
              obtain ⟨w6, hrun, hT6, hg6⟩ := TMap.put hTb (s := y1) (by omega) (by omega)
              go_upto_region 23 with fail
              generalize wr.alloc (.cells #[.int .i64 y1, .int .i64 y2, .int .i64 y3, .int .i64 y4, .int .i64 y5, .slice ka sn kc] 38) = wb at *
              have HT6 := Lib.hid hT6
              have HB6 := Lib.hid (below_grown HBB.out hg6 HBB.out.size hMl)
              clear bx bbl e0 e1 e2 e3 e4 e5 hT6 hg6 hTb
              go_wp2_with fail
              go_roundw
              case rel =>
                refine ⟨i + 1, by go_num, hlt, ⟨y1 :: S, HT6.out, fun t => ?_⟩, HB6.out⟩
                rw [HSN.out, List.mem_append, List.mem_singleton, List.mem_cons, HSM.out t]
                constructor
                · rintro (g | g | g)
                  · exact .inr (.inr g)
                  · exact .inl g
                  · exact .inr (.inl g)
                · rintro (g | g | g)
                  · exact .inr (.inl g)
                  · exact .inr (.inr g)
                  · exact .inl g
              case measure => simp [intOf]; omega
            · obtain rfl : i = left.length := by omega
              have HB6 := Lib.hid HBR.out
              clear HBR HTM HSM
              generalize hwr : wr = w6 at *
              clear hwr
              have hBW := HB2.out.trans (HB6.out.mono HB2.out.size)
              have HR1 := Lib.hid (Room_any ps _ l _ w6 (HP.out.below hBW) HPL.out (H.out.below hBW))
              clear hBW
              go_wp2_with fail
              refine HR1.out.mono ?_
              rintro e w7 ⟨kr, vr, rfl, hkr, hvr, hb7⟩
              obtain rfl := hkr.2 ⟨HF.out.pre.pp, HF.out.pre.hd⟩
              have hvr := hvr rfl
              have HB7 := Lib.hid (below_step HB6.out hb7)
              obtain ⟨ra, rc, rfl⟩ := hvr.len
              have HV1 := Lib.hid hvr
              have hBW := HB2.out.trans (HB7.out.mono HB2.out.size)
              have HR2 := Lib.hid (Room_any ps _ all _ w7 (HP.out.below hBW) HPL.out (HAL.out.below HB7.out))
              have hrl : (rooms ps l).length = ps.length := by unfold rooms; rw [rmix_length]
              have HRL := Lib.hid hrl
              rw [hrl]
              clear hkr hvr hb7 HR1 hBW HB6 hrl
              go_wp2_with fail
              refine HR2.out.mono ?_
              rintro e w8 ⟨kr, vr, rfl, hkr, hvr, hb8⟩
              obtain rfl := hkr.2 ⟨HF.out.pre.pp, HFA.out⟩
              have hvr := hvr rfl
              have HB8 := Lib.hid (below_step HB7.out hb8)
              obtain ⟨sa', sc', rfl⟩ := hvr.len
              have HV2 := Lib.hid hvr
              have HV1' := Lib.hid (SliceAt.stable intR_stable HV1.out hb8)
              have hrl : (rooms ps all).length = ps.length := by unfold rooms; rw [rmix_length]
              have HRL2 := Lib.hid hrl
              rw [hrl]
              clear hkr hvr hb8 HR2 HB7 HV1 hrl
              go_wp2_with fail
              go_loopw [131] (fun iv wr => ∃ i : Nat, iv = .int .i64 ((i : Nat) : Int) ∧ i ≤ ps.length ∧ Below w8.heap.size w8 wr) (fun iv _ => ps.length - (intOf iv).toNat)
              case atStart => exact ⟨0, rfl, Nat.zero_le _, Below.refl _ _⟩
              case round =>
                obtain ⟨i, rfl, hi, hbr⟩ := hrel
                have HBR := Lib.hid hbr
                clear hbr
                by_cases hlt : i < ps.length
                · obtain ⟨b1, o1, c1, hv1, _, hbl1, hel1⟩ := (SliceAt.stable intR_stable HV1'.out HBR.out).at (by rw [HRL.out]; omega)
                  obtain ⟨b2, o2, c2, hv2, _, hbl2, hel2⟩ := (SliceAt.stable intR_stable HV2.out HBR.out).at (by rw [HRL2.out]; omega)
                  have x1 := ints_cell hel1 i _ (List.getElem?_eq_getElem (by rw [HRL.out]; exact hlt))
                  have x2 := ints_cell hel2 i _ (List.getElem?_eq_getElem (by rw [HRL2.out]; exact hlt))
                  rw [rooms_at hlt] at x1 x2
                  have hro := HD.out.room ps[i] (List.getElem_mem hlt)
                  rw [HRL.out] at hv1
                  rw [HRL2.out] at hv2
                  cases hv1
                  cases hv2
                  clear hel1 hel2
                  generalize ps[i].cap - wtN l ps[i].no = y1 at *
                  generalize ps[i].cap - wtN all ps[i].no = y2 at *
                  by_cases hneg : y2 < 0
                  · obtain rfl := hro hneg
                    have q1 : decide (y2 < 0) = true := decide_eq_true hneg
                    clear hro hneg
                    go_upto_region 34 with fail
                    go_quiet (fail)
                    go_wp2_with fail
                    go_roundw
                    case rel => exact ⟨i + 1, by go_num, hlt, drewN_below HBR.out _⟩
                    case measure => simp [intOf]; omega
                  · have q1 : decide (y2 < 0) = false := decide_eq_false hneg
                    clear hro hneg
                    go_upto_region 34 with fail
                    go_quiet (fail)
                    go_wp2_with fail
                    go_roundw
                    case rel => exact ⟨i + 1, by go_num, hlt, drewN_below HBR.out _⟩
                    case measure => simp [intOf]; omega
                · obtain rfl : i = ps.length := by omega
                  have hb9 := below_step HB8.out HBR.out
                  have HB9 := Lib.hid hb9
                  have hBW := HB2.out.trans (hb9.mono HB2.out.size)
                  have HWL := Lib.hid hBW
                  have HAS := Lib.hid (Assign_any ps _ cs _ steps _ all _ left _ m wr (HP.out.below hBW) HPL.out (HC.out.below hBW) (HAL.out.below hb9) (HLE.out.below hb9) (HS.out.below hBW))
                  have HFS := Lib.hid (show AsFine ps cs all left steps m from ⟨⟨HF.out.pre.pp, HF.out.pre.cl, HFA.out, HFL.out, HF.out.pre.st, HF.out.pre.mo⟩, HD.out.apart HN.out⟩)
                  clear hb9 hBW HBR HB8 HV1' HV2
                  go_wp2_with fail
                  refine HAS.out.mono ?_
                  rintro e w9 ⟨k9, u1, u2, rfl, hk9, _, hk2, hb9⟩
                  obtain rfl := hk9.2 HFS.out
                  obtain ⟨all2, left2, hal2, hle2, hde2⟩ := hk2 rfl
                  obtain ⟨rfl, hll2⟩ := HD.out.again HN.out hde2
                  obtain ⟨qa, qc, rfl⟩ := SliceAt.len hal2
                  obtain ⟨za, zc, rfl⟩ := SliceAt.len hle2
                  have HB10 := Lib.hid (below_step HB9.out hb9)
                  have HEQ := Lib.hid (equal_any _ _ all2 w9 hal2 (HAL.out.below HB10.out) (by omega))
                  have HW10 := Lib.hid (HB2.out.trans (HB10.out.mono HB2.out.size))
                  rw [hll2]
                  clear hk9 hk2 hb9 hal2 hle2 hde2 hll2 HAS HFS
                  go_wp2_with fail
                  refine HEQ.out.mono ?_
                  rintro e w10 ⟨rfl, hb10⟩
                  have HBF := Lib.hid (below_up HW10.out hb10 HW10.out.size)
                  clear hb10 HEQ
                  go_wp2_with fail
                  go_ret
                  exact ⟨by simp, HBF.out⟩
end Go.Proofs.YtemikhnkjligdaaGreatDoor
