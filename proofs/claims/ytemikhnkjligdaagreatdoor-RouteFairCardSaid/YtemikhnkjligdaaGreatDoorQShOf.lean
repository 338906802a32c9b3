/- The walk of (Calendar).shiftsOf. -/
import Derived.Test.YtemikhnkjligdaaGreatDoorQClone
namespace Go.Proofs.YtemikhnkjligdaaGreatDoor
open Go.RowKit

theorem find_some {l : List (Int × List Shf)} {day : Int} (h : l.Pairwise fun a b => a.1 < b.1) {k : Nat} (hk : k < l.length) (he : l[k].1 = day) : l.find? (fun s => decide (s.1 = day)) = some l[k] := by
  rw [List.find?_eq_some_iff_getElem]
  refine ⟨by simpa using he, k, hk, rfl, fun j hj => ?_⟩
  have := List.pairwise_iff_getElem.1 h j k (by omega) hk hj
  simp
  omega
theorem find_none {l : List (Int × List Shf)} {day : Int} (h : ∀ x ∈ l, x.1 ≠ day) : l.find? (fun s => decide (s.1 = day)) = none := by
  rw [List.find?_eq_none]
  intro x hx
  simpa using h x hx
/-- the shifts of the week that begin on a day -/
def wkD (l : List Shf) (day : Int) : List Shf := (l.filter fun x => decide (x.1 = day % 7)).map fun x => (0, x.2.1, x.2.2)
theorem wkD_hours (l : List Shf) (day : Int) : hours (wkD l day) = hours (l.filter fun x => decide (x.1 = day % 7)) := by
  unfold hours wkD
  rw [List.map_map]
  rfl
theorem wkD_next {l : List Shf} {i : Nat} (hi : i < l.length) (day : Int) : wkD (l.take (i + 1)) day = wkD (l.take i) day ++ (if l[i].1 = day % 7 then [(0, l[i].2.1, l[i].2.2)] else []) := by
  rw [List.take_succ_eq_append_getElem hi]
  unfold wkD
  rw [List.filter_append, List.map_append]
  congr 1
  by_cases g : l[i].1 = day % 7
  · rw [if_pos g, List.filter_cons_of_pos (by simpa using g)]; rfl
  · rw [if_neg g, List.filter_cons_of_neg (by simpa using g)]; rfl
theorem wkD_length (l : List Shf) (day : Int) : (wkD l day).length ≤ l.length := by
  unfold wkD
  rw [List.length_map]
  exact List.length_filter_le _ _
structure SoInv (l : List Shf) (day : Int) (w wr : World) (lv : Value) (i : Nat) : Prop where
  le : i ≤ l.length
  own : wr.ownsRow w.heap.size 138 3 lv (wkD (l.take i) day).length ((wkD (l.take i) day).flatMap encSh)
  below : Below w.heap.size w wr

set_option maxRecDepth 100000 in
set_option maxHeartbeats 4000000 in
theorem shiftsOf_any (c : CalD) (vcs vwk vsp : Value) (day : Int) (w : World) (h : CalAt w vcs vwk vsp c) (hc : CalFine c) (d1 : -1000000 ≤ day) (d2 : day ≤ 1000000) :
    Calls Tryz.prog 126 #[.agg #[.int .i64 c.off, vcs, vwk, vsp], .int .i64 day] w fun e w' => (∃ v l, e = .returned v ∧ w'.ownsRow w.heap.size 138 3 v l.length (l.flatMap encSh) ∧ hours l = shD c day) ∧ Below w.heap.size w w' := by
  have hpw := hc.days
  have hwl := hc.wl
  have hsl := hc.sl
  have HSH := Lib.hid (fun i hi => (hc.spc i hi).len)
  have HSD := Lib.hid (show shD c day = match c.sps.find? (fun s => decide (s.1 = day)) with
    | some s => hours s.2
    | none => hours (c.wk.filter fun x => decide (x.1 = day % 7)) from rfl)
  generalize shD c day = SD at *
  clear hc
  obtain ⟨off, cs, wk, sps⟩ := c
  obtain ⟨hcs, hwk, hsp⟩ := h
  simp only at hcs hwk hsp hpw hwl hsl
  obtain ⟨a1, n1, rfl⟩ := SliceAt.len hcs
  obtain ⟨a2, n2, rfl⟩ := SliceAt.len hwk
  obtain ⟨a3, n3, rfl⟩ := SliceAt.len hsp
  have HK := Lib.hid hwk
  have HS := Lib.hid hsp
  have HPW := Lib.hid hpw
  clear hcs hwk hsp hpw
  simp only
  have hbx := box1 w #[.int .i64 off, .slice a1 cs.length n1, .slice a2 wk.length n2, .slice a3 sps.length n3] 77
  go_enter Tryz.func126, Tryz.ntmps126
  go_upto_region 1 with fail
  generalize w.alloc (.cells #[.int .i64 off, .slice a1 cs.length n1, .slice a2 wk.length n2, .slice a3 sps.length n3] 77) = w2 at *
  obtain ⟨hx, hbl⟩ := hbx
  have k3 := hx.cell 3
  have HX := Lib.hid hx
  have HB2 := Lib.hid hbl
  clear hx hbl
  go_wp2_with fail
  refine (bin_any _ sps day w2 (HS.out.below HB2.out) (by omega) (fun i j hi hj hij => List.pairwise_iff_getElem.1 HPW.out i j hi hj hij)).mono ?_
  rintro e w3 ⟨⟨k, b, rfl, hf⟩, hb3⟩
  have HX3 := Lib.hid (HX.out.below hb3 HX.out.lt)
  have HB3 := Lib.hid (below_up HB2.out hb3 HB2.out.size)
  have HF := Lib.hid hf
  clear hb3 k3 HX hf
  have k3 := HX3.out.cell 3
  have k2 := HX3.out.cell 2
  cases b
  · have HSD2 := Lib.hid (show hours (wkD wk day) = SD by
      rw [HSD.out, find_none (HF.out.2 rfl), wkD_hours])
    clear HSD HF
    have hlt3 := HX3.out.lt
    have HB3s := HB3.out.size
    go_wp2_with fail
    go_loopw [7, 28] (fun lv iv wr => ∃ i : Nat, iv = .int .i64 i ∧ SoInv wk day w wr lv i) (fun _ iv _ => wk.length - (intOf iv).toNat)
    case atStart => exact ⟨0, rfl, Nat.zero_le _, ⟨rfl, .inl ⟨rfl, rfl⟩⟩, HB3.out⟩
    case round =>
      obtain ⟨i, rfl, hI⟩ := hrel
      have HI := Lib.hid hI
      have hi := hI.le
      clear hI
      by_cases hlt : i < wk.length
      · obtain ⟨b, of', cap', hv, hb, hel⟩ := Shifts.at HK.out (by omega)
        cases hv
        obtain ⟨e0, e1, e2⟩ := hel i hlt
        have c0 := (below_cell HI.out.below hb).trans e0
        have c1 := (below_cell HI.out.below hb).trans e1
        have c2 := (below_cell HI.out.below hb).trans e2
        have hnx := wkD_next hlt day
        have hln : (wkD (wk.take i) day).length ≤ 60 := Nat.le_trans (wkD_length _ _) (by rw [List.length_take]; omega)
        generalize wk[i] = x at *
        obtain ⟨x1, x2, x3⟩ := x
        simp only at c0 c1 c2 hnx
        have HNX := Lib.hid hnx
        clear e0 e1 e2 hel hnx
        go_upto_region 8 with fail
        obtain ⟨bx, bbl⟩ := box1 wr #[.int .i64 x1, .int .i64 x2, .int .i64 x3] 138
        have HB5 := Lib.hid (below_up HI.out.below bbl HI.out.below.size)
        have HBX := Lib.hid bx
        have HO5 := Lib.hid (owns_below HI.out.own bbl)
        have k0 := bx.cell 0
        have hBl := bx.lt
        generalize wr.alloc (.cells #[.int .i64 x1, .int .i64 x2, .int .i64 x3] 138) = wb at *
        generalize wr.heap.size = B at *
        clear bx bbl c0 c1 c2 k2 k3
        have s1 : IntKind.i64.wrap (7 * (day / 7)) = 7 * (day / 7) := IntWalk.i64_in _ (by omega)
        have s2 : IntKind.i64.wrap (day - 7 * (day / 7)) = day % 7 := by rw [IntWalk.i64_in _ (by omega)]; omega
        have HKS := Lib.hid (fun W (hW : Below wb.heap.size wb W) => (below_cell hW hBl).trans k0)
        go_cut [39] (fun u wx => u = .bool (x1 == day % 7) ∧ Below wb.heap.size wb wx)
        case first =>
          go_region_held3 (fun W => W.cell? ⟨B, 0, none⟩ = some (.int .i64 x1))
            (first | exact HKS.out _ hB | exact HKS.out _ (Below.refl _ _).drew)
            ((go_at_call 127; refine (floor7_any day (by omega) (by omega) _).mono ?_; rintro e w' ⟨rfl, rfl⟩))
          go_wp2
          go_meet
          first | exact ⟨rfl, hB⟩ | exact ⟨rfl, (Below.refl _ _).drew⟩
        case rest =>
          obtain ⟨rfl, hbw⟩ := hcut
          have HBW := Lib.hid (below_up HB5.out hbw HB5.out.size)
          have HOW := Lib.hid (owns_below HO5.out hbw)
          have HXW := Lib.hid (HBX.out.below hbw HBX.out.lt)
          have k1 := HXW.out.cell 1
          have k2 := HXW.out.cell 2
          have hBw := HBW.out.size
          clear hbw s1 s2 k0 HKS
          by_cases g : x1 = day % 7
          · have q : (x1 == day % 7) = true := by simpa using g
            have HE := Lib.hid (show wkD (wk.take (i + 1)) day = wkD (wk.take i) day ++ [(0, x2, x3)] by rw [HNX.out, if_pos g])
            rw [q]
            clear g q
            go_wp2_with (at_builtin; go_must (refine append_one rfl _ _ 74 rfl w.heap.size 138 (.agg #[.int .i64 0, .int .i64 0, .int .i64 0]) 3 24 Tryz.underlying74 infoShift rfl (by decide) w wc _ _ _ rfl HOW.out [.int .i64 0, .int .i64 x2, .int .i64 x3] rfl rfl rfl (by simp [Value.oneCell']) (by omega) (by omega) hBw HBW.out ?_); intro v' w7 ho hb7 hg7 _)
            go_roundw
            case rel =>
              refine ⟨i + 1, by go_num, hlt, ?_, hb7⟩
              rw [HE.out, List.length_append, List.flatMap_append]
              exact ho
            case measure => simp [intOf]; omega
          · have q : (x1 == day % 7) = false := by simpa using g
            have HE := Lib.hid (show wkD (wk.take (i + 1)) day = wkD (wk.take i) day by rw [HNX.out, if_neg g, List.append_nil])
            rw [q]
            clear g q
            go_wp2_with fail
            go_roundw
            case rel => exact ⟨i + 1, by go_num, hlt, by rw [HE.out]; exact HOW.out, HBW.out⟩
            case measure => simp [intOf]; omega
      · obtain rfl : i = wk.length := by omega
        have ho := HI.out.own
        rw [List.take_length] at ho
        have HO := Lib.hid ho
        clear ho
        go_wp2_with fail
        go_ret
        exact ⟨⟨_, _, rfl, HO.out, HSD2.out⟩, HI.out.below⟩
  · obtain ⟨hk, hkd⟩ := HF.out.1 rfl
    have HSD2 := Lib.hid (show hours sps[k].2 = SD by rw [HSD.out, find_some HPW.out hk hkd])
    obtain ⟨b, of', cap', hv, hb, hel⟩ := Specs.at HS.out (by omega)
    cases hv
    obtain ⟨u, e0, e1, hus⟩ := hel k hk
    have c1 := (below_cell HB3.out hb).trans e1
    have hl12 := HSH.out k hk
    have HUS := Lib.hid (hus.below HB3.out)
    have hl12 : sps[k].2.length ≤ 12 := hl12
    clear HSD HF hkd hel e0 e1 hus HSH
    generalize sps[k].2 = sl at *
    go_wp2_with fail
    refine (clone_any u sl w3 HUS.out (by omega)).mono ?_
    rintro e w4 ⟨⟨v', rfl, hs'⟩, hb4⟩
    have HS4 := Lib.hid hs'
    have HB4 := Lib.hid (below_up HB3.out hb4 HB3.out.size)
    clear hs' hb4
    go_wp2_with fail
    go_ret
    exact ⟨⟨_, sl, rfl, owns_base HS4.out HB3.out.size, HSD2.out⟩, HB4.out⟩

end Go.Proofs.YtemikhnkjligdaaGreatDoor
