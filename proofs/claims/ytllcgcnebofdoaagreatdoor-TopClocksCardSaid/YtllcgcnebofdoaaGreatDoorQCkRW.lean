/- The walk of portkeep2.ClockRound. -/
import Derived.Test.YtllcgcnebofdoaaGreatDoorQCkRd
import Derived.Test.YtllcgcnebofdoaaGreatDoorQCkFit
namespace Go.Proofs.YtllcgcnebofdoaaGreatDoor
open Go.RowKit

structure CrI (n : Nat) (w wr : World) (i : Nat) : Prop where
  le : i ≤ n
  below : Below w.heap.size w wr
theorem clocks_few (p : PolD) (l : List PntD) (hl : HistOk l) : (clocksF p l).length ≤ 18000 := by
  rw [← keepTo_all, List.length_map]
  have := (keepTo_ok p l l.length (Nat.le_refl _)).few
  have := hl.few
  omega
instance : Inhabited ClkD := ⟨⟨0, 0, 0, 0, 0, 0, []⟩⟩
set_option maxRecDepth 100000 in
set_option maxHeartbeats 8000000 in
theorem round_walk (p : PolD) (l : List PntD) (vp vl v : Value) (w : World) (hP : PolAt w vp vl p) (h : Pnts w v l) (hE : Env w) :
    Calls Tryz.prog 3 #[.agg #[vp, vl], v] w fun e w' => e = .returned (.bool true) ∧ Below w.heap.size w w' := by
  obtain ⟨pa, pn, pc, rfl⟩ : ∃ a n c, vp = .slice a n c := by
    obtain ⟨a, c, e⟩ := SliceAt.len hP.pauses
    exact ⟨a, _, c, e⟩
  obtain ⟨la, ln, lc, rfl⟩ : ∃ a n c, vl = .slice a n c := by
    obtain ⟨a, c, e⟩ := SliceAt.len hP.levs
    exact ⟨a, _, c, e⟩
  have hbx := box1 w #[.slice pa pn pc, .slice la ln lc] 25
  have HE := Lib.hid hE
  have H := Lib.hid (h.below hbx.2)
  have HP := Lib.hid (hP.below hbx.2)
  have HX := Lib.hid hbx.1
  have HB := Lib.hid hbx.2
  clear h hE hbx hP
  go_enter Tryz.func3, Tryz.ntmps3
  go_upto_region 1 with fail
  generalize w.alloc (.cells #[.slice pa pn pc, .slice la ln lc] 25) = w2 at *
  go_wp2_with fail
  refine (awakeLevel_any w2 (HE.out.below HB.out)).mono ?_
  rintro e w3 ⟨rfl, hb3⟩
  have HB3 := Lib.hid (below_up HB.out hb3 HB.out.size)
  have HX3 := Lib.hid (HX.out.below hb3 HX.out.lt)
  have k0 := HX3.out.cell 0
  have k1 := HX3.out.cell 1
  have HCS := Lib.hid (Clocks_any p l _ _ v w3 (HP.out.below hb3) (H.out.below hb3))
  clear hb3 HX HB H HP
  go_wp2_with fail
  refine HCS.out.mono ?_
  rintro e w4 ⟨vc, k, rfl, hb4, hk1, hk2, hk3⟩
  have HB4 := Lib.hid (below_up HB3.out hb4 HB3.out.size)
  clear hb4 HCS HB3 HX3 k0 k1
  by_cases hk : k = 0
  · subst hk
    obtain ⟨hp, hl⟩ := hk1.1 rfl
    have HC := Lib.hid (hk3 rfl)
    have HOK := Lib.hid (clocks_fit hp hl)
    obtain ⟨va, cap, rfl⟩ := SliceAt.len HC.out
    have hcs := clocks_few p l hl
    generalize clocksF p l = cs at *
    have HI0 := Lib.hid (show CrI cs.length w4 w4 0 from ⟨Nat.zero_le _, Below.refl _ _⟩)
    clear hk1 hk2 hk3 hp hl
    go_wp2_with fail
    go_loopw [30] (fun iv wr => ∃ i : Nat, iv = .int .i64 ((i : Nat) : Int) ∧ CrI cs.length w4 wr i) (fun iv _ => cs.length - (intOf iv).toNat)
    case atStart => exact ⟨0, rfl, HI0.out⟩
    case round =>
      obtain ⟨i, rfl, hI⟩ := hrel
      have HI := Lib.hid hI
      have hi := hI.le
      clear hI HI0
      by_cases hlt : i < cs.length
      · obtain ⟨b, of', cap', hv, hb, hel⟩ := Clks.at HC.out (by omega)
        cases hv
        obtain ⟨vps, ⟨e0, e1, e2, e3, e4, e5, e6⟩, hsh⟩ := hel i hlt
        obtain ⟨sa, sc, rfl⟩ := SliceAt.len hsh
        have hokc := HOK.out _ (List.getElem_mem hlt)
        have c0 := (below_cell HI.out.below hb).trans e0
        have c1 := (below_cell HI.out.below hb).trans e1
        have c2 := (below_cell HI.out.below hb).trans e2
        have c3 := (below_cell HI.out.below hb).trans e3
        have c4 := (below_cell HI.out.below hb).trans e4
        have c5 := (below_cell HI.out.below hb).trans e5
        have c6 := (below_cell HI.out.below hb).trans e6
        have HSH := Lib.hid (hsh.below HI.out.below)
        have HEI := Lib.hid (HE.out.below (HB4.out.trans (HI.out.below.mono HB4.out.size)))
        have HOC := Lib.hid hokc
        have HBI := Lib.hid HI.out.below
        clear e0 e1 e2 e3 e4 e5 e6 hel hsh hokc HI
        generalize cs[i] = c at *
        have hcl := clkText_len HOC.out
        go_upto_region 9 with fail
        obtain ⟨bx, bbl⟩ := box1 wr (clkV c (.slice sa c.ps.length sc)) 34
        have HSB := Lib.hid (HSH.out.below bbl)
        have HEB := Lib.hid (HEI.out.below bbl)
        have HBB := Lib.hid (below_up HBI.out bbl HBI.out.size)
        have HXB := Lib.hid bx
        have HT1 := Lib.hid (ClockText_any c _ _ HSB.out HEB.out)
        unfold clkV at *
        clear bx bbl HSH HEI HBI c0 c1 c2 c3 c4 c5 c6
        generalize wr.alloc (.cells #[.int .i64 c.kind, .int .i64 c.lev, .int .i64 c.min, .int .i64 c.start, .int .i64 c.stop, .int .i64 c.fin, .slice sa c.ps.length sc] 34) = wb at *
        generalize wr.heap.size = D at *
        have k0 := HXB.out.cell 0
        have k1 := HXB.out.cell 1
        have k2 := HXB.out.cell 2
        have k3 := HXB.out.cell 3
        have k4 := HXB.out.cell 4
        have k5 := HXB.out.cell 5
        have k6 := HXB.out.cell 6
        go_wp2_with fail
        refine HT1.out.mono ?_
        rintro e w5 ⟨s, k, rfl, hb5, hs1, _, hs3⟩
        obtain rfl : k = 0 := hs1.2 HOC.out
        obtain rfl := hs3 rfl
        have HE5 := Lib.hid (HEB.out.below hb5)
        have HRC := Lib.hid (ReadClock_ok c HOC.out w5 HE5.out)
        have HB5 := Lib.hid (below_up HBB.out hb5 HBB.out.size)
        have HX5 := Lib.hid (HXB.out.below hb5 HXB.out.lt)
        have HS5 := Lib.hid (HSB.out.below hb5)
        clear hs1 hs3 hb5 HT1 HBB HXB HSB HEB k0 k1 k2 k3 k4 k5 k6
        generalize hT : bs (clkText c) = T at *
        have HTT := Lib.hid hT
        clear hT
        go_wp2_with fail
        refine HRC.out.mono ?_
        rintro e w6 ⟨⟨vq, rfl, hs6⟩, hb6⟩
        obtain ⟨qa, qc, rfl⟩ := SliceAt.len hs6
        unfold clkV
        have HB6 := Lib.hid (below_up HB5.out hb6 HB5.out.size)
        have HX6 := Lib.hid (HX5.out.below hb6 HX5.out.lt)
        have HS6 := Lib.hid (HS5.out.below hb6)
        have HE6 := Lib.hid (HE5.out.below hb6)
        have HQ6 := Lib.hid hs6
        clear hb6 hs6 HRC HB5 HX5 HS5 HE5
        go_upto_region 11 with fail
        obtain ⟨bx, bbl⟩ := box1 w6 (clkV c (.slice qa c.ps.length qc)) 34
        have HB7 := Lib.hid (below_up HB6.out bbl HB6.out.size)
        have HX7 := Lib.hid (HX6.out.below bbl HX6.out.lt)
        have HS7 := Lib.hid (HS6.out.below bbl)
        have HE7 := Lib.hid (HE6.out.below bbl)
        have HQ7 := Lib.hid (HQ6.out.below bbl)
        have HY7 := Lib.hid bx
        have HT2 := Lib.hid (ClockText_any c _ _ HQ7.out HE7.out)
        unfold clkV at *
        clear bx bbl HB6 HX6 HS6 HE6 HQ6
        generalize w6.alloc (.cells #[.int .i64 c.kind, .int .i64 c.lev, .int .i64 c.min, .int .i64 c.start, .int .i64 c.stop, .int .i64 c.fin, .slice qa c.ps.length qc] 34) = w7 at *
        generalize w6.heap.size = D2 at *
        have k0 := HY7.out.cell 0
        have k1 := HY7.out.cell 1
        have k2 := HY7.out.cell 2
        have k3 := HY7.out.cell 3
        have k4 := HY7.out.cell 4
        have k5 := HY7.out.cell 5
        have k6 := HY7.out.cell 6
        go_wp2_with fail
        refine HT2.out.mono ?_
        rintro e w8 ⟨s, k, rfl, hb8, hs1, _, hs3⟩
        obtain rfl : k = 0 := hs1.2 HOC.out
        obtain rfl : s = T := (hs3 rfl).trans HTT.out
        have HB8 := Lib.hid (below_up HB7.out hb8 HB7.out.size)
        have hX8 := HX7.out.below hb8 HX7.out.lt
        have HCK := Lib.hid (CheckClock_any c _ w8 (HS7.out.below hb8))
        unfold clkV at *
        clear hs1 hs3 hb8 HT2 HB7 HX7 HS7 HE7 HQ7 HY7 k0 k1 k2 k3 k4 k5 k6 HTT
        have k0 := hX8.cell 0
        have k1 := hX8.cell 1
        have k2 := hX8.cell 2
        have k3 := hX8.cell 3
        have k4 := hX8.cell 4
        have k5 := hX8.cell 5
        have k6 := hX8.cell 6
        clear hX8
        go_wp2_with fail
        refine HCK.out.mono ?_
        rintro e w9 ⟨⟨k, rfl, hk⟩, hb9⟩
        obtain rfl : k = 0 := hk.2 HOC.out
        have HZ := Lib.hid (show CrI cs.length w4 w9 (i + 1) from ⟨hlt, below_up HB8.out hb9 HB8.out.size⟩)
        clear hk hb9 HCK HB8 k0 k1 k2 k3 k4 k5 k6
        go_wp2_with fail
        go_roundw
        case rel => exact ⟨i + 1, by go_num, HZ.out⟩
        case measure => simp [intOf]; omega
      · obtain rfl : i = cs.length := by omega
        have HBZ := Lib.hid (below_up HB4.out HI.out.below HB4.out.size)
        go_wp2_with fail
        go_ret
        exact ⟨rfl, HBZ.out⟩
  · obtain rfl := hk2 hk
    have q0 : (k == 0) = false := by simpa using hk
    have q1 : (k != 0) = true := by simpa using hk
    clear hk1 hk2 hk3 hk
    go_wp2_with fail
    go_ret
    exact ⟨rfl, HB4.out⟩
end Go.Proofs.YtllcgcnebofdoaaGreatDoor
