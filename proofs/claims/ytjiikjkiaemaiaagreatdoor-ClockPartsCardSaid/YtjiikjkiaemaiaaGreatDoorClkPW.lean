/- The walk of portkeep2.ClockParts. -/
import Derived.Test.YtjiikjkiaemaiaaGreatDoorClkP3
import Derived.Test.YtjiikjkiaemaiaaGreatDoorStrL
namespace Go.Proofs.YtjiikjkiaemaiaaGreatDoor
open Go.RowKit

/-- what the part ahead of i is -/
def prevW (L : List Prt) : Nat → Option Int
  | 0 => none
  | j + 1 => some (L.getD j (0, 0, 0)).2.2
structure LwInv (c : ClkD) (vps : Value) (L : List Prt) (M T : Int) (B : Nat) (w w5 wr : World) (i : Nat) (a cn : Int) : Prop where
  le : i ≤ L.length
  fw : FwP (prevW L i) a (L.drop i) M (T - cn)
  lo : 0 ≤ cn
  st : c.start ≤ a
  box : Has wr B (clkV c vps) 24
  five : Below w5.heap.size w5 wr
  below : Below w.heap.size w wr

set_option maxRecDepth 100000 in
set_option maxHeartbeats 8000000 in
theorem parts_walk (c : ClkD) (l : List CalD) (vps vl : Value) (m : Int) (w : World) (h : Shifts w vps c.ps) (hl : Cals w vl l) (hE : EnvM w) :
    Calls Tryz.prog 3 #[.agg (clkV c vps), vl, .int .i64 m] w fun e w' => e = .returned (.bool true) ∧ Below w.heap.size w w' := by
  have hbx := box1 w (clkV c vps) 24
  have HX := Lib.hid hbx.1
  have HB := Lib.hid hbx.2
  have H := Lib.hid h
  have HL := Lib.hid hl
  have HE := Lib.hid hE
  clear h hl hE hbx
  have HEX := Lib.hid (fun W hW => Explain_any c l vps vl m W (H.out.below hW) (HL.out.below hW))
  have HEL := Lib.hid (fun W hW hk h0 h1 => Elapsed_ok c l vps vl m W (H.out.below hW) (HL.out.below hW) hk h0 h1)
  unfold clkV at *
  go_enter Tryz.func3, Tryz.ntmps3
  go_upto_region 1 with fail
  generalize w.alloc (.cells #[.int .i64 c.kind, .int .i64 c.lev, .int .i64 c.min, .int .i64 c.start, .int .i64 c.stop, .int .i64 c.fin, vps] 24) = w2 at *
  go_wp2_with fail
  refine (awakeLevel_any w2 (HE.out.below HB.out)).mono ?_
  rintro e w3 ⟨rfl, hb3⟩
  have HB3 := Lib.hid (below_up HB.out hb3 HB.out.size)
  have HX3 := Lib.hid (HX.out.below hb3 HX.out.lt)
  clear hb3 HB HX
  have k0 := HX3.out.cell 0
  have k1 := HX3.out.cell 1
  have k2 := HX3.out.cell 2
  have k3 := HX3.out.cell 3
  have k4 := HX3.out.cell 4
  have k5 := HX3.out.cell 5
  have k6 := HX3.out.cell 6
  go_wp2_with fail
  refine (HEX.out w3 HB3.out).mono ?_
  rintro e w4 ⟨v, k, rfl, hb4, hk1, hk2⟩
  have HB4 := Lib.hid (below_up HB3.out hb4 HB3.out.size)
  have HX4 := Lib.hid (HX3.out.below hb4 HX3.out.lt)
  clear hb4 HB3 HX3 k0 k1 k2 k3 k4 k5 k6 HEX
  by_cases hz : k = 0
  · subst hz
    obtain ⟨hall, hrg, hsl⟩ := hk2 rfl
    have hfw := parts_fw hall hrg
    have hMr := exM_range hall hrg
    have hst := hall.clk.head.start.1
    have HST := Lib.hid hall.clk.head.stop
    have HEM := Lib.hid (show exM c m = if c.stop = -1 then m else min m c.stop from rfl)
    have HEL2 := Lib.hid (HEL.out w4 HB4.out hall (by omega) hrg.2)
    generalize partsL l c (exM c m) = L at *
    have HSL := Lib.hid hsl
    have HF0 := Lib.hid hfw
    generalize exM c m = M at *
    generalize elapF l c.ps m = T at *
    obtain ⟨hM0, hM1⟩ := hMr
    obtain ⟨hL1, hT0, hT1⟩ := hfw.len
    clear hk1 hk2 hall hrg hsl hfw HEL
    have k0 := HX4.out.cell 0
    have k1 := HX4.out.cell 1
    have k2 := HX4.out.cell 2
    have k3 := HX4.out.cell 3
    have k4 := HX4.out.cell 4
    have k5 := HX4.out.cell 5
    have k6 := HX4.out.cell 6
    go_wp2_with fail
    refine HEL2.out.mono ?_
    rintro e w5 ⟨rfl, hb5⟩
    have HS5 := Lib.hid (SliceAt.stable (R := fun _ cs (x : Prt) => cs = encPt x) (fun _ _ _ _ h _ => h) HSL.out hb5)
    have HB5 := Lib.hid (below_up HB4.out hb5 HB4.out.size)
    have HX5 := Lib.hid (HX4.out.below hb5 HX4.out.lt)
    obtain ⟨va, vc, rfl⟩ := SliceAt.len HSL.out
    clear hb5 HB4 HX4 HSL HEL2 k0 k1 k2 k3 k4 k5 k6
    have k3 := HX5.out.cell 3
    have k4 := HX5.out.cell 4
    go_upto_if 39 with fail
    go_cut [10] from 37 to 43 (fun v wx => v = .int .i64 M ∧ wx = w5)
    case first =>
      by_cases g : c.stop = -1
      · have q1 : decide (0 ≤ c.stop) = false := decide_eq_false (by omega)
        have HM := Lib.hid (show M = m by rw [HEM.out, if_pos g])
        clear HEM HF0 HS5
        go_wp2_with fail
        all_goals go_meet
        all_goals (refine ⟨?_, rfl⟩; first | (rw [HM.out]; done) | (rw [HM.out]; congr 1; omega) | (exfalso; omega))
      · have hst3 := HST.out
        have q1 : decide (0 ≤ c.stop) = true := decide_eq_true (by omega)
        have HMM := Lib.hid (show M = min m c.stop by rw [HEM.out, if_neg g])
        by_cases g2 : c.stop < m
        · have q3 : decide (c.stop < m) = true := decide_eq_true g2
          have HM := Lib.hid (show M = c.stop by rw [HMM.out]; omega)
          clear HEM HF0 HS5
          go_wp2_with fail
          all_goals go_meet
          all_goals (refine ⟨?_, rfl⟩; first | (rw [HM.out]; done) | (rw [HM.out]; congr 1; omega) | (exfalso; omega))
        · have q3 : decide (c.stop < m) = false := decide_eq_false g2
          have HM := Lib.hid (show M = m by rw [HMM.out]; omega)
          clear HEM HF0 HS5
          go_wp2_with fail
          all_goals go_meet
          all_goals (refine ⟨?_, rfl⟩; first | (rw [HM.out]; done) | (rw [HM.out]; congr 1; omega) | (exfalso; omega))
    case rest =>
      obtain ⟨rfl, rfl⟩ := hcut
      have HI0 := Lib.hid (show LwInv c vps L M T w.heap.size w wc wc 0 c.start 0 from ⟨Nat.zero_le _, by rw [Int.sub_zero]; exact HF0.out, Int.le_refl _, Int.le_refl _, HX5.out, Below.refl _ _, HB5.out⟩)
      clear HF0 HEM HST
      go_wp2_with fail
      go_loopw [11, 12, 48] (fun av cv iv wr => ∃ (i : Nat) (a cn : Int), av = .int .i64 a ∧ cv = .int .i64 cn ∧ iv = .int .i64 ((i : Nat) : Int) ∧ LwInv c vps L M T w.heap.size w wc wr i a cn) (fun _ _ iv _ => L.length - (intOf iv).toNat)
      case atStart => exact ⟨0, _, _, rfl, rfl, rfl, HI0.out⟩
      case round =>
        obtain ⟨i, a, cn, rfl, rfl, rfl, hI⟩ := hrel
        have HI := Lib.hid hI
        have hi := hI.le
        have hlo := hI.lo
        obtain ⟨g1, g2, g3⟩ := hI.fw.len
        have hsa := hI.st
        clear hI HI0 k3 k4
        by_cases hlt : i < L.length
        · obtain ⟨b, of', cap', hv, hcap, hb, hel⟩ := SliceAt.at HS5.out (by omega)
          cases hv
          have hfw := HI.out.fw
          rw [List.drop_eq_getElem_cons hlt] at hfw
          obtain ⟨e1, e2, e3, e4⟩ := hfw
          have HCEL := Lib.hid (show ∀ i (hi : i < L.length), wc.cell? ⟨b, of' + i * 3, none⟩ = some (.int .i64 L[i].1) ∧ wc.cell? ⟨b, of' + i * 3 + 1, none⟩ = some (.int .i64 L[i].2.1) ∧ wc.cell? ⟨b, of' + i * 3 + 2, none⟩ = some (.int .i64 L[i].2.2) from fun i hi => by
            obtain ⟨cs, ⟨_, h2⟩, hr⟩ := hel i hi
            subst hr
            exact ⟨h2 0 (by simp [encPt]), h2 1 (by simp [encPt]), h2 2 (by simp [encPt])⟩)
          obtain ⟨f0, f1, f2⟩ := HCEL.out i hlt
          have hbw : b < wc.heap.size := hb
          have c0 := (below_cell HI.out.five hbw).trans f0
          have c1 := (below_cell HI.out.five hbw).trans f1
          have c2 := (below_cell HI.out.five hbw).trans f2
          have HP := Lib.hid (show ∀ h0 : 0 < i, wr.cell? ⟨b, of' + (i - 1) * 3 + 2, none⟩ = some (.int .i64 L[i - 1].2.2) ∧ L[i - 1].2.2 ≠ L[i].2.2 from fun h0 => ⟨(below_cell HI.out.five hbw).trans (HCEL.out (i - 1) (by omega)).2.2, fun q => e3 (by
            obtain ⟨j, rfl⟩ : ∃ j, i = j + 1 := ⟨i - 1, by omega⟩
            rw [prevW, show L.getD j (0, 0, 0) = L[j] by simp [List.getD, show j < L.length by omega]]
            exact congrArg some q)⟩)
          have HNX := Lib.hid (show ∀ wx, Below wr.heap.size wr wx → LwInv c vps L M T w.heap.size w wc wx (i + 1) L[i].2.1 (cn + cntP L[i]) from fun wx hb' => ⟨hlt, by
            rw [prevW, show L.getD i (0, 0, 0) = L[i] by simp [List.getD, hlt], show T - (cn + cntP L[i]) = T - cn - cntP L[i] by omega]
            exact e4, by unfold cntP; split <;> omega, by omega, HI.out.box.below hb' HI.out.box.lt, below_up' HI.out.five hb', below_up HI.out.below hb' HI.out.below.size⟩)
          have HCN := Lib.hid (show cntP L[i] = if L[i].2.2 = 1 then L[i].2.1 - L[i].1 else 0 from rfl)
          obtain ⟨e5, _, e6⟩ := e4.len
          clear e3 e4 hel f0 f1 f2 HCEL
          generalize L[i] = p at *
          obtain ⟨x1, x2, x3⟩ := p
          simp only at c0 c1 c2 HP HNX HCN e1 e2 e5 e6
          subst e1
          obtain ⟨bx, bbl⟩ := box1 wr #[.int .i64 x1, .int .i64 x2, .int .i64 x3] 36
          have HBB := Lib.hid bbl
          have HPB := Lib.hid bx
          have HP2 := Lib.hid (fun h0 => (below_cell bbl (Nat.lt_of_lt_of_le hbw HI.out.five.size)).trans (HP.out h0).1)
          have HPN := Lib.hid (fun h0 => (HP.out h0).2)
          clear bx bbl HP
          go_upto_region 14 with fail
          clear c0 c1 c2
          generalize wr.alloc (.cells #[.int .i64 x1, .int .i64 x2, .int .i64 x3] 36) = wb at *
          generalize wr.heap.size = D at *
          have m0 := HPB.out.cell 0
          have m1 := HPB.out.cell 1
          have m2 := HPB.out.cell 2
          have qa : (x1 != x1) = false := by simp
          have qb : decide (x2 ≤ x1) = false := decide_eq_false (by omega)
          go_cut [79] (fun v wx => v = .bool false ∧ Below wb.heap.size wb wx)
          case first =>
            by_cases h0 : 0 < i
            · have r2 : decide ((0 : Int) < (i : Int)) = true := decide_eq_true (by omega)
              have p2 := HP2.out h0
              have r1 : IntKind.i64.wrap ((i : Int) - 1) = ((i - 1 : Nat) : Int) := by rw [IntWalk.i64_in _ (by omega)]; omega
              have r3 : i - 1 < L.length := by omega
              have r4 : (L[i - 1].2.2 == x3) = false := by have := HPN.out h0; simpa using this
              clear HP2 HPN HNX HCN HI
              generalize L[i - 1].2.2 = y at *
              go_quiet (fail)
              go_wp2_with fail
              go_meet
              exact ⟨rfl, drewN_below (Below.refl _ _) nq⟩
            · obtain rfl : i = 0 := by omega
              clear HP2 HPN HNX HCN HI
              go_quiet (fail)
              go_wp2_with fail
              go_meet
              exact ⟨rfl, drewN_below (Below.refl _ _) nq⟩
          case rest =>
            obtain ⟨rfl, hbc⟩ := hcut
            have HPC := Lib.hid (HPB.out.below hbc HPB.out.lt)
            have HNY := Lib.hid (HNX.out _ (below_up HBB.out hbc (Nat.le_of_lt HPB.out.lt)))
            clear hbc m0 m1 m2 HPB HBB HP2 HPN HNX HI
            have m0 := HPC.out.cell 0
            have m1 := HPC.out.cell 1
            have m2 := HPC.out.cell 2
            by_cases g : x3 = 1
            · have q : (x3 == 1) = true := by simpa using g
              have hcp : cntP (x1, x2, x3) = x2 - x1 := by rw [HCN.out, if_pos g]
              rw [hcp] at HNY e6
              have w1 : IntKind.i64.wrap (x2 - x1) = x2 - x1 := IntWalk.i64_in _ (by omega)
              have w2 : IntKind.i64.wrap (cn + (x2 - x1)) = cn + (x2 - x1) := IntWalk.i64_in _ (by omega)
              clear g HCN hcp
              go_wp2_with fail
              go_roundw
              case rel => exact ⟨i + 1, x2, cn + (x2 - x1), rfl, rfl, by go_num, HNY.out⟩
              case measure => simp [intOf]; omega
            · have q : (x3 == 1) = false := by simpa using g
              have hcp : cntP (x1, x2, x3) = 0 := by rw [HCN.out, if_neg g]
              rw [hcp, Int.add_zero] at HNY
              clear g HCN hcp
              go_wp2_with fail
              go_roundw
              case rel => exact ⟨i + 1, x2, cn, rfl, rfl, by go_num, HNY.out⟩
              case measure => simp [intOf]; omega
        · obtain rfl : i = L.length := by omega
          have hfw := HI.out.fw
          rw [List.drop_length] at hfw
          obtain ⟨e1, e2⟩ := hfw
          have hcn : cn = T := by omega
          subst e1 hcn
          have k3 : wr.cell? ⟨w.heap.size, 3, none⟩ = some (.int .i64 c.start) := HI.out.box.cell 3
          clear hlt
          have HB9 := Lib.hid HI.out.below
          have hmx : max M c.start = M := by omega
          have hmy : (M == max M c.start) = true := by rw [hmx]; simp
          clear e2 HI g1 g2 g3 hL1 hT0 hT1 hlo hi
          go_wp2_with fail
          go_ret
          exact ⟨rfl, HB9.out⟩
  · obtain rfl := hk1 hz
    have qz : (k == 0) = false := by simpa using hz
    have qz2 : (k != 0) = true := by simpa using hz
    clear hk1 hk2 hz
    go_wp2_with fail
    go_ret
    exact ⟨rfl, HB4.out⟩
end Go.Proofs.YtjiikjkiaemaiaaGreatDoor
