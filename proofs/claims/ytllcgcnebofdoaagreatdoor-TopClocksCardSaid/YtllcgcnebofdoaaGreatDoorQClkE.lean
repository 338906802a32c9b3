/- The walks of level.counted, level.due and level.Due. -/
import Derived.Test.YtllcgcnebofdoaaGreatDoorQClkD
import Derived.OrdersHeld
import Derived.RegionTactic
import Derived.Deep.RegionHeld3
namespace Go.Proofs.YtllcgcnebofdoaaGreatDoor
open Go.RowKit

structure CnInv (c : ClkD) (l : List CalD) (vps : Value) (k : Int) (w wr : World) (i : Nat) (k' : Int) : Prop where
  le : i ≤ c.ps.length
  left : cntF l (c.ps.drop i) k' = cntF l c.ps k
  lo : 0 ≤ k'
  hi : k' ≤ k
  box : Has wr w.heap.size (clkV c vps) 34
  below : Below w.heap.size w wr
theorem pcEnd_le {c : ClkD} {l : List CalD} {p : Pc} (h : PcFacts c l p) : p.1 < pcEnd p ∧ pcEnd p ≤ 3000001 := by
  have h1 := h.hi
  have h2 := h.lo
  unfold pcEnd
  rcases h.en with g | ⟨g1, g2⟩
  · rw [if_pos g]; omega
  · rw [if_neg (by omega)]; omega
def CnPost (r : Option Int) (w : World) (e : Ending) (w' : World) : Prop := e = .returned (.tuple #[.int .i64 (r.getD 0), .bool r.isSome]) ∧ Below w.heap.size w w'

set_option maxRecDepth 100000 in
set_option maxHeartbeats 8000000 in
theorem counted_any (c : ClkD) (l : List CalD) (vps vl : Value) (k : Int) (w : World) (h : Shifts w vps c.ps) (hl : Cals w vl l) (hk : CkAll c l) (hk0 : 0 ≤ k) (hk1 : k ≤ 100000) :
    Calls Tryz.prog 65 #[.agg (clkV c vps), vl, .int .i64 k] w (CnPost (cntF l c.ps k) w) := by
  obtain ⟨pa, pc, rfl⟩ := SliceAt.len h
  obtain ⟨ca, cc, rfl⟩ := SliceAt.len hl
  have H := Lib.hid h
  have HL := Lib.hid hl
  have HK := Lib.hid hk
  have hl6 := hk.clk.len
  have hbx := box1 w (clkV c (.slice pa c.ps.length pc)) 34
  have HI0 := Lib.hid (show CnInv c l (.slice pa c.ps.length pc) k w (w.alloc (.cells (clkV c (.slice pa c.ps.length pc)) 34)) 0 k from ⟨Nat.zero_le _, rfl, hk0, Int.le_refl _, hbx.1, hbx.2⟩)
  have k6 : (w.alloc (.cells (clkV c (.slice pa c.ps.length pc)) 34)).cell? ⟨w.heap.size, 6, none⟩ = some (.slice pa c.ps.length pc) := hbx.1.cell 6
  unfold clkV at HI0 k6 ⊢
  clear h hl hk hbx
  obtain ⟨r, hr⟩ : ∃ r, cntF l c.ps k = r := ⟨_, rfl⟩
  rw [hr]
  have HR := Lib.hid hr
  clear hr
  go_enter Tryz.func65, Tryz.ntmps65
  go_upto_region 1 with fail
  generalize w.alloc (.cells #[.int .i64 c.kind, .int .i64 c.lev, .int .i64 c.min, .int .i64 c.start, .int .i64 c.stop, .int .i64 c.fin, .slice pa c.ps.length pc] 34) = w2 at *
  go_wp2_with fail
  go_loopw [2, 18] (fun kv iv wr => ∃ (i : Nat) (k' : Int), iv = .int .i64 ((i : Nat) : Int) ∧ kv = .int .i64 k' ∧ CnInv c l (.slice pa c.ps.length pc) k w wr i k') (fun _ iv _ => c.ps.length - (intOf iv).toNat)
  case atStart => exact ⟨0, k, rfl, rfl, HI0.out⟩
  case round =>
    obtain ⟨i, k', rfl, rfl, hI⟩ := hrel
    have HI := Lib.hid hI
    have hi := hI.le
    have hs0 := hI.lo
    have hs1 := hI.hi
    clear hI HI0 k6
    by_cases hlt : i < c.ps.length
    · obtain ⟨b, of', cap', hv, hb, hel⟩ := Shifts.at H.out (by omega)
      cases hv
      obtain ⟨e0, e1, e2⟩ := hel i hlt
      have c0 := (below_cell HI.out.below hb).trans e0
      have c1 := (below_cell HI.out.below hb).trans e1
      have c2 := (below_cell HI.out.below hb).trans e2
      have HPF := Lib.hid (pc_facts HK.out hlt)
      have HT := Lib.hid (show r = if k' < fullN l c.ps[i] then addF k' (openL (pcCal l c.ps[i]) c.ps[i].1 3000001) else cntF l (c.ps.drop (i + 1)) (k' - fullN l c.ps[i]) from by
        rw [← HR.out, ← HI.out.left, List.drop_eq_getElem_cons hlt]
        rfl)
      clear e0 e1 e2 hel
      generalize c.ps[i] = p at *
      obtain ⟨x1, x2, x3⟩ := p
      simp only at c0 c1 c2
      have hx3 := HPF.out.c0
      have hx3' := HPF.out.c1
      have hx1 := HPF.out.lo
      have hx1' := HPF.out.hi
      have HPE := Lib.hid (pcEnd_le HPF.out)
      simp only at hx3 hx3' hx1 hx1'
      obtain ⟨j, rfl⟩ : ∃ j : Nat, x3 = (j : Int) := ⟨x3.toNat, by omega⟩
      have hjl : j < l.length := by omega
      obtain ⟨cb, co, cap2, hv2, hcb, hel2⟩ := Cals.at HL.out (by omega)
      cases hv2
      obtain ⟨vcs, vwk, vsp, f0, f1, f2, f3, hca⟩ := hel2 j hjl
      have HCA := Lib.hid hca
      have HCX := Lib.hid (show pcCal l (x1, x2, (j : Int)) = l[j] from by unfold pcCal; simp [List.getD, hjl])
      have HFN := Lib.hid (show CkFine l[j] from by have := HPF.out.fine; rw [HCX.out] at this; exact this)
      go_upto_if 25 with fail
      obtain ⟨bx, bbl⟩ := box1 wr #[.int .i64 x1, .int .i64 x2, .int .i64 ((j : Nat) : Int)] 79
      have HB4 := Lib.hid (below_up HI.out.below bbl HI.out.below.size)
      have HBX := Lib.hid bx
      have HCK := Lib.hid (HI.out.box.below bbl HI.out.box.lt)
      have m0 := bx.cell 0
      have m1 := bx.cell 1
      have m2 := bx.cell 2
      have d0 := (below_cell HB4.out hcb).trans f0
      have d1 := (below_cell HB4.out hcb).trans f1
      have d2 := (below_cell HB4.out hcb).trans f2
      have d3 := (below_cell HB4.out hcb).trans f3
      clear bx bbl c0 c1 c2 f0 f1 f2 f3 hca hel2
      generalize wr.alloc (.cells #[.int .i64 x1, .int .i64 x2, .int .i64 ((j : Nat) : Int)] 79) = wb at *
      generalize wr.heap.size = B at *
      go_cut [10] from 24 to 25 (fun v wx => v = .int .i64 (pcEnd (x1, x2, (j : Int))) ∧ wx = wb)
      case first =>
        clear HT HPF HFN HCX HCA d0 d1 d2 d3 HCK HBX HPE
        by_cases g : x2 = -1
        · subst g
          have HE := Lib.hid (show pcEnd (x1, -1, (j : Int)) = 3000001 by unfold pcEnd; rw [if_pos rfl])
          go_wp2_with fail
          go_meet
          exact ⟨by rw [HE.out], rfl⟩
        · have q1 : (x2 == -1) = false := by simpa using g
          have q2 : (x2 != -1) = true := by simpa using g
          have HE := Lib.hid (show pcEnd (x1, x2, (j : Int)) = x2 by unfold pcEnd; rw [if_neg g])
          clear g
          go_wp2_with fail
          go_meet
          exact ⟨by rw [HE.out], rfl⟩
      case rest =>
        obtain ⟨rfl, rfl⟩ := hcut
        have HN := Lib.hid (show fullN l (x1, x2, (j : Int)) = lens (openL l[j] x1 (pcEnd (x1, x2, (j : Int)))) from by
          unfold fullN
          rw [HCX.out])
        rw [HCX.out, HN.out] at HT
        simp only at HPE HT
        generalize pcEnd (x1, x2, (j : Int)) = E at *
        have HLB := Lib.hid (lens_bound HFN.out.fine.ok hx1 (Int.le_of_lt HPE.out.1))
        have HAD := Lib.hid (fun h0 => add_at HFN.out.fine.ok hx1 (Int.le_of_lt HPE.out.1) HPE.out.2 hs0 h0)
        have hE1 := HPE.out.1
        have hE2 := HPE.out.2
        go_upto_region 7 with fail
        have hBl := HBX.out.lt
        have hCl : cb < wc.heap.size := Nat.lt_of_lt_of_le hcb HB4.out.size
        have HKS := Lib.hid (fun W (hW : Below wc.heap.size wc W) => (⟨(below_cell hW hBl).trans m0, (below_cell hW hBl).trans m2, (below_cell hW hCl).trans d0, (below_cell hW hCl).trans d1, (below_cell hW hCl).trans d2, (below_cell hW hCl).trans d3⟩ :
          W.cell? ⟨B, 0, none⟩ = some (.int .i64 x1) ∧ W.cell? ⟨B, 2, none⟩ = some (.int .i64 ((j : Nat) : Int)) ∧ W.cell? ⟨cb, co + j * 4, none⟩ = some (.int .i64 l[j].off) ∧ W.cell? ⟨cb, co + j * 4 + 1, none⟩ = some vcs ∧ W.cell? ⟨cb, co + j * 4 + 2, none⟩ = some vwk ∧ W.cell? ⟨cb, co + j * 4 + 3, none⟩ = some vsp))
        have HWK := Lib.hid (fun W (hW : Below wc.heap.size wc W) => worked_ok l[j] vcs vwk vsp x1 E W (HCA.out.below (below_up HB4.out hW HB4.out.size)) HFN.out hx1 hx1' (Int.le_of_lt hE1) hE2)
        have HAK := Lib.hid (fun m' W (hW : Below wc.heap.size wc W) (ha : addF k' (openL l[j] x1 3000001) = some m') => add_ok l[j] vcs vwk vsp x1 k' m' W (HCA.out.below (below_up HB4.out hW HB4.out.size)) HFN.out hx1 hx1' hs0 (by omega) ha)
        generalize lens (openL l[j] x1 E) = P at *
        clear m0 m1 m2 d0 d1 d2 d3 HN HPF HPE HCX
        go_cut [11, 12] (fun nv kv wx => nv = .int .i64 P ∧ kv = .int .i64 0 ∧ Below wc.heap.size wc wx)
        case first =>
          clear HAD HAK HT
          go_region_held3 (fun W => W.cell? ⟨B, 0, none⟩ = some (.int .i64 x1) ∧ W.cell? ⟨B, 2, none⟩ = some (.int .i64 ((j : Nat) : Int)) ∧ W.cell? ⟨cb, co + j * 4, none⟩ = some (.int .i64 l[j].off) ∧ W.cell? ⟨cb, co + j * 4 + 1, none⟩ = some vcs ∧ W.cell? ⟨cb, co + j * 4 + 2, none⟩ = some vwk ∧ W.cell? ⟨cb, co + j * 4 + 3, none⟩ = some vsp)
            (first | exact HKS.out _ hB | exact HKS.out _ (Below.refl _ _).drew)
            ((go_at_call 96; refine (HWK.out _ (Below.refl wc.heap.size wc).drew).mono ?_; rintro e w' ⟨rfl, hb⟩; have hB := below_up' (Below.refl wc.heap.size wc).drew hb))
          go_wp2
          go_meet
          exact ⟨rfl, rfl, hB⟩
        case rest =>
          obtain ⟨rfl, rfl, hbw⟩ := hcut
          rename World => wd
          have HBD := Lib.hid hbw
          have hzd := hbw.size
          clear hbw HWK
          by_cases g : k' < P
          · have q1 : decide (k' < P) = true := decide_eq_true g
            obtain ⟨m', a1, a2, a3, a4, a5⟩ := HAD.out g
            have HRM := Lib.hid (show r = some m' by rw [HT.out, if_pos g, a1])
            have HA1 := Lib.hid a1
            clear HAD HT g a1 a2 a3 a4 a5
            go_upto_region 9 with fail
            go_cut [13, 14] (fun nv kv wx => nv = .int .i64 m' ∧ kv = .int .i64 0 ∧ Below wd.heap.size wd wx)
            case first =>
              go_region_held3 (fun W => W.cell? ⟨B, 0, none⟩ = some (.int .i64 x1) ∧ W.cell? ⟨B, 2, none⟩ = some (.int .i64 ((j : Nat) : Int)) ∧ W.cell? ⟨cb, co + j * 4, none⟩ = some (.int .i64 l[j].off) ∧ W.cell? ⟨cb, co + j * 4 + 1, none⟩ = some vcs ∧ W.cell? ⟨cb, co + j * 4 + 2, none⟩ = some vwk ∧ W.cell? ⟨cb, co + j * 4 + 3, none⟩ = some vsp)
                (first | exact HKS.out _ (below_up' HBD.out hB) | exact HKS.out _ HBD.out.drew)
                ((go_at_call 97; refine (HAK.out _ _ HBD.out.drew HA1.out).mono ?_; rintro e w' ⟨rfl, hb⟩; have hB := below_up' (Below.refl wd.heap.size wd).drew hb))
              go_wp2
              go_meet
              exact ⟨rfl, rfl, hB⟩
            case rest =>
              obtain ⟨rfl, rfl, hbw⟩ := hcut
              have HBE := Lib.hid (below_up (below_up HB4.out HBD.out HB4.out.size) hbw (Nat.le_trans HB4.out.size hzd))
              clear hbw HAK HKS
              go_wp2_with fail
              go_ret2
              exact ⟨by rw [HRM.out]; rfl, HBE.out⟩
          · have q1 : decide (k' < P) = false := decide_eq_false g
            have w1 : IntKind.i64.wrap (k' - P) = k' - P := IntWalk.i64_in _ (by have := HLB.out; omega)
            have HIZ := Lib.hid (show CnInv c l (.slice (some ⟨b, of', none⟩) c.ps.length pc) k w wd (i + 1) (k' - P) from ⟨hlt, by rw [HR.out, HT.out, if_neg g], by omega, by have := HLB.out; omega, HCK.out.below HBD.out HCK.out.lt, below_up HB4.out HBD.out HB4.out.size⟩)
            clear HAD HT g HAK HKS HLB
            go_wp2_with fail
            go_roundw
            case rel => exact ⟨i + 1, k' - P, by go_num, rfl, HIZ.out⟩
            case measure => simp [intOf]; omega
    · obtain rfl : i = c.ps.length := by omega
      have HRN := Lib.hid (show r = none by rw [← HR.out, ← HI.out.left, List.drop_length]; rfl)
      go_wp2_with fail
      go_ret2
      exact ⟨by rw [HRN.out]; rfl, HI.out.below⟩

/-- when a clock has too much -/
def dueF (c : ClkD) (l : List CalD) : Int := (cntF l c.ps c.min).getD 3000000
set_option maxRecDepth 100000 in
set_option maxHeartbeats 4000000 in
theorem due_any (c : ClkD) (l : List CalD) (vps vl : Value) (w : World) (h : Shifts w vps c.ps) (hl : Cals w vl l) (hk : CkAll c l) :
    Calls Tryz.prog 35 #[.agg (clkV c vps), vl] w fun e w' => e = .returned (.int .i64 (dueF c l)) ∧ Below w.heap.size w w' := by
  obtain ⟨x1, x2⟩ := box1 w (clkV c vps) 34
  have k0 : (w.alloc (.cells (clkV c vps) 34)).cell? ⟨w.heap.size, 0, none⟩ = some (.int .i64 c.kind) := x1.cell 0
  have k1 : (w.alloc (.cells (clkV c vps) 34)).cell? ⟨w.heap.size, 1, none⟩ = some (.int .i64 c.lev) := x1.cell 1
  have k2 : (w.alloc (.cells (clkV c vps) 34)).cell? ⟨w.heap.size, 2, none⟩ = some (.int .i64 c.min) := x1.cell 2
  have k3 : (w.alloc (.cells (clkV c vps) 34)).cell? ⟨w.heap.size, 3, none⟩ = some (.int .i64 c.start) := x1.cell 3
  have k4 : (w.alloc (.cells (clkV c vps) 34)).cell? ⟨w.heap.size, 4, none⟩ = some (.int .i64 c.stop) := x1.cell 4
  have k5 : (w.alloc (.cells (clkV c vps) 34)).cell? ⟨w.heap.size, 5, none⟩ = some (.int .i64 c.fin) := x1.cell 5
  have k6 : (w.alloc (.cells (clkV c vps) 34)).cell? ⟨w.heap.size, 6, none⟩ = some vps := x1.cell 6
  have HB := Lib.hid x2
  have hm := hk.clk.head.min
  have HCN := Lib.hid (counted_any c l vps vl c.min _ (h.below x2) (hl.below x2) hk hm.1 hm.2)
  have HD := Lib.hid (show dueF c l = (cntF l c.ps c.min).getD 3000000 from rfl)
  clear x1 x2 h hl hk hm
  unfold clkV at *
  generalize cntF l c.ps c.min = r at *
  go_enter Tryz.func35, Tryz.ntmps35
  go_upto_region 1 with fail
  generalize w.alloc (.cells #[.int .i64 c.kind, .int .i64 c.lev, .int .i64 c.min, .int .i64 c.start, .int .i64 c.stop, .int .i64 c.fin, vps] 34) = w2 at *
  go_wp2_with fail
  refine HCN.out.mono ?_
  rintro e w3 ⟨rfl, hb3⟩
  have HB3 := Lib.hid (below_up HB.out hb3 HB.out.size)
  clear hb3 HCN k0 k1 k2 k3 k4 k5 k6
  cases r with
  | none =>
    go_wp2_with fail
    go_ret
    exact ⟨by rw [HD.out]; rfl, HB3.out⟩
  | some m =>
    go_wp2_with fail
    go_ret
    exact ⟨by rw [HD.out]; rfl, HB3.out⟩

/-- Due: an error, or the moment -/
def DuPost (c : ClkD) (l : List CalD) (w : World) (e : Ending) (w' : World) : Prop :=
  ∃ d k : Int, e = .returned (.tuple #[.int .i64 d, .int .i64 k]) ∧ Below w.heap.size w w' ∧ (k ≠ 0 → d = 0) ∧ (k = 0 → CkAll c l ∧ (c.ps ≠ [] ∧ (c.ps.getD (c.ps.length - 1) (0, 0, 0)).2.1 = -1) ∧ d = dueF c l)
set_option maxRecDepth 100000 in
set_option maxHeartbeats 8000000 in
theorem Due_any (c : ClkD) (l : List CalD) (vps vl : Value) (w : World) (h : Shifts w vps c.ps) (hl : Cals w vl l) :
    Calls Tryz.prog 15 #[.agg (clkV c vps), vl] w (DuPost c l w) := by
  obtain ⟨x1, x2⟩ := box1 w (clkV c vps) 34
  have HX := Lib.hid x1
  have HB := Lib.hid x2
  have hz : (w.alloc (.cells (clkV c vps) 34)).heap.size = w.heap.size + 1 := by simp
  have k0 : (w.alloc (.cells (clkV c vps) 34)).cell? ⟨w.heap.size, 0, none⟩ = some (.int .i64 c.kind) := x1.cell 0
  have k1 : (w.alloc (.cells (clkV c vps) 34)).cell? ⟨w.heap.size, 1, none⟩ = some (.int .i64 c.lev) := x1.cell 1
  have k2 : (w.alloc (.cells (clkV c vps) 34)).cell? ⟨w.heap.size, 2, none⟩ = some (.int .i64 c.min) := x1.cell 2
  have k3 : (w.alloc (.cells (clkV c vps) 34)).cell? ⟨w.heap.size, 3, none⟩ = some (.int .i64 c.start) := x1.cell 3
  have k4 : (w.alloc (.cells (clkV c vps) 34)).cell? ⟨w.heap.size, 4, none⟩ = some (.int .i64 c.stop) := x1.cell 4
  have k5 : (w.alloc (.cells (clkV c vps) 34)).cell? ⟨w.heap.size, 5, none⟩ = some (.int .i64 c.fin) := x1.cell 5
  have k6 : (w.alloc (.cells (clkV c vps) 34)).cell? ⟨w.heap.size, 6, none⟩ = some vps := x1.cell 6
  have H := Lib.hid h
  have HL := Lib.hid hl
  clear x1 x2 h hl
  obtain ⟨y1, y2⟩ := box1 (w.alloc (.cells (clkV c vps) 34)) (clkV c vps) 34
  rw [hz] at y1 y2
  have HB2 := Lib.hid (below_up HB.out (by rw [hz]; exact y2) HB.out.size)
  have HX2 := Lib.hid (HX.out.below y2 (by omega))
  have HCH := Lib.hid (check_any c l vps vl (w.heap.size + 1) _ y1 (H.out.below HB2.out) (HL.out.below HB2.out))
  unfold clkV at *
  clear y1 y2
  go_enter Tryz.func15, Tryz.ntmps15
  go_upto_region 1 with fail
  generalize w.alloc (.cells #[.int .i64 c.kind, .int .i64 c.lev, .int .i64 c.min, .int .i64 c.start, .int .i64 c.stop, .int .i64 c.fin, vps] 34) = w2 at *
  go_wp2_with fail
  refine HCH.out.mono ?_
  rintro e w3 ⟨⟨k, rfl, hk⟩, hb3⟩
  have HK := Lib.hid hk
  have HB3 := Lib.hid (below_up HB2.out hb3 HB2.out.size)
  have HX3 := Lib.hid (HX2.out.below hb3 HX2.out.lt)
  clear hb3 hk HCH k0 k1 k2 k3 k4 k5 k6 HX HB HX2 HB2
  by_cases hz0 : k = 0
  · subst hz0
    have HALL := Lib.hid (HK.out.1 rfl)
    have k0 := HX3.out.cell 0
    have k1 := HX3.out.cell 1
    have k2 := HX3.out.cell 2
    have k3 := HX3.out.cell 3
    have k4 := HX3.out.cell 4
    have k5 := HX3.out.cell 5
    have k6 := HX3.out.cell 6
    have HRN := Lib.hid (cruns_any c vps w3 (H.out.below HB3.out) HALL.out.clk.len)
    unfold clkV at HRN
    go_wp2_with fail
    refine HRN.out.mono ?_
    rintro e w4 ⟨⟨b, rfl, hb⟩, hb4⟩
    have HBI := Lib.hid hb
    have HB4 := Lib.hid (below_up HB3.out hb4 HB3.out.size)
    have HX4 := Lib.hid (HX3.out.below hb4 HX3.out.lt)
    clear hb hb4 HRN k0 k1 k2 k3 k4 k5 k6
    cases b with
    | false =>
      go_wp2_with fail
      go_ret2
      exact ⟨_, _, rfl, HB4.out, fun _ => rfl, fun g => absurd g (by decide)⟩
    | true =>
      have k0 := HX4.out.cell 0
      have k1 := HX4.out.cell 1
      have k2 := HX4.out.cell 2
      have k3 := HX4.out.cell 3
      have k4 := HX4.out.cell 4
      have k5 := HX4.out.cell 5
      have k6 := HX4.out.cell 6
      have HDU := Lib.hid (due_any c l vps vl w4 (H.out.below HB4.out) (HL.out.below HB4.out) HALL.out)
      unfold clkV at HDU
      go_wp2_with fail
      refine HDU.out.mono ?_
      rintro e w5 ⟨rfl, hb5⟩
      have HB5 := Lib.hid (below_up HB4.out hb5 HB4.out.size)
      clear hb5 HDU k0 k1 k2 k3 k4 k5 k6
      go_wp2_with fail
      go_ret2
      exact ⟨_, _, rfl, HB5.out, fun g => absurd rfl g, fun _ => ⟨HALL.out, HBI.out.1 (by trivial), rfl⟩⟩
  · have qz : (k == 0) = false := by simpa using hz0
    have qz2 : (k != 0) = true := by simpa using hz0
    have HZ := Lib.hid hz0
    clear hz0
    go_wp2_with fail
    go_ret2
    exact ⟨_, _, rfl, HB3.out, fun _ => rfl, fun g => absurd g HZ.out⟩
end Go.Proofs.YtllcgcnebofdoaaGreatDoor

/- A region that draws its order and whose LAST operation stores into a cell that the region loads: a load is taken first under a condition on the world that need not hold behind that last operation. No program in sight. -/
namespace Go.Proofs.YtllcgcnebofdoaaGreatDoor
open Go

section
variable {P : Program} {ops : Array Oper} {Q : Exit → Act → World → Prop} {md : Region.Mode} {S : World → Prop} {t : Nat}
/-- whatever order is picked; S holds behind every operation but number t -/
def anyT (P : Program) (md : Region.Mode) (ops : Array Oper) (Q : Exit → Act → World → Prop) (S : World → Prop) (t : Nat) : Nat → Array Bool → Act → World → Prop
  | 0, listed, a, w => Region.ready md ops listed = [] ∧ Q .normal a w
  | f + 1, listed, a, w => (Region.ready md ops listed = [] → Q .normal a w) ∧ ∀ j ∈ Region.ready md ops listed, wpOp P ops Q j (fun a' w' => (j ≠ t → S w') ∧ anyT P md ops Q S t f (listed.setIfInBounds j true) a' w') a w
theorem anyT_any : ∀ (f : Nat) (listed : Array Bool) (a : Act) (w : World), anyT P md ops Q S t f listed a w → wpAny P md ops Q f listed a w
  | 0, _, _, _, h => h
  | f + 1, _, _, _, h => ⟨h.1, fun j hj => wpOp_mono (fun a' w' h' => anyT_any f _ a' w' h'.2) (h.2 j hj)⟩
theorem anyT_start {id : Nat} {a : Act} {w : World} (hm : P.follows .mixedOrders = true) (h : anyT P .any ops Q S t ops.size (Array.replicate ops.size false) a w.drew) : (Code.region id ops true).wp P Q a w :=
  wp_region_any hm (anyT_any _ _ _ _ h)

/-- number t waits for number i -/
def waits (md : Region.Mode) (ops : Array Oper) (t i : Nat) : Bool := match ops[t]? with
  | some o => o.after.any fun e => Region.binds md e && e.on == i
  | none => false
theorem waits_not {listed : Array Bool} {i : Nat} (hw : waits md ops t i = true) (hi : i ∈ Region.ready md ops listed) : t ∉ Region.ready md ops listed := by
  intro ht
  obtain ⟨_, ot, hot, hall⟩ := mem_ready.1 ht
  unfold waits at hw
  rw [hot] at hw
  simp only [Array.any_eq_true'] at hw
  obtain ⟨e, he, hb⟩ := hw
  simp only [Bool.and_eq_true, beq_iff_eq] at hb
  have h1 := hall e he hb.1
  rw [hb.2] at h1
  have h0 := (mem_ready.1 hi).1
  rcases Nat.lt_or_ge i listed.size with h' | h'
  · simp [h'] at h0 h1; rw [h0] at h1; cases h1
  · simp [Array.getElem?_eq_none h'] at h1
theorem anyT_first {i : Nat} {oi : Oper} {v : Value} (hi : ops[i]? = some oi) (hsel : ∀ (j : Nat) (o : Oper) cs b, ops[j]? = some o → o.op ≠ .select cs b)
    (hQ : ∀ c a w, Q (.panic c) (a.put oi.dst v) w → Q (.panic c) a w) (hit : i ≠ t) (hw : waits md ops t i = true) : ∀ (f : Nat) (listed : Array Bool) (a : Act) (w : World),
    (∀ j oj, ops[j]? = some oj → j ≠ i → listed.getD j true = false → (∀ e ∈ oj.after, Region.binds md e = true → e.on ≠ i) → oi.apart ops oj = true) →
    i ∈ Region.ready md ops listed → YieldsIf P ops S oi v a → S w → anyT P md ops Q S t f (listed.setIfInBounds i true) (a.put oi.dst v) w → anyT P md ops Q S t (f + 1) listed a w := by
  intro f
  induction f with
  | zero =>
    intro listed a w _ hr hy hS H
    refine ⟨fun h => (by rw [h] at hr; cases hr), fun j hj => ?_⟩
    by_cases e : j = i
    · subst e; exact hy.wpOp hi hS ⟨fun _ => hS, H⟩
    · have := ready_mono hj e
      rw [H.1] at this
      cases this
  | succ f ih =>
    intro listed a w hfree hr hy hS H
    refine ⟨fun h => (by rw [h] at hr; cases hr), fun j hj => ?_⟩
    by_cases e : j = i
    · subst e; exact hy.wpOp hi hS ⟨fun _ => hS, H⟩
    · have hjt : j ≠ t := fun q => waits_not hw hr (by rw [← q]; exact hj)
      have h1 := H.2 j (ready_mono hj e)
      obtain ⟨hun, oj, hoj, hall⟩ := mem_ready.1 hj
      have hno : ∀ e ∈ oj.after, Region.binds md e = true → e.on ≠ i := fun e he hb q => by
        have h2 := hall e he hb
        have h0 := (mem_ready.1 hr).1
        rw [q] at h2
        rcases Nat.lt_or_ge i listed.size with h' | h'
        · simp [h'] at h0 h2; rw [h0] at h2; cases h2
        · simp [Array.getElem?_eq_none h'] at h2
      have h2 := wpOp_putIf hoj (hfree j oj hoj e hun hno) (fun cs b => hsel i oi cs b hi) (fun cs b => hsel j oj cs b hoj) hQ hy h1
      refine wpOp_mono (fun a' w' h3 => ⟨h3.2.1, ih (listed.setIfInBounds j true) a' w' ?_ (ready_mono hr (Ne.symm e)) h3.1 (h3.2.1 hjt) ?_⟩) h2
      · intro k ok hk hki hunk hnok
        refine hfree k ok hk hki ?_ hnok
        by_cases g : j = k
        · subst g; exact hun
        · rw [getD_set_ne true g] at hunk; exact hunk
      · rw [Array.setIfInBounds_comm _ _ e]
        exact h3.2.2

/-- number i is taken first -/
theorem takeT {i d : Nat} {oi : Oper} {v : Value} {f : Nat} {listed : Array Bool} {tmps : Array Value} {defers : List Deferred} {w : World} (hi : ops[i]? = some oi) (hd : oi.dst = some d)
    (hs : Region.noSelect ops = true) (hf : Region.free md ops listed i = true) (hr : (Region.ready md ops listed).contains i = true)
    (hQ : ∀ c a w, Q (.panic c) (a.put oi.dst v) w → Q (.panic c) a w) (hit : i ≠ t) (hwt : waits md ops t i = true) (hw : Region.wanted oi (yielded ops tmps) = true)
    (hy : ∀ w, S w → (execOp (Act.eval ⟨tmps, defers⟩) oi).run P w = .ok (.value v) w) (hS : S w)
    (h : anyT P md ops Q S t f (listed.setIfInBounds i true) ⟨tmps.setIfInBounds d v, defers⟩ w) : anyT P md ops Q S t (f + 1) listed ⟨tmps, defers⟩ w := by
  refine anyT_first hi (Region.noSelect_spec hs) hQ hit hwt f listed _ w (Region.free_spec hi hf) (by simpa using hr) (Or.inl ⟨hw, hy⟩) hS ?_
  rw [hd]
  exact h
/-- the only one that may come up -/
theorem oneT {i : Nat} {o : Oper} {f : Nat} {listed : Array Bool} {a : Act} {w : World} (ho : ops[i]? = some o) (hr : Region.ready md ops listed = [i])
    (h : ∀ K' : Act → World → Prop, Shut (∀ a w, (i ≠ t → S w) → anyT P md ops Q S t f (listed.setIfInBounds i true) a w → K' a w) → if Region.wanted o (yielded ops a.tmps) = true then Oper.wp P o a w K' Q else K' (a.put o.dst undef) w) :
    anyT P md ops Q S t (f + 1) listed a w := by
  refine ⟨fun h0 => (by rw [hr] at h0; cases h0), fun j hj => ?_⟩
  rw [hr] at hj
  obtain rfl : j = i := by simpa using hj
  exact wpOp_step ho (fun K' hK => h K' (fun a w hS hW => hK a w ⟨hS, hW⟩))
theorem doneT {listed : Array Bool} {a : Act} {w : World} (hr : Region.ready md ops listed = []) (h : Q .normal a w) : ∀ f, anyT P md ops Q S t f listed a w
  | 0 => ⟨hr, h⟩
  | _ + 1 => ⟨fun _ => h, by rw [hr]; simp⟩
end
end Go.Proofs.YtllcgcnebofdoaaGreatDoor
