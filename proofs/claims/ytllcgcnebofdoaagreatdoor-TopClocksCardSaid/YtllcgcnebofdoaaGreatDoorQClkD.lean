/- The walk of level.elapsed. -/
import Derived.Test.YtllcgcnebofdoaaGreatDoorQClkB
import Derived.Test.YtllcgcnebofdoaaGreatDoorQWorked
import Derived.Test.YtllcgcnebofdoaaGreatDoorQAdd
namespace Go.Proofs.YtllcgcnebofdoaaGreatDoor
open Go.RowKit

theorem worked_ok (c : CalD) (vcs vwk vsp : Value) (fr en : Int) (w : World) (h : CalAt w vcs vwk vsp c) (hf : CkFine c) (h0 : 0 ≤ fr) (h1 : fr ≤ 3000000) (h2 : fr ≤ en) (h3 : en ≤ 3000001) :
    Calls Tryz.prog 96 #[.agg #[.int .i64 c.off, vcs, vwk, vsp], .int .i64 fr, .int .i64 en] w fun e w' => e = .returned (.tuple #[.int .i64 (lens (openL c fr en)), .int .i64 0]) ∧ Below w.heap.size w w' := by
  refine (Worked_any c vcs vwk vsp fr en w h).mono ?_
  rintro e w' ⟨n, k, rfl, hk, hn, _, hb⟩
  obtain rfl : k = 0 := hk.2 ⟨hf, (strI_zero _ _).2 ⟨h0, h1, h2, h3⟩⟩
  rw [hn rfl]
  exact ⟨rfl, hb⟩
theorem add_ok (c : CalD) (vcs vwk vsp : Value) (fr k m : Int) (w : World) (h : CalAt w vcs vwk vsp c) (hf : CkFine c) (h0 : 0 ≤ fr) (h1 : fr ≤ 3000000) (h2 : 0 ≤ k) (h3 : k ≤ 3000001) (ha : addF k (openL c fr 3000001) = some m) :
    Calls Tryz.prog 97 #[.agg #[.int .i64 c.off, vcs, vwk, vsp], .int .i64 fr, .int .i64 k] w fun e w' => e = .returned (.tuple #[.int .i64 m, .int .i64 0]) ∧ Below w.heap.size w w' := by
  refine (Add_any c vcs vwk vsp fr k w h).mono ?_
  rintro e w' ⟨n, k', rfl, hk, _, hb⟩
  rcases hk ⟨hf, by unfold momI; rw [if_pos ⟨h0, h1⟩], by unfold wkI; rw [if_pos ⟨h2, h3⟩]⟩ with ⟨m', e1, e2, e3⟩ | ⟨e1, _⟩
  · rw [ha] at e1
    cases e1
    subst e2 e3
    exact ⟨rfl, hb⟩
  · rw [ha] at e1
    cases e1
/-- what is known of a clock's piece -/
structure PcFacts (c : ClkD) (l : List CalD) (p : Pc) : Prop where
  lo : 0 ≤ p.1
  st : c.start ≤ p.1
  hi : p.1 ≤ 3000000
  c0 : 0 ≤ p.2.2
  c1 : p.2.2 < (l.length : Int)
  en : p.2.1 = -1 ∨ (p.1 + 1 ≤ p.2.1 ∧ p.2.1 ≤ 3000000)
  fine : CkFine (pcCal l p)
theorem pc_facts {c : ClkD} {l : List CalD} (h : CkAll c l) {i : Nat} (hi : i < c.ps.length) : PcFacts c l c.ps[i] := by
  have hg := h.clk.each i hi
  unfold Good at hg
  rw [show c.ps.getD i (0, 0, 0) = c.ps[i] by simp [List.getD, hi]] at hg
  obtain ⟨⟨a1, a2⟩, ⟨b1, b2⟩, e, _, _, _⟩ := hg
  have hs := h.clk.head.start
  have hn := h.inn _ (List.getElem_mem hi)
  refine ⟨by omega, a1, a2, b1, hn, e, ?_⟩
  unfold pcCal
  have hl : (c.ps[i]).2.2.toNat < l.length := by omega
  rw [show l.getD (c.ps[i]).2.2.toNat ⟨0, [], [], []⟩ = l[(c.ps[i]).2.2.toNat] by simp [List.getD, hl]]
  exact h.cals _ (List.getElem_mem hl)
theorem lens_bound {c : CalD} (hc : CalOk c) {a b : Int} (h : 0 ≤ a) (hb : a ≤ b) : 0 ≤ lens (openL c a b) ∧ lens (openL c a b) ≤ b - a := by
  rw [open_lens hc h hb]
  have := cnt_le (openB c) a b
  omega
theorem cut_le {p : Pc} {m : Int} (hm : m ≤ 3000001) : cutEnd p m ≤ 3000001 := by
  unfold cutEnd
  split <;> omega
theorem pcN_bound {c : ClkD} {l : List CalD} {p : Pc} {m : Int} (h : PcFacts c l p) (hm : m ≤ 3000001) : 0 ≤ pcN l p m ∧ pcN l p m ≤ 3000001 := by
  unfold pcN
  split
  · have := lens_bound h.fine.fine.ok h.lo (by omega : p.1 ≤ cutEnd p m)
    have := cut_le (p := p) hm
    have := h.lo
    omega
  · omega
structure ElInv (c : ClkD) (l : List CalD) (vps : Value) (m : Int) (w wr : World) (i : Nat) (s : Int) : Prop where
  le : i ≤ c.ps.length
  sum : s = elapF l (c.ps.take i) m
  lo : 0 ≤ s
  hi : s ≤ 3000001 * i
  box : Has wr w.heap.size (clkV c vps) 34
  below : Below w.heap.size w wr

set_option maxRecDepth 100000 in
set_option maxHeartbeats 8000000 in
theorem elapsed_any (c : ClkD) (l : List CalD) (vps vl : Value) (m : Int) (w : World) (h : Shifts w vps c.ps) (hl : Cals w vl l) (hk : CkAll c l) (hm : m ≤ 3000001) :
    Calls Tryz.prog 66 #[.agg (clkV c vps), vl, .int .i64 m] w fun e w' => e = .returned (.int .i64 (elapF l c.ps m)) ∧ Below w.heap.size w w' := by
  obtain ⟨pa, pc, rfl⟩ := SliceAt.len h
  obtain ⟨ca, cc, rfl⟩ := SliceAt.len hl
  have H := Lib.hid h
  have HL := Lib.hid hl
  have HK := Lib.hid hk
  have hl6 := hk.clk.len
  have hbx := box1 w (clkV c (.slice pa c.ps.length pc)) 34
  have HI0 := Lib.hid (show ElInv c l (.slice pa c.ps.length pc) m w (w.alloc (.cells (clkV c (.slice pa c.ps.length pc)) 34)) 0 0 from ⟨Nat.zero_le _, rfl, by omega, by omega, hbx.1, hbx.2⟩)
  have k6 : (w.alloc (.cells (clkV c (.slice pa c.ps.length pc)) 34)).cell? ⟨w.heap.size, 6, none⟩ = some (.slice pa c.ps.length pc) := hbx.1.cell 6
  unfold clkV at HI0 k6 ⊢
  clear h hl hk hbx
  go_enter Tryz.func66, Tryz.ntmps66
  go_upto_region 2 with fail
  generalize w.alloc (.cells #[.int .i64 c.kind, .int .i64 c.lev, .int .i64 c.min, .int .i64 c.start, .int .i64 c.stop, .int .i64 c.fin, .slice pa c.ps.length pc] 34) = w2 at *
  go_wp2_with fail
  go_loopw [7, 16] (fun sv iv wr => ∃ (i : Nat) (s : Int), iv = .int .i64 ((i : Nat) : Int) ∧ sv = .int .i64 s ∧ ElInv c l (.slice pa c.ps.length pc) m w wr i s) (fun _ iv _ => c.ps.length - (intOf iv).toNat)
  case atStart => exact ⟨0, 0, rfl, rfl, HI0.out⟩
  case round =>
    obtain ⟨i, s, rfl, rfl, hI⟩ := hrel
    have HI := Lib.hid hI
    have hi := hI.le
    have hs0 := hI.lo
    have hs1 := hI.hi
    clear hI HI0 k6
    by_cases hlt : i < c.ps.length
    · obtain ⟨b, of', cap', hv, hb, hel⟩ := Shifts.at H.out (by omega)
      cases hv
      obtain ⟨e0, e1, e2⟩ := hel i hlt
      have c0 := (below_cell HI.out.below hb).trans e0
      have c1 := (below_cell HI.out.below hb).trans e1
      have c2 := (below_cell HI.out.below hb).trans e2
      have HPF := Lib.hid (pc_facts HK.out hlt)
      have HT := Lib.hid (show elapF l (c.ps.take (i + 1)) m = s + pcN l c.ps[i] m from by
        rw [List.take_succ_eq_append_getElem hlt, elap_append, ← HI.out.sum]
        simp [elapF])
      clear e0 e1 e2 hel
      generalize c.ps[i] = p at *
      obtain ⟨x1, x2, x3⟩ := p
      simp only at c0 c1 c2
      have hx3 := HPF.out.c0
      have hx3' := HPF.out.c1
      have hx1 := HPF.out.lo
      have hx1' := HPF.out.hi
      simp only at hx3 hx3' hx1 hx1'
      obtain ⟨j, rfl⟩ : ∃ j : Nat, x3 = (j : Int) := ⟨x3.toNat, by omega⟩
      have hjl : j < l.length := by omega
      obtain ⟨cb, co, cap2, hv2, hcb, hel2⟩ := Cals.at HL.out (by omega)
      cases hv2
      obtain ⟨vcs, vwk, vsp, f0, f1, f2, f3, hca⟩ := hel2 j hjl
      have HCA := Lib.hid hca
      have HCX := Lib.hid (show pcCal l (x1, x2, (j : Int)) = l[j] from by unfold pcCal; simp [List.getD, hjl])
      have HFN := Lib.hid (show CkFine l[j] from by have := HPF.out.fine; rw [HCX.out] at this; exact this)
      go_upto_if 23 with fail
      obtain ⟨bx, bbl⟩ := box1 wr #[.int .i64 x1, .int .i64 x2, .int .i64 ((j : Nat) : Int)] 79
      have HB4 := Lib.hid (below_up HI.out.below bbl HI.out.below.size)
      have HBX := Lib.hid bx
      have HCK := Lib.hid (HI.out.box.below bbl HI.out.box.lt)
      have m0 := bx.cell 0
      have m1 := bx.cell 1
      have m2 := bx.cell 2
      have d0 := (below_cell HB4.out hcb).trans f0
      have d1 := (below_cell HB4.out hcb).trans f1
      have d2 := (below_cell HB4.out hcb).trans f2
      have d3 := (below_cell HB4.out hcb).trans f3
      clear bx bbl c0 c1 c2 f0 f1 f2 f3 hca hel2
      generalize wr.alloc (.cells #[.int .i64 x1, .int .i64 x2, .int .i64 ((j : Nat) : Int)] 79) = wb at *
      generalize wr.heap.size = B at *
      go_cut [10] from 21 to 27 (fun v wx => v = .int .i64 (cutEnd (x1, x2, (j : Int)) m) ∧ wx = wb)
      case first =>
        clear HT HPF HFN HCX HCA d0 d1 d2 d3 HCK HBX
        by_cases g : x2 = -1
        · subst g
          have HE := Lib.hid (show cutEnd (x1, -1, (j : Int)) m = m by unfold cutEnd; rw [if_pos rfl])
          go_wp2_with fail
          go_meet
          exact ⟨by rw [HE.out], rfl⟩
        · have q1 : (x2 == -1) = false := by simpa using g
          have q2 : (x2 != -1) = true := by simpa using g
          have HCU := Lib.hid (show cutEnd (x1, x2, (j : Int)) m = min m x2 by unfold cutEnd; rw [if_neg g])
          by_cases g2 : x2 < m
          · have q3 : decide (x2 < m) = true := decide_eq_true g2
            have HE := Lib.hid (show cutEnd (x1, x2, (j : Int)) m = x2 by rw [HCU.out]; omega)
            clear g
            go_wp2_with fail
            go_meet
            exact ⟨by rw [HE.out], rfl⟩
          · have q3 : decide (x2 < m) = false := decide_eq_false g2
            have HE := Lib.hid (show cutEnd (x1, x2, (j : Int)) m = m by rw [HCU.out]; omega)
            have q4 : decide (m ≤ x2) = true := decide_eq_true (by omega)
            clear g
            go_wp2_with fail
            go_meet
            exact ⟨by rw [HE.out], rfl⟩
      case rest =>
        obtain ⟨rfl, rfl⟩ := hcut
        have HCE := Lib.hid (cut_le (p := (x1, x2, (j : Int))) hm)
        have HN := Lib.hid (show pcN l (x1, x2, (j : Int)) m = if x1 < cutEnd (x1, x2, (j : Int)) m then lens (openL l[j] x1 (cutEnd (x1, x2, (j : Int)) m)) else 0 from by
          unfold pcN
          rw [HCX.out])
        have HPB := Lib.hid (pcN_bound HPF.out hm)
        have HIX := Lib.hid (show ∀ wx s', Below wc.heap.size wc wx → s' = s + pcN l (x1, x2, (j : Int)) m → ElInv c l (.slice (some ⟨b, of', none⟩) c.ps.length pc) m w wx (i + 1) s' from fun wx s' hb hs => ⟨hlt, by rw [HT.out]; exact hs, by have := HPB.out; omega, by have := HPB.out; push_cast; omega, HCK.out.below hb HCK.out.lt, below_up HB4.out hb HB4.out.size⟩)
        generalize cutEnd (x1, x2, (j : Int)) m = E at *
        generalize pcN l (x1, x2, (j : Int)) m = P at *
        have hE := HCE.out
        have hP := HPB.out
        clear HT HPF HCX HPB HCK
        by_cases g : x1 < E
        · have q1 : decide (x1 < E) = true := decide_eq_true g
          have HPE := Lib.hid (show P = lens (openL l[j] x1 E) by rw [HN.out, if_pos g])
          go_upto_region 9 with fail
          have hBl := HBX.out.lt
          have hCl : cb < wc.heap.size := Nat.lt_of_lt_of_le hcb HB4.out.size
          have HKS := Lib.hid (fun W (hW : Below wc.heap.size wc W) => (⟨(below_cell hW hBl).trans m0, (below_cell hW hBl).trans m2, (below_cell hW hCl).trans d0, (below_cell hW hCl).trans d1, (below_cell hW hCl).trans d2, (below_cell hW hCl).trans d3⟩ :
            W.cell? ⟨B, 0, none⟩ = some (.int .i64 x1) ∧ W.cell? ⟨B, 2, none⟩ = some (.int .i64 ((j : Nat) : Int)) ∧ W.cell? ⟨cb, co + j * 4, none⟩ = some (.int .i64 l[j].off) ∧ W.cell? ⟨cb, co + j * 4 + 1, none⟩ = some vcs ∧ W.cell? ⟨cb, co + j * 4 + 2, none⟩ = some vwk ∧ W.cell? ⟨cb, co + j * 4 + 3, none⟩ = some vsp))
          have hE := HCE.out
          have HWK := Lib.hid (fun W (hW : Below wc.heap.size wc W) => worked_ok l[j] vcs vwk vsp x1 E W (HCA.out.below (below_up HB4.out hW HB4.out.size)) HFN.out hx1 hx1' (Int.le_of_lt g) HCE.out)
          rw [← HPE.out] at HWK
          have HIY := Lib.hid (fun wx hb => HIX.out wx (s + P) hb rfl)
          have w1 : IntKind.i64.wrap (s + P) = s + P := IntWalk.i64_in _ (by omega)
          clear m0 m1 m2 d0 d1 d2 d3 HBX HN HIX g HPE
          go_cut [11, 12] (fun nv kv wx => nv = .int .i64 P ∧ kv = .int .i64 0 ∧ Below wc.heap.size wc wx)
          case first =>
            go_region_held3 (fun W => W.cell? ⟨B, 0, none⟩ = some (.int .i64 x1) ∧ W.cell? ⟨B, 2, none⟩ = some (.int .i64 ((j : Nat) : Int)) ∧ W.cell? ⟨cb, co + j * 4, none⟩ = some (.int .i64 l[j].off) ∧ W.cell? ⟨cb, co + j * 4 + 1, none⟩ = some vcs ∧ W.cell? ⟨cb, co + j * 4 + 2, none⟩ = some vwk ∧ W.cell? ⟨cb, co + j * 4 + 3, none⟩ = some vsp)
              (first | exact HKS.out _ hB | exact HKS.out _ (Below.refl _ _).drew)
              ((go_at_call 96; refine (HWK.out _ (Below.refl wc.heap.size wc).drew).mono ?_; rintro e w' ⟨rfl, hb⟩; have hB := below_up' (Below.refl wc.heap.size wc).drew hb))
            go_wp2
            go_meet
            exact ⟨rfl, rfl, hB⟩
          case rest =>
            obtain ⟨rfl, rfl, hbw⟩ := hcut
            have HIZ := Lib.hid (HIY.out _ hbw)
            clear HIY HWK HKS hbw
            go_wp2_with fail
            go_roundw
            case rel => exact ⟨i + 1, s + P, by go_num, rfl, HIZ.out⟩
            case measure => simp [intOf]; omega
        · have q1 : decide (x1 < E) = false := decide_eq_false g
          have HPE := Lib.hid (show P = 0 by rw [HN.out, if_neg g])
          have HIY := Lib.hid (HIX.out wc s (Below.refl _ _) (by rw [HPE.out]; omega))
          clear g HN HIX HPE
          go_wp2_with fail
          go_roundw
          case rel => exact ⟨i + 1, s, by go_num, rfl, HIY.out⟩
          case measure => simp [intOf]; omega
    · obtain rfl : i = c.ps.length := by omega
      have hs := HI.out.sum
      rw [List.take_length] at hs
      have HS := Lib.hid hs
      clear hs
      go_wp2_with fail
      go_ret
      exact ⟨by rw [← HS.out]; rfl, HI.out.below⟩
end Go.Proofs.YtllcgcnebofdoaaGreatDoor
