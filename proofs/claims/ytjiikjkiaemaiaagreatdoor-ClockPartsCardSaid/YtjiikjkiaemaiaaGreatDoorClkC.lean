/- The walks of level.check at one clock, and of level.runs. -/
import Derived.Test.YtjiikjkiaemaiaaGreatDoorClkB
namespace Go.Proofs.YtjiikjkiaemaiaaGreatDoor
open Go.RowKit

/-- what check finds right of one clock and the calendars -/
structure CkAll (c : ClkD) (l : List CalD) : Prop where
  clk : ClkOk c
  few : l.length ≤ 20
  cals : ∀ x ∈ l, CkFine x
  inn : ∀ p ∈ c.ps, p.2.2 < (l.length : Int)
structure LkInv (c : ClkD) (vps : Value) (ca : Option Addr) (n cc : Nat) (B : Nat) (w wr : World) : Prop where
  clk : Has wr B (clkV c vps) 24
  cal : Has wr w.heap.size #[.slice ca n cc] 25
  below : Below w.heap.size w wr
theorem LkInv.to {c : ClkD} {vps : Value} {ca : Option Addr} {n cc B : Nat} {w wr w' : World} (h : LkInv c vps ca n cc B w wr) (hb : Below wr.heap.size wr w') : LkInv c vps ca n cc B w w' :=
  ⟨h.clk.below hb h.clk.lt, h.cal.below hb h.cal.lt, below_up h.below hb h.below.size⟩

set_option maxRecDepth 100000 in
set_option maxHeartbeats 8000000 in
theorem check_any (c : ClkD) (l : List CalD) (vps vl : Value) (B : Nat) (w : World) (hc : Has w B (clkV c vps) 24) (h : Shifts w vps c.ps) (hl : Cals w vl l) :
    Calls Tryz.prog 9 #[.slice (some ⟨B, 0, none⟩) 1 1, vl] w fun e w' => (∃ k, e = .returned (.int .i64 k) ∧ (k = 0 ↔ CkAll c l)) ∧ Below w.heap.size w w' := by
  obtain ⟨pa, pc, rfl⟩ := SliceAt.len h
  obtain ⟨ca, cc, rfl⟩ := SliceAt.len hl
  have H := Lib.hid h
  have HL := Lib.hid hl
  have hbx := box1 w #[.slice ca l.length cc] 25
  have HI0 := Lib.hid (show LkInv c (.slice pa c.ps.length pc) ca l.length cc B w (w.alloc (.cells #[.slice ca l.length cc] 25)) from ⟨hc.below hbx.2 hc.lt, hbx.1, hbx.2⟩)
  have HN1 := Lib.hid (show CkAll c l → ClkOk c from fun g => g.clk)
  have HN2 := Lib.hid (show CkAll c l → l.length ≤ 20 from fun g => g.few)
  have HN3 := Lib.hid (show CkAll c l → ∀ x ∈ l, CkFine x from fun g => g.cals)
  have HN4 := Lib.hid (show CkAll c l → ∀ p ∈ c.ps, p.2.2 < (l.length : Int) from fun g => g.inn)
  clear h hl hc hbx
  go_enter Tryz.func9, Tryz.ntmps9
  go_upto_region 1 with fail
  generalize w.alloc (.cells #[.slice ca l.length cc] 25) = w2 at *
  go_wp2_with fail
  go_loopw [18] (fun iv wr => ∃ i : Nat, iv = .int .i64 ((i : Nat) : Int) ∧ (i = 0 ∨ (i = 1 ∧ ClkOk c)) ∧ LkInv c (.slice pa c.ps.length pc) ca l.length cc B w wr) (fun iv _ => 1 - (intOf iv).toNat)
  case atStart => exact ⟨0, rfl, .inl rfl, HI0.out⟩
  case round =>
    obtain ⟨i, rfl, hi, hI⟩ := hrel
    have HI := Lib.hid hI
    clear hI HI0
    rcases hi with rfl | ⟨rfl, hok⟩
    · have k0 : wr.cell? ⟨B, 0, none⟩ = some (.int .i64 c.kind) := HI.out.clk.cell 0
      have k1 : wr.cell? ⟨B, 1, none⟩ = some (.int .i64 c.lev) := HI.out.clk.cell 1
      have k2 : wr.cell? ⟨B, 2, none⟩ = some (.int .i64 c.min) := HI.out.clk.cell 2
      have k3 : wr.cell? ⟨B, 3, none⟩ = some (.int .i64 c.start) := HI.out.clk.cell 3
      have k4 : wr.cell? ⟨B, 4, none⟩ = some (.int .i64 c.stop) := HI.out.clk.cell 4
      have k5 : wr.cell? ⟨B, 5, none⟩ = some (.int .i64 c.fin) := HI.out.clk.cell 5
      have k6 : wr.cell? ⟨B, 6, none⟩ = some (.slice pa c.ps.length pc) := HI.out.clk.cell 6
      obtain ⟨bx, bbl⟩ := box1 wr (clkV c (.slice pa c.ps.length pc)) 24
      have HI4 := Lib.hid (HI.out.to bbl)
      have HB4 := Lib.hid bx
      unfold clkV at HI4 HB4
      clear bx bbl HI
      go_upto_region 6 with fail
      generalize wr.alloc (.cells #[.int .i64 c.kind, .int .i64 c.lev, .int .i64 c.min, .int .i64 c.start, .int .i64 c.stop, .int .i64 c.fin, .slice pa c.ps.length pc] 24) = wb at *
      generalize wr.heap.size = Bx at *
      clear k0 k1 k2 k3 k4 k5 k6
      have k0 := HB4.out.cell 0
      have k1 := HB4.out.cell 1
      have k2 := HB4.out.cell 2
      have k3 := HB4.out.cell 3
      have k4 := HB4.out.cell 4
      have k5 := HB4.out.cell 5
      have k6 := HB4.out.cell 6
      have HCC := Lib.hid (CheckClock_any c (.slice pa c.ps.length pc) wb (H.out.below HI4.out.below))
      unfold clkV at HCC
      go_wp2_with fail
      refine HCC.out.mono ?_
      rintro e w5 ⟨⟨k, rfl, hk⟩, hb5⟩
      have HK := Lib.hid hk
      have HI5 := Lib.hid (HI4.out.to hb5)
      clear hk hb5 HI4 HB4 HCC k0 k1 k2 k3 k4 k5 k6
      by_cases hz : k = 0
      · subst hz
        have HOK := Lib.hid (HK.out.1 rfl)
        go_wp2_with fail
        go_roundw
        case rel => exact ⟨1, by go_num, .inr ⟨rfl, HOK.out⟩, HI5.out⟩
        case measure => simp [intOf]
      · have qz : (k == 0) = false := by simpa using hz
        have qz2 : (k != 0) = true := by simpa using hz
        have HZ := Lib.hid hz
        clear hz
        go_wp2_with fail
        go_ret
        exact ⟨⟨_, rfl, ⟨fun g => absurd g HZ.out, fun g => HK.out.2 (HN1.out g)⟩⟩, HI5.out.below⟩
    · have HOK := Lib.hid hok
      clear hok
      have v0 : wr.cell? ⟨w.heap.size, 0, none⟩ = some (.slice ca l.length cc) := HI.out.cal.cell 0
      by_cases hl : 20 < l.length
      · have q1 : decide ((20 : Int) < (l.length : Int)) = true := decide_eq_true (by omega)
        have HLL := Lib.hid hl
        clear hl
        go_wp2_with fail
        go_ret
        exact ⟨⟨_, rfl, ⟨fun g => absurd g (by decide), fun g => absurd (HN2.out g) (by have := HLL.out; omega)⟩⟩, HI.out.below⟩
      have q1 : decide ((20 : Int) < (l.length : Int)) = false := decide_eq_false (by omega)
      have hl20 : l.length ≤ 20 := by omega
      clear hl
      go_wp2_with fail
      go_loopw [33] (fun iv wr => ∃ i : Nat, iv = .int .i64 ((i : Nat) : Int) ∧ i ≤ l.length ∧ (∀ x ∈ l.take i, CkFine x) ∧ LkInv c (.slice pa c.ps.length pc) ca l.length cc B w wr) (fun iv _ => l.length - (intOf iv).toNat)
      case atStart => exact ⟨0, rfl, Nat.zero_le _, by rw [List.take_zero]; exact (fun p hp => by cases hp), HI.out⟩
      case round =>
        obtain ⟨i, rfl, hi, hall, hI⟩ := hrel
        rename World => wy
        clear v0 HI
        have HA := Lib.hid hall
        have HI := Lib.hid hI
        clear hall hI
        by_cases hlt : i < l.length
        · obtain ⟨b, of', cap', hv, hb, hel⟩ := Cals.at HL.out (by omega)
          cases hv
          obtain ⟨vcs, vwk, vsp, e0, e1, e2, e3, hca⟩ := hel i hlt
          obtain ⟨x1a, x1c, rfl⟩ := SliceAt.len hca.cs
          obtain ⟨x2a, x2c, rfl⟩ := SliceAt.len hca.wk
          obtain ⟨x3a, x3c, rfl⟩ := SliceAt.len hca.sps
          have c0 := (below_cell HI.out.below hb).trans e0
          have c1 := (below_cell HI.out.below hb).trans e1
          have c2 := (below_cell HI.out.below hb).trans e2
          have c3 := (below_cell HI.out.below hb).trans e3
          have HCA := Lib.hid hca
          have HM := Lib.hid (List.getElem_mem hlt)
          have HT := Lib.hid (List.take_succ_eq_append_getElem hlt)
          clear hca e0 e1 e2 e3 hel
          generalize l[i] = x at *
          obtain ⟨bx, bbl⟩ := box1 wy #[.int .i64 x.off, .slice x1a x.cs.length x1c, .slice x2a x.wk.length x2c, .slice x3a x.sps.length x3c] 60
          have HI4 := Lib.hid (HI.out.to bbl)
          have k0 := bx.cell 0
          have k1 := bx.cell 1
          have k2 := bx.cell 2
          have k3 := bx.cell 3
          clear bx bbl HI
          go_upto_region 15 with fail
          generalize wy.alloc (.cells #[.int .i64 x.off, .slice x1a x.cs.length x1c, .slice x2a x.wk.length x2c, .slice x3a x.sps.length x3c] 60) = wb at *
          generalize wy.heap.size = Bx at *
          have HCC := Lib.hid (CheckCalendar_any x _ _ _ wb (HCA.out.below HI4.out.below))
          clear c0 c1 c2 c3
          go_wp2_with fail
          refine HCC.out.mono ?_
          rintro e w5 ⟨⟨k, rfl, hk⟩, hb5⟩
          have HK := Lib.hid hk
          have HI5 := Lib.hid (HI4.out.to hb5)
          clear hk hb5 HI4 HCC k0 k1 k2 k3
          by_cases hz : k = 0
          · subst hz
            have HXF := Lib.hid (HK.out.1 rfl)
            go_wp2_with fail
            go_roundw
            case rel =>
              repeat apply Exists.intro
              refine ⟨⟨i + 1, ?_, hlt, ?_, HI5.out⟩, rfl⟩
              · go_num
              · rw [HT.out]
                intro p hp
                rcases List.mem_append.1 hp with g | g
                · exact HA.out p g
                · rw [List.mem_singleton.1 g]; exact HXF.out
            case measure => simp [intOf]; omega
          · have qz : (k == 0) = false := by simpa using hz
            have qz2 : (k != 0) = true := by simpa using hz
            have HZ := Lib.hid hz
            clear hz
            go_wp2_with fail
            go_ret
            exact ⟨⟨_, rfl, ⟨fun g => absurd g HZ.out, fun g => HK.out.2 (HN3.out g _ HM.out)⟩⟩, HI5.out.below⟩
        · obtain rfl : i = l.length := by omega
          have hf := HA.out
          rw [List.take_length] at hf
          have HF := Lib.hid hf
          clear hf HA
          go_wp2_with fail
          go_loopw [45] (fun iv wr => ∃ i : Nat, iv = .int .i64 ((i : Nat) : Int) ∧ (i = 0 ∨ (i = 1 ∧ ∀ p ∈ c.ps, p.2.2 < (l.length : Int))) ∧ LkInv c (.slice pa c.ps.length pc) ca l.length cc B w wr) (fun iv _ => 1 - (intOf iv).toNat)
          case atStart => exact ⟨0, rfl, .inl rfl, HI.out⟩
          case round =>
            obtain ⟨i, rfl, hi, hI⟩ := hrel
            rename World => wz
            clear HI
            have HI := Lib.hid hI
            clear hI
            rcases hi with rfl | ⟨rfl, hok⟩
            · have k0 : wz.cell? ⟨B, 0, none⟩ = some (.int .i64 c.kind) := HI.out.clk.cell 0
              have k1 : wz.cell? ⟨B, 1, none⟩ = some (.int .i64 c.lev) := HI.out.clk.cell 1
              have k2 : wz.cell? ⟨B, 2, none⟩ = some (.int .i64 c.min) := HI.out.clk.cell 2
              have k3 : wz.cell? ⟨B, 3, none⟩ = some (.int .i64 c.start) := HI.out.clk.cell 3
              have k4 : wz.cell? ⟨B, 4, none⟩ = some (.int .i64 c.stop) := HI.out.clk.cell 4
              have k5 : wz.cell? ⟨B, 5, none⟩ = some (.int .i64 c.fin) := HI.out.clk.cell 5
              have k6 : wz.cell? ⟨B, 6, none⟩ = some (.slice pa c.ps.length pc) := HI.out.clk.cell 6
              obtain ⟨bx, bbl⟩ := box1 wz (clkV c (.slice pa c.ps.length pc)) 24
              have HI4 := Lib.hid (HI.out.to bbl)
              have HB4 := Lib.hid bx
              unfold clkV at HI4 HB4
              clear bx bbl HI
              go_upto_region 22 with fail
              generalize wz.alloc (.cells #[.int .i64 c.kind, .int .i64 c.lev, .int .i64 c.min, .int .i64 c.start, .int .i64 c.stop, .int .i64 c.fin, .slice pa c.ps.length pc] 24) = wb at *
              generalize wz.heap.size = Bx at *
              clear k0 k1 k2 k3 k4 k5 k6
              have k6 : wb.cell? ⟨Bx, 6, none⟩ = some (.slice pa c.ps.length pc) := HB4.out.cell 6
              have HCF := Lib.hid (cf1_any (.slice pa c.ps.length pc) c.ps w.heap.size l.length ca cc wb (H.out.below HI4.out.below) HI4.out.cal HOK.out.len)
              go_wp2_with fail
              refine HCF.out.mono ?_
              rintro e w5 ⟨⟨bb, rfl, hk⟩, hb5⟩
              have HK := Lib.hid hk
              have HI5 := Lib.hid (HI4.out.to hb5)
              clear hk hb5 HI4 HB4 HCF k6
              cases bb with
              | false =>
                have HIN := Lib.hid (HK.out.1 rfl)
                go_wp2_with fail
                go_roundw
                case rel =>
                  repeat apply Exists.intro
                  refine ⟨⟨1, ?_, .inr ⟨rfl, HIN.out⟩, HI5.out⟩, rfl⟩
                  go_num
                case measure => simp [intOf]
              | true =>
                go_wp2_with fail
                go_ret
                exact ⟨⟨_, rfl, ⟨fun g => absurd g (by decide), fun g => absurd (HK.out.2 (HN4.out g)) (by simp)⟩⟩, HI5.out.below⟩
            · have HIN := Lib.hid hok
              clear hok
              have HALL := Lib.hid (show CkAll c l from ⟨HOK.out, hl20, HF.out, HIN.out⟩)
              go_wp2_with fail
              go_ret
              exact ⟨⟨_, rfl, ⟨fun _ => HALL.out, fun _ => rfl⟩⟩, HI.out.below⟩

end Go.Proofs.YtjiikjkiaemaiaaGreatDoor
