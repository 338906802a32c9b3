/- The walks of level.check at one clock, with the closures that it searches by, and of level.inPiece. -/
import Derived.Test.YtllcgcnebofdoaaGreatDoorQClkA
namespace Go.Proofs.YtllcgcnebofdoaaGreatDoor
open Go.RowKit

set_option maxRecDepth 100000 in
theorem chk1_any (x : Pc) (V n : Nat) (ca : Option Addr) (cc : Nat) (w : World) (hV : Has w V #[.slice ca n cc] 47) :
    Calls Tryz.prog 64 #[.agg #[.int .i64 x.1, .int .i64 x.2.1, .int .i64 x.2.2], .pointer (some ⟨V, 0, none⟩)] w fun e w' => e = .returned (.bool (decide ((n : Int) ≤ x.2.2))) ∧ Below w.heap.size w w' := by
  obtain ⟨x1, x2, x3⟩ := x
  obtain ⟨bx, bbl⟩ := box1 w #[.int .i64 x1, .int .i64 x2, .int .i64 x3] 79
  have k0 := bx.cell 2
  have k1 := (hV.below bbl hV.lt).cell 0
  have HB := Lib.hid bbl
  clear bx bbl hV
  go_enter Tryz.func64, Tryz.ntmps64
  go_upto_region 1 with fail
  generalize w.alloc (.cells #[.int .i64 x1, .int .i64 x2, .int .i64 x3] 79) = wb at *
  go_wp2_with fail
  go_ret
  exact ⟨rfl, HB.out⟩
set_option maxRecDepth 100000 in
set_option maxHeartbeats 2000000 in
theorem in1_any (x : Pc) (V : Nat) (m : Int) (w : World) (hV : Has w V #[.int .i64 m] 3) :
    Calls Tryz.prog 98 #[.agg #[.int .i64 x.1, .int .i64 x.2.1, .int .i64 x.2.2], .pointer (some ⟨V, 0, none⟩)] w fun e w' => (∃ b, e = .returned (.bool b)) ∧ Below w.heap.size w w' := by
  obtain ⟨x1, x2, x3⟩ := x
  obtain ⟨bx, bbl⟩ := box1 w #[.int .i64 x1, .int .i64 x2, .int .i64 x3] 79
  have k0 := bx.cell 0
  have k2 := bx.cell 1
  have k1 := (hV.below bbl hV.lt).cell 0
  have HB := Lib.hid bbl
  clear bx bbl hV
  obtain ⟨a1, h1⟩ : ∃ b, decide (x1 ≤ m) = b := ⟨_, rfl⟩
  obtain ⟨a2, h2⟩ : ∃ b, (x2 == -1) = b := ⟨_, rfl⟩
  go_enter Tryz.func98, Tryz.ntmps98
  go_upto_region 1 with fail
  generalize w.alloc (.cells #[.int .i64 x1, .int .i64 x2, .int .i64 x3] 79) = wb at *
  cases a1 with
  | false =>
    go_wp2_with fail
    go_ret
    exact ⟨⟨_, rfl⟩, HB.out⟩
  | true =>
    cases a2 with
    | true =>
      go_wp2_with fail
      go_ret
      exact ⟨⟨_, rfl⟩, HB.out⟩
    | false =>
      go_wp2_with fail
      go_ret
      exact ⟨⟨_, rfl⟩, HB.out⟩

set_option maxRecDepth 100000 in
set_option maxHeartbeats 2000000 in
theorem idx1_any (v : Value) (ps : List Pc) (V n : Nat) (ca : Option Addr) (cc : Nat) (w : World) (h : Shifts w v ps) (hV : Has w V #[.slice ca n cc] 47) (hl : ps.length ≤ 6000) :
    Calls Tryz.prog 95 #[v, .func (.func 64) #[] #[.pointer (some ⟨V, 0, none⟩)]] w fun e w' => (∃ k : Int, e = .returned (.int .i64 k) ∧ (decide (0 ≤ k) = false ↔ ∀ p ∈ ps, p.2.2 < (n : Int))) ∧ Below w.heap.size w w' := by
  obtain ⟨a, cap, rfl⟩ := SliceAt.len h
  have H := Lib.hid h
  have HV := Lib.hid hV
  clear h hV
  go_enter Tryz.func95, Tryz.ntmps95
  go_wp2_with fail
  go_loopw [8] (fun iv wr => ∃ i : Nat, iv = .int .i64 ((i : Nat) : Int) ∧ i ≤ ps.length ∧ (∀ p ∈ ps.take i, p.2.2 < (n : Int)) ∧ Below w.heap.size w wr) (fun iv _ => ps.length - (intOf iv).toNat)
  case atStart => exact ⟨0, rfl, Nat.zero_le _, by rw [List.take_zero]; exact (fun p hp => by cases hp), Below.refl _ _⟩
  case round =>
    obtain ⟨i, rfl, hi, hall, hB⟩ := hrel
    have HA := Lib.hid hall
    have HB := Lib.hid hB
    clear hall hB
    by_cases hlt : i < ps.length
    · obtain ⟨b, of', cap', hv, hb, hel⟩ := Shifts.at H.out (by omega)
      cases hv
      obtain ⟨e0, e1, e2⟩ := hel i hlt
      have c0 := (below_cell HB.out hb).trans e0
      have c1 := (below_cell HB.out hb).trans e1
      have c2 := (below_cell HB.out hb).trans e2
      have HM := Lib.hid (List.getElem_mem hlt)
      have HT := Lib.hid (List.take_succ_eq_append_getElem hlt)
      generalize ps[i] = s at *
      obtain ⟨x1, x2, x3⟩ := s
      simp only at c0 c1 c2
      have HCL := Lib.hid (chk1_any (x1, x2, x3) V n ca cc wr (HV.out.below HB.out HV.out.lt))
      simp only at HCL
      clear e0 e1 e2 hel
      go_wp2_with fail
      refine HCL.out.mono ?_
      rintro e w3 ⟨rfl, hb3⟩
      have HB3 := Lib.hid (below_up HB.out hb3 HB.out.size)
      clear hb3 HCL c0 c1 c2
      by_cases hx : (n : Int) ≤ x3
      · have q : decide ((n : Int) ≤ x3) = true := decide_eq_true hx
        have HX := Lib.hid hx
        clear hx
        go_wp2_with fail
        go_ret
        exact ⟨⟨_, rfl, ⟨fun g => absurd g (by simp), fun g => absurd (g _ HM.out) (by have := HX.out; simp only; omega)⟩⟩, HB3.out⟩
      · have q : decide ((n : Int) ≤ x3) = false := decide_eq_false hx
        have HX := Lib.hid (show x3 < (n : Int) by omega)
        clear hx
        go_wp2_with fail
        go_roundw
        case rel => exact ⟨i + 1, by go_num, hlt, (by
          rw [HT.out]
          intro p hp
          rcases List.mem_append.1 hp with g | g
          · exact HA.out p g
          · rw [List.mem_singleton.1 g]; exact HX.out), HB3.out⟩
        case measure => simp [intOf]; omega
    · obtain rfl : i = ps.length := by omega
      have hf := HA.out
      rw [List.take_length] at hf
      have HF := Lib.hid hf
      clear hf
      go_wp2_with fail
      go_ret
      exact ⟨⟨_, rfl, ⟨fun _ => HF.out, fun _ => by decide⟩⟩, HB.out⟩
set_option maxRecDepth 100000 in
set_option maxHeartbeats 2000000 in
theorem idx2_any (v : Value) (ps : List Pc) (V : Nat) (m : Int) (w : World) (h : Shifts w v ps) (hV : Has w V #[.int .i64 m] 3) (hl : ps.length ≤ 6000) :
    Calls Tryz.prog 95 #[v, .func (.func 98) #[] #[.pointer (some ⟨V, 0, none⟩)]] w fun e w' => (∃ k : Int, e = .returned (.int .i64 k)) ∧ Below w.heap.size w w' := by
  obtain ⟨a, cap, rfl⟩ := SliceAt.len h
  have H := Lib.hid h
  have HV := Lib.hid hV
  clear h hV
  go_enter Tryz.func95, Tryz.ntmps95
  go_wp2_with fail
  go_loopw [8] (fun iv wr => ∃ i : Nat, iv = .int .i64 ((i : Nat) : Int) ∧ i ≤ ps.length ∧ Below w.heap.size w wr) (fun iv _ => ps.length - (intOf iv).toNat)
  case atStart => exact ⟨0, rfl, Nat.zero_le _, Below.refl _ _⟩
  case round =>
    obtain ⟨i, rfl, hi, hB⟩ := hrel
    have HB := Lib.hid hB
    clear hB
    by_cases hlt : i < ps.length
    · obtain ⟨b, of', cap', hv, hb, hel⟩ := Shifts.at H.out (by omega)
      cases hv
      obtain ⟨e0, e1, e2⟩ := hel i hlt
      have c0 := (below_cell HB.out hb).trans e0
      have c1 := (below_cell HB.out hb).trans e1
      have c2 := (below_cell HB.out hb).trans e2
      generalize ps[i] = s at *
      obtain ⟨x1, x2, x3⟩ := s
      simp only at c0 c1 c2
      have HCL := Lib.hid (in1_any (x1, x2, x3) V m wr (HV.out.below HB.out HV.out.lt))
      simp only at HCL
      clear e0 e1 e2 hel
      go_wp2_with fail
      refine HCL.out.mono ?_
      rintro e w3 ⟨⟨bb, rfl⟩, hb3⟩
      have HB3 := Lib.hid (below_up HB.out hb3 HB.out.size)
      clear hb3 HCL c0 c1 c2
      cases bb with
      | true =>
        go_wp2_with fail
        go_ret
        exact ⟨⟨_, rfl⟩, HB3.out⟩
      | false =>
        go_wp2_with fail
        go_roundw
        case rel => exact ⟨i + 1, by go_num, hlt, HB3.out⟩
        case measure => simp [intOf]; omega
    · obtain rfl : i = ps.length := by omega
      go_wp2_with fail
      go_ret
      exact ⟨⟨_, rfl⟩, HB.out⟩
theorem cf1_any (v : Value) (ps : List Pc) (V n : Nat) (ca : Option Addr) (cc : Nat) (w : World) (h : Shifts w v ps) (hV : Has w V #[.slice ca n cc] 47) (hl : ps.length ≤ 6000) :
    Calls Tryz.prog 63 #[v, .func (.func 64) #[] #[.pointer (some ⟨V, 0, none⟩)]] w fun e w' => (∃ b, e = .returned (.bool b) ∧ (b = false ↔ ∀ p ∈ ps, p.2.2 < (n : Int))) ∧ Below w.heap.size w w' := by
  go_enter Tryz.func63, Tryz.ntmps63
  go_wp2_with fail
  refine (idx1_any v ps V n ca cc w h hV hl).mono ?_
  rintro e w3 ⟨⟨k, rfl, hk⟩, hb3⟩
  have HK := Lib.hid hk
  have HB := Lib.hid hb3
  clear hk hb3
  go_wp2_with fail
  go_ret
  exact ⟨⟨_, rfl, HK.out⟩, HB.out⟩
theorem cf2_any (v : Value) (ps : List Pc) (V : Nat) (m : Int) (w : World) (h : Shifts w v ps) (hV : Has w V #[.int .i64 m] 3) (hl : ps.length ≤ 6000) :
    Calls Tryz.prog 63 #[v, .func (.func 98) #[] #[.pointer (some ⟨V, 0, none⟩)]] w fun e w' => (∃ b, e = .returned (.bool b)) ∧ Below w.heap.size w w' := by
  go_enter Tryz.func63, Tryz.ntmps63
  go_wp2_with fail
  refine (idx2_any v ps V m w h hV hl).mono ?_
  rintro e w3 ⟨⟨k, rfl⟩, hb3⟩
  go_wp2_with fail
  go_ret
  exact ⟨⟨_, rfl⟩, hb3⟩
set_option maxRecDepth 100000 in
set_option maxHeartbeats 2000000 in
theorem inPiece_any (c : ClkD) (vps : Value) (m : Int) (w : World) (h : Shifts w vps c.ps) (hl : c.ps.length ≤ 6000) :
    Calls Tryz.prog 67 #[.agg (clkV c vps), .int .i64 m] w fun e w' => (∃ b, e = .returned (.bool b)) ∧ Below w.heap.size w w' := by
  obtain ⟨pa, pc, rfl⟩ := SliceAt.len h
  obtain ⟨x1, x2⟩ := box1 w (clkV c (.slice pa c.ps.length pc)) 34
  obtain ⟨y1, y2⟩ := box1 (w.alloc (.cells (clkV c (.slice pa c.ps.length pc)) 34)) #[.int .i64 m] 3
  have k6 : ((w.alloc (.cells (clkV c (.slice pa c.ps.length pc)) 34)).alloc (.cells #[.int .i64 m] 3)).cell? ⟨w.heap.size, 6, none⟩ = some (.slice pa c.ps.length pc) := (x1.alloc _).cell 6
  have HB := Lib.hid (below_up x2 y2 x2.size)
  have hz : (w.alloc (.cells (clkV c (.slice pa c.ps.length pc)) 34)).heap.size = w.heap.size + 1 := by simp
  have HCF := Lib.hid (cf2_any (.slice pa c.ps.length pc) c.ps (w.heap.size + 1) m _ (h.below (below_up x2 y2 x2.size)) (by rw [← hz]; exact y1) hl)
  clear x1 x2 y1 y2 hz h
  unfold clkV at k6 HB HCF ⊢
  go_enter Tryz.func67, Tryz.ntmps67
  go_upto_region 1 with fail
  generalize (w.alloc (.cells #[.int .i64 c.kind, .int .i64 c.lev, .int .i64 c.min, .int .i64 c.start, .int .i64 c.stop, .int .i64 c.fin, .slice pa c.ps.length pc] 34)).alloc (.cells #[.int .i64 m] 3) = w2 at *
  go_wp2_with fail
  refine HCF.out.mono ?_
  rintro e w3 ⟨⟨b, rfl⟩, hb3⟩
  have HB3 := Lib.hid (below_up HB.out hb3 HB.out.size)
  clear hb3 k6
  go_wp2_with fail
  go_ret
  exact ⟨⟨_, rfl⟩, HB3.out⟩
end Go.Proofs.YtllcgcnebofdoaaGreatDoor

/- The walks of level.check at one clock, and of level.runs. -/
namespace Go.Proofs.YtllcgcnebofdoaaGreatDoor
open Go.RowKit

/-- what check finds right of one clock and the calendars -/
structure CkAll (c : ClkD) (l : List CalD) : Prop where
  clk : ClkOk c
  few : l.length ≤ 20
  cals : ∀ x ∈ l, CkFine x
  inn : ∀ p ∈ c.ps, p.2.2 < (l.length : Int)
structure LkInv (c : ClkD) (vps : Value) (ca : Option Addr) (n cc : Nat) (B : Nat) (w wr : World) : Prop where
  clk : Has wr B (clkV c vps) 34
  cal : Has wr w.heap.size #[.slice ca n cc] 47
  below : Below w.heap.size w wr
theorem LkInv.to {c : ClkD} {vps : Value} {ca : Option Addr} {n cc B : Nat} {w wr w' : World} (h : LkInv c vps ca n cc B w wr) (hb : Below wr.heap.size wr w') : LkInv c vps ca n cc B w w' :=
  ⟨h.clk.below hb h.clk.lt, h.cal.below hb h.cal.lt, below_up h.below hb h.below.size⟩

set_option maxRecDepth 100000 in
set_option maxHeartbeats 8000000 in
theorem check_any (c : ClkD) (l : List CalD) (vps vl : Value) (B : Nat) (w : World) (hc : Has w B (clkV c vps) 34) (h : Shifts w vps c.ps) (hl : Cals w vl l) :
    Calls Tryz.prog 33 #[.slice (some ⟨B, 0, none⟩) 1 1, vl] w fun e w' => (∃ k, e = .returned (.int .i64 k) ∧ (k = 0 ↔ CkAll c l)) ∧ Below w.heap.size w w' := by
  obtain ⟨pa, pc, rfl⟩ := SliceAt.len h
  obtain ⟨ca, cc, rfl⟩ := SliceAt.len hl
  have H := Lib.hid h
  have HL := Lib.hid hl
  have hbx := box1 w #[.slice ca l.length cc] 47
  have HI0 := Lib.hid (show LkInv c (.slice pa c.ps.length pc) ca l.length cc B w (w.alloc (.cells #[.slice ca l.length cc] 47)) from ⟨hc.below hbx.2 hc.lt, hbx.1, hbx.2⟩)
  have HN1 := Lib.hid (show CkAll c l → ClkOk c from fun g => g.clk)
  have HN2 := Lib.hid (show CkAll c l → l.length ≤ 20 from fun g => g.few)
  have HN3 := Lib.hid (show CkAll c l → ∀ x ∈ l, CkFine x from fun g => g.cals)
  have HN4 := Lib.hid (show CkAll c l → ∀ p ∈ c.ps, p.2.2 < (l.length : Int) from fun g => g.inn)
  clear h hl hc hbx
  go_enter Tryz.func33, Tryz.ntmps33
  go_upto_region 1 with fail
  generalize w.alloc (.cells #[.slice ca l.length cc] 47) = w2 at *
  go_wp2_with fail
  go_loopw [18] (fun iv wr => ∃ i : Nat, iv = .int .i64 ((i : Nat) : Int) ∧ (i = 0 ∨ (i = 1 ∧ ClkOk c)) ∧ LkInv c (.slice pa c.ps.length pc) ca l.length cc B w wr) (fun iv _ => 1 - (intOf iv).toNat)
  case atStart => exact ⟨0, rfl, .inl rfl, HI0.out⟩
  case round =>
    obtain ⟨i, rfl, hi, hI⟩ := hrel
    have HI := Lib.hid hI
    clear hI HI0
    rcases hi with rfl | ⟨rfl, hok⟩
    · have k0 : wr.cell? ⟨B, 0, none⟩ = some (.int .i64 c.kind) := HI.out.clk.cell 0
      have k1 : wr.cell? ⟨B, 1, none⟩ = some (.int .i64 c.lev) := HI.out.clk.cell 1
      have k2 : wr.cell? ⟨B, 2, none⟩ = some (.int .i64 c.min) := HI.out.clk.cell 2
      have k3 : wr.cell? ⟨B, 3, none⟩ = some (.int .i64 c.start) := HI.out.clk.cell 3
      have k4 : wr.cell? ⟨B, 4, none⟩ = some (.int .i64 c.stop) := HI.out.clk.cell 4
      have k5 : wr.cell? ⟨B, 5, none⟩ = some (.int .i64 c.fin) := HI.out.clk.cell 5
      have k6 : wr.cell? ⟨B, 6, none⟩ = some (.slice pa c.ps.length pc) := HI.out.clk.cell 6
      obtain ⟨bx, bbl⟩ := box1 wr (clkV c (.slice pa c.ps.length pc)) 34
      have HI4 := Lib.hid (HI.out.to bbl)
      have HB4 := Lib.hid bx
      unfold clkV at HI4 HB4
      clear bx bbl HI
      go_upto_region 6 with fail
      generalize wr.alloc (.cells #[.int .i64 c.kind, .int .i64 c.lev, .int .i64 c.min, .int .i64 c.start, .int .i64 c.stop, .int .i64 c.fin, .slice pa c.ps.length pc] 34) = wb at *
      generalize wr.heap.size = Bx at *
      clear k0 k1 k2 k3 k4 k5 k6
      have k0 := HB4.out.cell 0
      have k1 := HB4.out.cell 1
      have k2 := HB4.out.cell 2
      have k3 := HB4.out.cell 3
      have k4 := HB4.out.cell 4
      have k5 := HB4.out.cell 5
      have k6 := HB4.out.cell 6
      have HCC := Lib.hid (CheckClock_any c (.slice pa c.ps.length pc) wb (H.out.below HI4.out.below))
      unfold clkV at HCC
      go_wp2_with fail
      refine HCC.out.mono ?_
      rintro e w5 ⟨⟨k, rfl, hk⟩, hb5⟩
      have HK := Lib.hid hk
      have HI5 := Lib.hid (HI4.out.to hb5)
      clear hk hb5 HI4 HB4 HCC k0 k1 k2 k3 k4 k5 k6
      by_cases hz : k = 0
      · subst hz
        have HOK := Lib.hid (HK.out.1 rfl)
        go_wp2_with fail
        go_roundw
        case rel => exact ⟨1, by go_num, .inr ⟨rfl, HOK.out⟩, HI5.out⟩
        case measure => simp [intOf]
      · have qz : (k == 0) = false := by simpa using hz
        have qz2 : (k != 0) = true := by simpa using hz
        have HZ := Lib.hid hz
        clear hz
        go_wp2_with fail
        go_ret
        exact ⟨⟨_, rfl, ⟨fun g => absurd g HZ.out, fun g => HK.out.2 (HN1.out g)⟩⟩, HI5.out.below⟩
    · have HOK := Lib.hid hok
      clear hok
      have v0 : wr.cell? ⟨w.heap.size, 0, none⟩ = some (.slice ca l.length cc) := HI.out.cal.cell 0
      by_cases hl : 20 < l.length
      · have q1 : decide ((20 : Int) < (l.length : Int)) = true := decide_eq_true (by omega)
        have HLL := Lib.hid hl
        clear hl
        go_wp2_with fail
        go_ret
        exact ⟨⟨_, rfl, ⟨fun g => absurd g (by decide), fun g => absurd (HN2.out g) (by have := HLL.out; omega)⟩⟩, HI.out.below⟩
      have q1 : decide ((20 : Int) < (l.length : Int)) = false := decide_eq_false (by omega)
      have hl20 : l.length ≤ 20 := by omega
      clear hl
      go_wp2_with fail
      go_loopw [33] (fun iv wr => ∃ i : Nat, iv = .int .i64 ((i : Nat) : Int) ∧ i ≤ l.length ∧ (∀ x ∈ l.take i, CkFine x) ∧ LkInv c (.slice pa c.ps.length pc) ca l.length cc B w wr) (fun iv _ => l.length - (intOf iv).toNat)
      case atStart => exact ⟨0, rfl, Nat.zero_le _, by rw [List.take_zero]; exact (fun p hp => by cases hp), HI.out⟩
      case round =>
        obtain ⟨i, rfl, hi, hall, hI⟩ := hrel
        rename World => wy
        clear v0 HI
        have HA := Lib.hid hall
        have HI := Lib.hid hI
        clear hall hI
        by_cases hlt : i < l.length
        · obtain ⟨b, of', cap', hv, hb, hel⟩ := Cals.at HL.out (by omega)
          cases hv
          obtain ⟨vcs, vwk, vsp, e0, e1, e2, e3, hca⟩ := hel i hlt
          obtain ⟨x1a, x1c, rfl⟩ := SliceAt.len hca.cs
          obtain ⟨x2a, x2c, rfl⟩ := SliceAt.len hca.wk
          obtain ⟨x3a, x3c, rfl⟩ := SliceAt.len hca.sps
          have c0 := (below_cell HI.out.below hb).trans e0
          have c1 := (below_cell HI.out.below hb).trans e1
          have c2 := (below_cell HI.out.below hb).trans e2
          have c3 := (below_cell HI.out.below hb).trans e3
          have HCA := Lib.hid hca
          have HM := Lib.hid (List.getElem_mem hlt)
          have HT := Lib.hid (List.take_succ_eq_append_getElem hlt)
          clear hca e0 e1 e2 e3 hel
          generalize l[i] = x at *
          obtain ⟨bx, bbl⟩ := box1 wy #[.int .i64 x.off, .slice x1a x.cs.length x1c, .slice x2a x.wk.length x2c, .slice x3a x.sps.length x3c] 54
          have HI4 := Lib.hid (HI.out.to bbl)
          have k0 := bx.cell 0
          have k1 := bx.cell 1
          have k2 := bx.cell 2
          have k3 := bx.cell 3
          clear bx bbl HI
          go_upto_region 15 with fail
          generalize wy.alloc (.cells #[.int .i64 x.off, .slice x1a x.cs.length x1c, .slice x2a x.wk.length x2c, .slice x3a x.sps.length x3c] 54) = wb at *
          generalize wy.heap.size = Bx at *
          have HCC := Lib.hid (CheckCalendar_any x _ _ _ wb (HCA.out.below HI4.out.below))
          clear c0 c1 c2 c3
          go_wp2_with fail
          refine HCC.out.mono ?_
          rintro e w5 ⟨⟨k, rfl, hk⟩, hb5⟩
          have HK := Lib.hid hk
          have HI5 := Lib.hid (HI4.out.to hb5)
          clear hk hb5 HI4 HCC k0 k1 k2 k3
          by_cases hz : k = 0
          · subst hz
            have HXF := Lib.hid (HK.out.1 rfl)
            go_wp2_with fail
            go_roundw
            case rel =>
              repeat apply Exists.intro
              refine ⟨⟨i + 1, ?_, hlt, ?_, HI5.out⟩, rfl⟩
              · go_num
              · rw [HT.out]
                intro p hp
                rcases List.mem_append.1 hp with g | g
                · exact HA.out p g
                · rw [List.mem_singleton.1 g]; exact HXF.out
            case measure => simp [intOf]; omega
          · have qz : (k == 0) = false := by simpa using hz
            have qz2 : (k != 0) = true := by simpa using hz
            have HZ := Lib.hid hz
            clear hz
            go_wp2_with fail
            go_ret
            exact ⟨⟨_, rfl, ⟨fun g => absurd g HZ.out, fun g => HK.out.2 (HN3.out g _ HM.out)⟩⟩, HI5.out.below⟩
        · obtain rfl : i = l.length := by omega
          have hf := HA.out
          rw [List.take_length] at hf
          have HF := Lib.hid hf
          clear hf HA
          go_wp2_with fail
          go_loopw [45] (fun iv wr => ∃ i : Nat, iv = .int .i64 ((i : Nat) : Int) ∧ (i = 0 ∨ (i = 1 ∧ ∀ p ∈ c.ps, p.2.2 < (l.length : Int))) ∧ LkInv c (.slice pa c.ps.length pc) ca l.length cc B w wr) (fun iv _ => 1 - (intOf iv).toNat)
          case atStart => exact ⟨0, rfl, .inl rfl, HI.out⟩
          case round =>
            obtain ⟨i, rfl, hi, hI⟩ := hrel
            rename World => wz
            clear HI
            have HI := Lib.hid hI
            clear hI
            rcases hi with rfl | ⟨rfl, hok⟩
            · have k0 : wz.cell? ⟨B, 0, none⟩ = some (.int .i64 c.kind) := HI.out.clk.cell 0
              have k1 : wz.cell? ⟨B, 1, none⟩ = some (.int .i64 c.lev) := HI.out.clk.cell 1
              have k2 : wz.cell? ⟨B, 2, none⟩ = some (.int .i64 c.min) := HI.out.clk.cell 2
              have k3 : wz.cell? ⟨B, 3, none⟩ = some (.int .i64 c.start) := HI.out.clk.cell 3
              have k4 : wz.cell? ⟨B, 4, none⟩ = some (.int .i64 c.stop) := HI.out.clk.cell 4
              have k5 : wz.cell? ⟨B, 5, none⟩ = some (.int .i64 c.fin) := HI.out.clk.cell 5
              have k6 : wz.cell? ⟨B, 6, none⟩ = some (.slice pa c.ps.length pc) := HI.out.clk.cell 6
              obtain ⟨bx, bbl⟩ := box1 wz (clkV c (.slice pa c.ps.length pc)) 34
              have HI4 := Lib.hid (HI.out.to bbl)
              have HB4 := Lib.hid bx
              unfold clkV at HI4 HB4
              clear bx bbl HI
              go_upto_region 22 with fail
              generalize wz.alloc (.cells #[.int .i64 c.kind, .int .i64 c.lev, .int .i64 c.min, .int .i64 c.start, .int .i64 c.stop, .int .i64 c.fin, .slice pa c.ps.length pc] 34) = wb at *
              generalize wz.heap.size = Bx at *
              clear k0 k1 k2 k3 k4 k5 k6
              have k6 : wb.cell? ⟨Bx, 6, none⟩ = some (.slice pa c.ps.length pc) := HB4.out.cell 6
              have HCF := Lib.hid (cf1_any (.slice pa c.ps.length pc) c.ps w.heap.size l.length ca cc wb (H.out.below HI4.out.below) HI4.out.cal HOK.out.len)
              go_wp2_with fail
              refine HCF.out.mono ?_
              rintro e w5 ⟨⟨bb, rfl, hk⟩, hb5⟩
              have HK := Lib.hid hk
              have HI5 := Lib.hid (HI4.out.to hb5)
              clear hk hb5 HI4 HB4 HCF k6
              cases bb with
              | false =>
                have HIN := Lib.hid (HK.out.1 rfl)
                go_wp2_with fail
                go_roundw
                case rel =>
                  repeat apply Exists.intro
                  refine ⟨⟨1, ?_, .inr ⟨rfl, HIN.out⟩, HI5.out⟩, rfl⟩
                  go_num
                case measure => simp [intOf]
              | true =>
                go_wp2_with fail
                go_ret
                exact ⟨⟨_, rfl, ⟨fun g => absurd g (by decide), fun g => absurd (HK.out.2 (HN4.out g)) (by simp)⟩⟩, HI5.out.below⟩
            · have HIN := Lib.hid hok
              clear hok
              have HALL := Lib.hid (show CkAll c l from ⟨HOK.out, hl20, HF.out, HIN.out⟩)
              go_wp2_with fail
              go_ret
              exact ⟨⟨_, rfl, ⟨fun _ => HALL.out, fun _ => rfl⟩⟩, HI.out.below⟩

set_option maxRecDepth 100000 in
set_option maxHeartbeats 2000000 in
theorem cruns_any (c : ClkD) (vps : Value) (w : World) (h : Shifts w vps c.ps) (hl : c.ps.length ≤ 6000) :
    Calls Tryz.prog 34 #[.agg (clkV c vps)] w fun e w' => (∃ b, e = .returned (.bool b) ∧ (b = true ↔ c.ps ≠ [] ∧ (c.ps.getD (c.ps.length - 1) (0, 0, 0)).2.1 = -1)) ∧ Below w.heap.size w w' := by
  obtain ⟨R, hR⟩ : ∃ R : Prop, R = (c.ps ≠ [] ∧ (c.ps.getD (c.ps.length - 1) (0, 0, 0)).2.1 = -1) := ⟨_, rfl⟩
  rw [← hR]
  obtain ⟨pa, pc, rfl⟩ := SliceAt.len h
  have H := Lib.hid h
  obtain ⟨x1, x2⟩ := box1 w (clkV c (.slice pa c.ps.length pc)) 34
  have k6 : (w.alloc (.cells (clkV c (.slice pa c.ps.length pc)) 34)).cell? ⟨w.heap.size, 6, none⟩ = some (.slice pa c.ps.length pc) := x1.cell 6
  have HB := Lib.hid x2
  clear h x1 x2
  unfold clkV at k6 HB ⊢
  go_enter Tryz.func34, Tryz.ntmps34
  go_upto_region 1 with fail
  generalize w.alloc (.cells #[.int .i64 c.kind, .int .i64 c.lev, .int .i64 c.min, .int .i64 c.start, .int .i64 c.stop, .int .i64 c.fin, .slice pa c.ps.length pc] 34) = w2 at *
  have hnil : c.ps ≠ [] ↔ 0 < c.ps.length := by
    rw [List.length_pos_iff]
  by_cases hp : 0 < c.ps.length
  · obtain ⟨b, of', cap', hv, hb, hel⟩ := Shifts.at H.out hp
    cases hv
    obtain ⟨-, e1, -⟩ := hel (c.ps.length - 1) (by omega)
    have c1 := (below_cell HB.out hb).trans e1
    obtain ⟨x, hx⟩ : ∃ x, (c.ps[c.ps.length - 1]'(by omega)).2.1 = x := ⟨_, rfl⟩
    rw [hx] at c1
    have HX := Lib.hid (show ((x == -1) = true ↔ R) from by
      rw [hR, beq_iff_eq, ← hx, hnil]
      have e : c.ps.getD (c.ps.length - 1) (0, 0, 0) = c.ps[c.ps.length - 1]'(by omega) := by simp [List.getD, show c.ps.length - 1 < c.ps.length by omega]
      rw [e]
      exact ⟨fun g => ⟨hp, g⟩, fun g => g.2⟩)
    have q0 : decide ((0 : Int) < (c.ps.length : Int)) = true := decide_eq_true (by omega)
    have r1 : IntKind.i64.wrap ((c.ps.length : Int) - 1) = ((c.ps.length - 1 : Nat) : Int) := by rw [IntWalk.i64_in _ (by omega)]; omega
    have r3 : c.ps.length - 1 < c.ps.length := by omega
    clear e1 hel hR hx hnil
    go_wp2_with fail
    go_ret
    exact ⟨⟨_, rfl, HX.out⟩, HB.out⟩
  · have q0 : decide ((0 : Int) < (c.ps.length : Int)) = false := decide_eq_false (by omega)
    have HX := Lib.hid (show (false = true ↔ R) from by
      constructor
      · intro g
        cases g
      · intro g
        rw [hR, hnil] at g
        exact absurd g.1 hp)
    have q1 : decide (0 < c.ps.length) = false := decide_eq_false hp
    have hl0 : c.ps.length = 0 := by omega
    clear hp hR hnil
    rw [hl0] at k6 ⊢
    go_wp2_with fail
    go_ret
    exact ⟨⟨_, rfl, HX.out⟩, HB.out⟩
end Go.Proofs.YtllcgcnebofdoaaGreatDoor
