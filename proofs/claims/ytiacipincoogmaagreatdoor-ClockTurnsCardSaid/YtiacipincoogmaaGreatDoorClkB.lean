/- The walks of level.check at one clock, with the closures that it searches by, and of level.inPiece. -/
import Derived.Test.YtiacipincoogmaaGreatDoorClkA
namespace Go.Proofs.YtiacipincoogmaaGreatDoor
open Go.RowKit

set_option maxRecDepth 100000 in
theorem chk1_any (x : Pc) (V n : Nat) (ca : Option Addr) (cc : Nat) (w : World) (hV : Has w V #[.slice ca n cc] 25) :
    Calls Tryz.prog 20 #[.agg #[.int .i64 x.1, .int .i64 x.2.1, .int .i64 x.2.2], .pointer (some ⟨V, 0, none⟩)] w fun e w' => e = .returned (.bool (decide ((n : Int) ≤ x.2.2))) ∧ Below w.heap.size w w' := by
  obtain ⟨x1, x2, x3⟩ := x
  obtain ⟨bx, bbl⟩ := box1 w #[.int .i64 x1, .int .i64 x2, .int .i64 x3] 60
  have k0 := bx.cell 2
  have k1 := (hV.below bbl hV.lt).cell 0
  have HB := Lib.hid bbl
  clear bx bbl hV
  go_enter Tryz.func20, Tryz.ntmps20
  go_upto_region 1 with fail
  generalize w.alloc (.cells #[.int .i64 x1, .int .i64 x2, .int .i64 x3] 60) = wb at *
  go_wp2_with fail
  go_ret
  exact ⟨rfl, HB.out⟩
set_option maxRecDepth 100000 in
set_option maxHeartbeats 2000000 in
theorem in1_any (x : Pc) (V : Nat) (m : Int) (w : World) (hV : Has w V #[.int .i64 m] 3) :
    Calls Tryz.prog 41 #[.agg #[.int .i64 x.1, .int .i64 x.2.1, .int .i64 x.2.2], .pointer (some ⟨V, 0, none⟩)] w fun e w' => (∃ b, e = .returned (.bool b)) ∧ Below w.heap.size w w' := by
  obtain ⟨x1, x2, x3⟩ := x
  obtain ⟨bx, bbl⟩ := box1 w #[.int .i64 x1, .int .i64 x2, .int .i64 x3] 60
  have k0 := bx.cell 0
  have k2 := bx.cell 1
  have k1 := (hV.below bbl hV.lt).cell 0
  have HB := Lib.hid bbl
  clear bx bbl hV
  obtain ⟨a1, h1⟩ : ∃ b, decide (x1 ≤ m) = b := ⟨_, rfl⟩
  obtain ⟨a2, h2⟩ : ∃ b, (x2 == -1) = b := ⟨_, rfl⟩
  go_enter Tryz.func41, Tryz.ntmps41
  go_upto_region 1 with fail
  generalize w.alloc (.cells #[.int .i64 x1, .int .i64 x2, .int .i64 x3] 60) = wb at *
  cases a1 with
  | false =>
    go_wp2_with fail
    go_ret
    exact ⟨⟨_, rfl⟩, HB.out⟩
  | true =>
    cases a2 with
    | true =>
      go_wp2_with fail
      go_ret
      exact ⟨⟨_, rfl⟩, HB.out⟩
    | false =>
      go_wp2_with fail
      go_ret
      exact ⟨⟨_, rfl⟩, HB.out⟩

set_option maxRecDepth 100000 in
set_option maxHeartbeats 2000000 in
theorem idx1_any (v : Value) (ps : List Pc) (V n : Nat) (ca : Option Addr) (cc : Nat) (w : World) (h : Shifts w v ps) (hV : Has w V #[.slice ca n cc] 25) (hl : ps.length ≤ 6000) :
    Calls Tryz.prog 38 #[v, .func (.func 20) #[] #[.pointer (some ⟨V, 0, none⟩)]] w fun e w' => (∃ k : Int, e = .returned (.int .i64 k) ∧ (decide (0 ≤ k) = false ↔ ∀ p ∈ ps, p.2.2 < (n : Int))) ∧ Below w.heap.size w w' := by
  obtain ⟨a, cap, rfl⟩ := SliceAt.len h
  have H := Lib.hid h
  have HV := Lib.hid hV
  clear h hV
  go_enter Tryz.func38, Tryz.ntmps38
  go_wp2_with fail
  go_loopw [8] (fun iv wr => ∃ i : Nat, iv = .int .i64 ((i : Nat) : Int) ∧ i ≤ ps.length ∧ (∀ p ∈ ps.take i, p.2.2 < (n : Int)) ∧ Below w.heap.size w wr) (fun iv _ => ps.length - (intOf iv).toNat)
  case atStart => exact ⟨0, rfl, Nat.zero_le _, by rw [List.take_zero]; exact (fun p hp => by cases hp), Below.refl _ _⟩
  case round =>
    obtain ⟨i, rfl, hi, hall, hB⟩ := hrel
    have HA := Lib.hid hall
    have HB := Lib.hid hB
    clear hall hB
    by_cases hlt : i < ps.length
    · obtain ⟨b, of', cap', hv, hb, hel⟩ := Shifts.at H.out (by omega)
      cases hv
      obtain ⟨e0, e1, e2⟩ := hel i hlt
      have c0 := (below_cell HB.out hb).trans e0
      have c1 := (below_cell HB.out hb).trans e1
      have c2 := (below_cell HB.out hb).trans e2
      have HM := Lib.hid (List.getElem_mem hlt)
      have HT := Lib.hid (List.take_succ_eq_append_getElem hlt)
      generalize ps[i] = s at *
      obtain ⟨x1, x2, x3⟩ := s
      simp only at c0 c1 c2
      have HCL := Lib.hid (chk1_any (x1, x2, x3) V n ca cc wr (HV.out.below HB.out HV.out.lt))
      simp only at HCL
      clear e0 e1 e2 hel
      go_wp2_with fail
      refine HCL.out.mono ?_
      rintro e w3 ⟨rfl, hb3⟩
      have HB3 := Lib.hid (below_up HB.out hb3 HB.out.size)
      clear hb3 HCL c0 c1 c2
      by_cases hx : (n : Int) ≤ x3
      · have q : decide ((n : Int) ≤ x3) = true := decide_eq_true hx
        have HX := Lib.hid hx
        clear hx
        go_wp2_with fail
        go_ret
        exact ⟨⟨_, rfl, ⟨fun g => absurd g (by simp), fun g => absurd (g _ HM.out) (by have := HX.out; simp only; omega)⟩⟩, HB3.out⟩
      · have q : decide ((n : Int) ≤ x3) = false := decide_eq_false hx
        have HX := Lib.hid (show x3 < (n : Int) by omega)
        clear hx
        go_wp2_with fail
        go_roundw
        case rel => exact ⟨i + 1, by go_num, hlt, (by
          rw [HT.out]
          intro p hp
          rcases List.mem_append.1 hp with g | g
          · exact HA.out p g
          · rw [List.mem_singleton.1 g]; exact HX.out), HB3.out⟩
        case measure => simp [intOf]; omega
    · obtain rfl : i = ps.length := by omega
      have hf := HA.out
      rw [List.take_length] at hf
      have HF := Lib.hid hf
      clear hf
      go_wp2_with fail
      go_ret
      exact ⟨⟨_, rfl, ⟨fun _ => HF.out, fun _ => by decide⟩⟩, HB.out⟩
set_option maxRecDepth 100000 in
set_option maxHeartbeats 2000000 in
theorem idx2_any (v : Value) (ps : List Pc) (V : Nat) (m : Int) (w : World) (h : Shifts w v ps) (hV : Has w V #[.int .i64 m] 3) (hl : ps.length ≤ 6000) :
    Calls Tryz.prog 38 #[v, .func (.func 41) #[] #[.pointer (some ⟨V, 0, none⟩)]] w fun e w' => (∃ k : Int, e = .returned (.int .i64 k)) ∧ Below w.heap.size w w' := by
  obtain ⟨a, cap, rfl⟩ := SliceAt.len h
  have H := Lib.hid h
  have HV := Lib.hid hV
  clear h hV
  go_enter Tryz.func38, Tryz.ntmps38
  go_wp2_with fail
  go_loopw [8] (fun iv wr => ∃ i : Nat, iv = .int .i64 ((i : Nat) : Int) ∧ i ≤ ps.length ∧ Below w.heap.size w wr) (fun iv _ => ps.length - (intOf iv).toNat)
  case atStart => exact ⟨0, rfl, Nat.zero_le _, Below.refl _ _⟩
  case round =>
    obtain ⟨i, rfl, hi, hB⟩ := hrel
    have HB := Lib.hid hB
    clear hB
    by_cases hlt : i < ps.length
    · obtain ⟨b, of', cap', hv, hb, hel⟩ := Shifts.at H.out (by omega)
      cases hv
      obtain ⟨e0, e1, e2⟩ := hel i hlt
      have c0 := (below_cell HB.out hb).trans e0
      have c1 := (below_cell HB.out hb).trans e1
      have c2 := (below_cell HB.out hb).trans e2
      generalize ps[i] = s at *
      obtain ⟨x1, x2, x3⟩ := s
      simp only at c0 c1 c2
      have HCL := Lib.hid (in1_any (x1, x2, x3) V m wr (HV.out.below HB.out HV.out.lt))
      simp only at HCL
      clear e0 e1 e2 hel
      go_wp2_with fail
      refine HCL.out.mono ?_
      rintro e w3 ⟨⟨bb, rfl⟩, hb3⟩
      have HB3 := Lib.hid (below_up HB.out hb3 HB.out.size)
      clear hb3 HCL c0 c1 c2
      cases bb with
      | true =>
        go_wp2_with fail
        go_ret
        exact ⟨⟨_, rfl⟩, HB3.out⟩
      | false =>
        go_wp2_with fail
        go_roundw
        case rel => exact ⟨i + 1, by go_num, hlt, HB3.out⟩
        case measure => simp [intOf]; omega
    · obtain rfl : i = ps.length := by omega
      go_wp2_with fail
      go_ret
      exact ⟨⟨_, rfl⟩, HB.out⟩
theorem cf1_any (v : Value) (ps : List Pc) (V n : Nat) (ca : Option Addr) (cc : Nat) (w : World) (h : Shifts w v ps) (hV : Has w V #[.slice ca n cc] 25) (hl : ps.length ≤ 6000) :
    Calls Tryz.prog 19 #[v, .func (.func 20) #[] #[.pointer (some ⟨V, 0, none⟩)]] w fun e w' => (∃ b, e = .returned (.bool b) ∧ (b = false ↔ ∀ p ∈ ps, p.2.2 < (n : Int))) ∧ Below w.heap.size w w' := by
  go_enter Tryz.func19, Tryz.ntmps19
  go_wp2_with fail
  refine (idx1_any v ps V n ca cc w h hV hl).mono ?_
  rintro e w3 ⟨⟨k, rfl, hk⟩, hb3⟩
  have HK := Lib.hid hk
  have HB := Lib.hid hb3
  clear hk hb3
  go_wp2_with fail
  go_ret
  exact ⟨⟨_, rfl, HK.out⟩, HB.out⟩
theorem cf2_any (v : Value) (ps : List Pc) (V : Nat) (m : Int) (w : World) (h : Shifts w v ps) (hV : Has w V #[.int .i64 m] 3) (hl : ps.length ≤ 6000) :
    Calls Tryz.prog 19 #[v, .func (.func 41) #[] #[.pointer (some ⟨V, 0, none⟩)]] w fun e w' => (∃ b, e = .returned (.bool b)) ∧ Below w.heap.size w w' := by
  go_enter Tryz.func19, Tryz.ntmps19
  go_wp2_with fail
  refine (idx2_any v ps V m w h hV hl).mono ?_
  rintro e w3 ⟨⟨k, rfl⟩, hb3⟩
  go_wp2_with fail
  go_ret
  exact ⟨⟨_, rfl⟩, hb3⟩
set_option maxRecDepth 100000 in
set_option maxHeartbeats 2000000 in
theorem inPiece_any (c : ClkD) (vps : Value) (m : Int) (w : World) (h : Shifts w vps c.ps) (hl : c.ps.length ≤ 6000) :
    Calls Tryz.prog 24 #[.agg (clkV c vps), .int .i64 m] w fun e w' => (∃ b, e = .returned (.bool b)) ∧ Below w.heap.size w w' := by
  obtain ⟨pa, pc, rfl⟩ := SliceAt.len h
  obtain ⟨x1, x2⟩ := box1 w (clkV c (.slice pa c.ps.length pc)) 24
  obtain ⟨y1, y2⟩ := box1 (w.alloc (.cells (clkV c (.slice pa c.ps.length pc)) 24)) #[.int .i64 m] 3
  have k6 : ((w.alloc (.cells (clkV c (.slice pa c.ps.length pc)) 24)).alloc (.cells #[.int .i64 m] 3)).cell? ⟨w.heap.size, 6, none⟩ = some (.slice pa c.ps.length pc) := (x1.alloc _).cell 6
  have HB := Lib.hid (below_up x2 y2 x2.size)
  have hz : (w.alloc (.cells (clkV c (.slice pa c.ps.length pc)) 24)).heap.size = w.heap.size + 1 := by simp
  have HCF := Lib.hid (cf2_any (.slice pa c.ps.length pc) c.ps (w.heap.size + 1) m _ (h.below (below_up x2 y2 x2.size)) (by rw [← hz]; exact y1) hl)
  clear x1 x2 y1 y2 hz h
  unfold clkV at k6 HB HCF ⊢
  go_enter Tryz.func24, Tryz.ntmps24
  go_upto_region 1 with fail
  generalize (w.alloc (.cells #[.int .i64 c.kind, .int .i64 c.lev, .int .i64 c.min, .int .i64 c.start, .int .i64 c.stop, .int .i64 c.fin, .slice pa c.ps.length pc] 24)).alloc (.cells #[.int .i64 m] 3) = w2 at *
  go_wp2_with fail
  refine HCF.out.mono ?_
  rintro e w3 ⟨⟨b, rfl⟩, hb3⟩
  have HB3 := Lib.hid (below_up HB.out hb3 HB.out.size)
  clear hb3 k6
  go_wp2_with fail
  go_ret
  exact ⟨⟨_, rfl⟩, HB3.out⟩
end Go.Proofs.YtiacipincoogmaaGreatDoor
