/- The walk of level.Elapsed at a right clock, and the law of what has elapsed behind a clock's stop. -/
import Derived.Test.YtjiikjkiaemaiaaGreatDoorClkP2
namespace Go.Proofs.YtjiikjkiaemaiaaGreatDoor
open Go.RowKit

theorem elap_stop {cals : List CalD} {m s : Int} : ∀ {ps : List Pc}, (∀ p ∈ ps, p.2.1 ≠ -1 ∧ p.2.1 ≤ s) → elapF cals ps (min m s) = elapF cals ps m
  | [], _ => rfl
  | p :: r, h => by
    have h1 := h p (by simp)
    have e : cutEnd p (min m s) = cutEnd p m := by
      unfold cutEnd
      rw [if_neg h1.1, if_neg h1.1]
      omega
    rw [elapF, elapF, elap_stop (fun q hq => h q (by simp [hq])), pcN, pcN, e]
theorem elap_exM {c : ClkD} {l : List CalD} (h : CkAll c l) (m : Int) : elapF l c.ps (exM c m) = elapF l c.ps m := by
  unfold exM
  split
  · rfl
  · rename_i g
    refine elap_stop fun p hp => ?_
    obtain ⟨i, hi, rfl⟩ := List.getElem_of_mem hp
    have hg := h.clk.each i hi
    unfold Good at hg
    rw [show c.ps.getD i (0, 0, 0) = c.ps[i] by simp [List.getD, hi]] at hg
    obtain ⟨_, _, _, g4, g5, _⟩ := hg
    exact ⟨fun q => g (g4 q).2, g5 g⟩
theorem exM_range {c : ClkD} {l : List CalD} {m : Int} (h : CkAll c l) (h1 : c.start ≤ m ∧ m ≤ 3000000) : c.start ≤ exM c m ∧ exM c m ≤ 3000000 := by
  have h2 := h.clk.head.stop
  unfold exM
  split
  · exact h1
  · rename_i g
    rcases h2 with h2 | h2
    · exact absurd h2 g
    · omega
theorem pcs_ok {c : ClkD} {l : List CalD} (h : CkAll c l) : ∀ (n i : Nat) (lo : Int), i + n = c.ps.length → (∀ hi : i < c.ps.length, lo ≤ c.ps[i].1) → PcsOk l lo (c.ps.drop i)
  | 0, i, lo, e, _ => by
    rw [List.drop_eq_nil_of_le (by omega)]
    trivial
  | n + 1, i, lo, e, hlo => by
    have hi : i < c.ps.length := by omega
    rw [List.drop_eq_getElem_cons hi]
    have F := pc_facts h hi
    have hg := h.clk.each i hi
    unfold Good at hg
    rw [show c.ps.getD i (0, 0, 0) = c.ps[i] by simp [List.getD, hi]] at hg
    obtain ⟨_, _, _, g4, _, _⟩ := hg
    exact ⟨hlo hi, F.hi, (pcEnd_lt F).1, (pcEnd_lt F).2, fun q => List.drop_eq_nil_of_le (by have := (g4 q).1; omega), F.fine.fine.ok, pcs_ok h n (i + 1) _ (by omega) (fun hi' => next_lo h hi hi')⟩
theorem parts_fw {c : ClkD} {l : List CalD} {m : Int} (h : CkAll c l) (h1 : c.start ≤ m ∧ m ≤ 3000000) : FwP none c.start (partsL l c (exM c m)) (exM c m) (elapF l c.ps m) := by
  have hr := exM_range h h1
  rw [← elap_exM h m]
  exact parts_ok (pcs_ok h c.ps.length 0 c.start (by omega) (fun hi => (pc_facts h hi).st)) h.clk.head.start.1 hr.1 (by omega)
theorem FwP.len {b : Int} : ∀ {R : List Prt} {prev : Option Int} {a cn : Int}, FwP prev a R b cn → (R.length : Int) ≤ b - a ∧ 0 ≤ cn ∧ cn ≤ b - a
  | [], prev, a, cn, ⟨h, h2⟩ => by simp only [List.length_nil]; omega
  | p :: r, prev, a, cn, ⟨h1, h2, _, h4⟩ => by
    have := FwP.len h4
    have hc : 0 ≤ cntP p ∧ cntP p ≤ p.2.1 - p.1 := by unfold cntP; split <;> omega
    simp only [List.length_cons]
    push_cast
    omega

set_option maxRecDepth 100000 in
set_option maxHeartbeats 8000000 in
theorem Elapsed_ok (c : ClkD) (l : List CalD) (vps vl : Value) (m : Int) (w : World) (h : Shifts w vps c.ps) (hl : Cals w vl l) (hk : CkAll c l) (h0 : 0 ≤ m) (h1 : m ≤ 3000000) :
    Calls Tryz.prog 6 #[.agg (clkV c vps), vl, .int .i64 m] w fun e w' => e = .returned (.tuple #[.int .i64 (elapF l c.ps m), .int .i64 0]) ∧ Below w.heap.size w w' := by
  obtain ⟨x1, x2⟩ := box1 w (clkV c vps) 24
  have HX := Lib.hid x1
  have HB := Lib.hid x2
  have hz : (w.alloc (.cells (clkV c vps) 24)).heap.size = w.heap.size + 1 := by simp
  have k0 : (w.alloc (.cells (clkV c vps) 24)).cell? ⟨w.heap.size, 0, none⟩ = some (.int .i64 c.kind) := x1.cell 0
  have k1 : (w.alloc (.cells (clkV c vps) 24)).cell? ⟨w.heap.size, 1, none⟩ = some (.int .i64 c.lev) := x1.cell 1
  have k2 : (w.alloc (.cells (clkV c vps) 24)).cell? ⟨w.heap.size, 2, none⟩ = some (.int .i64 c.min) := x1.cell 2
  have k3 : (w.alloc (.cells (clkV c vps) 24)).cell? ⟨w.heap.size, 3, none⟩ = some (.int .i64 c.start) := x1.cell 3
  have k4 : (w.alloc (.cells (clkV c vps) 24)).cell? ⟨w.heap.size, 4, none⟩ = some (.int .i64 c.stop) := x1.cell 4
  have k5 : (w.alloc (.cells (clkV c vps) 24)).cell? ⟨w.heap.size, 5, none⟩ = some (.int .i64 c.fin) := x1.cell 5
  have k6 : (w.alloc (.cells (clkV c vps) 24)).cell? ⟨w.heap.size, 6, none⟩ = some vps := x1.cell 6
  have H := Lib.hid h
  have HL := Lib.hid hl
  have HALL := Lib.hid hk
  clear x1 x2 h hl hk
  obtain ⟨y1, y2⟩ := box1 (w.alloc (.cells (clkV c vps) 24)) (clkV c vps) 24
  rw [hz] at y1 y2
  have HB2 := Lib.hid (below_up HB.out (by rw [hz]; exact y2) HB.out.size)
  have HX2 := Lib.hid (HX.out.below y2 (by omega))
  have HCH := Lib.hid (check_any c l vps vl (w.heap.size + 1) _ y1 (H.out.below HB2.out) (HL.out.below HB2.out))
  unfold clkV at *
  clear y1 y2
  go_enter Tryz.func6, Tryz.ntmps6
  go_upto_region 1 with fail
  generalize w.alloc (.cells #[.int .i64 c.kind, .int .i64 c.lev, .int .i64 c.min, .int .i64 c.start, .int .i64 c.stop, .int .i64 c.fin, vps] 24) = w2 at *
  go_wp2_with fail
  refine HCH.out.mono ?_
  rintro e w3 ⟨⟨k, rfl, hk⟩, hb3⟩
  obtain rfl : k = 0 := hk.2 HALL.out
  have HB3 := Lib.hid (below_up HB2.out hb3 HB2.out.size)
  have HX3 := Lib.hid (HX2.out.below hb3 HX2.out.lt)
  clear hb3 hk HCH k0 k1 k2 k3 k4 k5 k6 HX HB HX2 HB2
  have HMO := Lib.hid (show lmomI m 0 = 0 from (lmom_zero m 0).2 ⟨h0, h1⟩)
  have hor := or_any _ [0, 0] _ (ints2_at w3 0 0 28) (by simp)
  rw [orI2] at hor
  have HOR := Lib.hid hor
  obtain ⟨z1, z2⟩ := box1 w3 #[.int .i64 0, .int .i64 0] 28
  have HB4 := Lib.hid (below_up HB3.out z2 HB3.out.size)
  have HX4 := Lib.hid (HX3.out.below z2 HX3.out.lt)
  clear hor z1 z2
  go_wp2_with fail
  refine (lmoment_any m 0 w3).mono ?_
  rintro e w4 ⟨rfl, rfl⟩
  rw [HMO.out]
  go_wp2_with fail
  refine HOR.out.mono ?_
  rintro e w5 ⟨rfl, rfl⟩
  clear HOR HX3 HB3 HMO
  generalize w3.alloc (.cells #[.int .i64 0, .int .i64 0] 28) = w6 at *
  have k0 := HX4.out.cell 0
  have k1 := HX4.out.cell 1
  have k2 := HX4.out.cell 2
  have k3 := HX4.out.cell 3
  have k4 := HX4.out.cell 4
  have k5 := HX4.out.cell 5
  have k6 := HX4.out.cell 6
  have HEL := Lib.hid (elapsed_any c l vps vl m w6 (H.out.below HB4.out) (HL.out.below HB4.out) HALL.out (by omega))
  unfold clkV at HEL
  go_wp2_with fail
  refine HEL.out.mono ?_
  rintro e w7 ⟨rfl, hb7⟩
  have HB7 := Lib.hid (below_up HB4.out hb7 HB4.out.size)
  clear hb7 HEL k0 k1 k2 k3 k4 k5 k6
  go_wp2_with fail
  go_ret2
  exact ⟨rfl, HB7.out⟩
end Go.Proofs.YtjiikjkiaemaiaaGreatDoor
