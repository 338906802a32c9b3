/- The walks of level.stateAt and level.StateAt at a clock that has not ended. -/
import Derived.Test.YtiacipincoogmaaGreatDoorClkE
import Derived.Test.YtiacipincoogmaaGreatDoorOrd
import Derived.Deep.RegionLaw
namespace Go.Proofs.YtiacipincoogmaaGreatDoor
open Go.RowKit

def BoxS (W : World) (B : Nat) (c : ClkD) (vps : Value) : Prop := W.cell? ⟨B, 0, none⟩ = some (.int .i64 c.kind) ∧ W.cell? ⟨B, 1, none⟩ = some (.int .i64 c.lev) ∧ W.cell? ⟨B, 2, none⟩ = some (.int .i64 c.min) ∧ W.cell? ⟨B, 3, none⟩ = some (.int .i64 c.start) ∧ W.cell? ⟨B, 4, none⟩ = some (.int .i64 c.stop) ∧ W.cell? ⟨B, 5, none⟩ = some (.int .i64 c.fin) ∧ W.cell? ⟨B, 6, none⟩ = some vps
theorem boxS {W : World} {B : Nat} {c : ClkD} {vps : Value} (h : Has W B (clkV c vps) 24) : BoxS W B c vps := ⟨h.cell 0, h.cell 1, h.cell 2, h.cell 3, h.cell 4, h.cell 5, h.cell 6⟩

set_option maxRecDepth 100000 in
set_option maxHeartbeats 8000000 in
theorem stateAt_any (c : ClkD) (l : List CalD) (vps vl : Value) (m : Int) (w : World) (h : Shifts w vps c.ps) (hl : Cals w vl l) (hk : CkAll c l) (hm : m ≤ 3000001) (h0 : c.fin = 0) :
    Calls Tryz.prog 13 #[.agg (clkV c vps), vl, .int .i64 m] w fun e w' => (∃ s, e = .returned (.int .i64 s) ∧ (s = 3 ↔ c.min < elapF l c.ps m)) ∧ Below w.heap.size w w' := by
  have hbx := box1 w (clkV c vps) 24
  have HX := Lib.hid hbx.1
  have HB := Lib.hid hbx.2
  have H := Lib.hid h
  have HEL := Lib.hid (fun W hW => elapsed_any c l vps vl m W (h.below hW) (hl.below hW) hk hm)
  have HIP := Lib.hid (fun W hW => inPiece_any c vps m W (h.below hW) hk.clk.len)
  have HKS := Lib.hid (fun W (hW : Below (w.alloc (.cells (clkV c vps) 24)).heap.size (w.alloc (.cells (clkV c vps) 24)) W) => boxS (hbx.1.below hW hbx.1.lt))
  unfold BoxS at HKS
  clear h hl hk hbx
  unfold clkV at *
  rw [h0] at *
  generalize elapF l c.ps m = E at *
  go_enter Tryz.func13, Tryz.ntmps13
  go_upto_region 1 with fail
  generalize w.alloc (.cells #[.int .i64 c.kind, .int .i64 c.lev, .int .i64 c.min, .int .i64 c.start, .int .i64 c.stop, .int .i64 0, vps] 24) = w2 at *
  obtain ⟨k0, k1, k2, k3, k4, k5, k6⟩ := HKS.out w2 (Below.refl _ _)
  go_upto_region 4 with fail
  go_quiet (fail)
  have HBQ := Lib.hid (drewN_below (Below.refl w2.heap.size w2) nq)
  generalize w2.drewN nq = w3 at *
  clear k0 k1 k2 k3 k4 k5 k6
  obtain ⟨k0, k1, k2, k3, k4, k5, k6⟩ := HKS.out w3 HBQ.out
  go_upto_region 8 with fail
  go_cut [38] (fun v wx => v = .bool (decide (c.min < E)) ∧ Below w2.heap.size w2 wx)
  case first =>
    go_region_held3 (fun W => W.cell? ⟨w.heap.size, 0, none⟩ = some (.int .i64 c.kind) ∧ W.cell? ⟨w.heap.size, 1, none⟩ = some (.int .i64 c.lev) ∧ W.cell? ⟨w.heap.size, 2, none⟩ = some (.int .i64 c.min) ∧ W.cell? ⟨w.heap.size, 3, none⟩ = some (.int .i64 c.start) ∧ W.cell? ⟨w.heap.size, 4, none⟩ = some (.int .i64 c.stop) ∧ W.cell? ⟨w.heap.size, 5, none⟩ = some (.int .i64 0) ∧ W.cell? ⟨w.heap.size, 6, none⟩ = some vps)
      (first | exact HKS.out _ (below_up' HBQ.out hB) | exact HKS.out _ HBQ.out.drew)
      ((go_at_call 23; refine (HEL.out _ (below_up HB.out HBQ.out.drew HB.out.size)).mono ?_; rintro e w' ⟨rfl, hb⟩; have hB := below_up' (Below.refl w3.heap.size w3).drew hb))
    go_wp2
    go_meet
    exact ⟨rfl, below_up' HBQ.out hB⟩
  case rest =>
    obtain ⟨rfl, hbw⟩ := hcut
    have HBC := Lib.hid (below_up HB.out hbw HB.out.size)
    have hz := HKS.out wc hbw
    clear k0 k1 k2 k3 k4 k5 k6 hbw
    obtain ⟨k0, k1, k2, k3, k4, k5, k6⟩ := hz
    have HQ := Lib.hid (show decide (c.min < E) = true ↔ c.min < E from decide_eq_true_iff)
    generalize decide (c.min < E) = bq at *
    cases bq with
    | true =>
      go_wp2_with fail
      go_ret
      exact ⟨⟨_, rfl, ⟨fun _ => HQ.out.1 (by trivial), fun _ => rfl⟩⟩, HBC.out⟩
    | false =>
      go_wp2_with fail
      refine (HIP.out wc HBC.out).mono ?_
      rintro e w5 ⟨⟨b, rfl⟩, hb5⟩
      have HB5 := Lib.hid (below_up HBC.out hb5 HBC.out.size)
      clear hb5 k0 k1 k2 k3 k4 k5 k6 HIP
      cases b with
      | true =>
        go_wp2_with fail
        go_ret
        exact ⟨⟨_, rfl, ⟨fun h => absurd h (by decide), fun h => absurd (HQ.out.2 h) (by simp)⟩⟩, HB5.out⟩
      | false =>
        go_wp2_with fail
        go_ret
        exact ⟨⟨_, rfl, ⟨fun h => absurd h (by decide), fun h => absurd (HQ.out.2 h) (by simp)⟩⟩, HB5.out⟩

def StPost (c : ClkD) (l : List CalD) (m : Int) (w : World) (e : Ending) (w' : World) : Prop :=
  ∃ s k : Int, e = .returned (.tuple #[.int .i64 s, .int .i64 k]) ∧ Below w.heap.size w w' ∧ (CkAll c l → k = lmomI m c.start) ∧ (k = 0 → CkAll c l → (s = 3 ↔ c.min < elapF l c.ps m))
set_option maxRecDepth 100000 in
set_option maxHeartbeats 8000000 in
theorem StateAt_any (c : ClkD) (l : List CalD) (vps vl : Value) (m : Int) (w : World) (h : Shifts w vps c.ps) (hl : Cals w vl l) (hk : CkAll c l) (h0 : c.fin = 0) :
    Calls Tryz.prog 6 #[.agg (clkV c vps), vl, .int .i64 m] w (StPost c l m w) := by
  have hbx := box1 w (clkV c vps) 24
  have HX := Lib.hid hbx.1
  have HB := Lib.hid hbx.2
  have H := Lib.hid h
  have HL := Lib.hid hl
  have HK := Lib.hid hk
  have HF0 := Lib.hid h0
  clear h hl hk hbx h0
  unfold clkV at *
  go_enter Tryz.func6, Tryz.ntmps6
  go_upto_region 1 with fail
  generalize w.alloc (.cells #[.int .i64 c.kind, .int .i64 c.lev, .int .i64 c.min, .int .i64 c.start, .int .i64 c.stop, .int .i64 c.fin, vps] 24) = w2 at *
  go_cut [8] (fun v wx => v = .int .i64 (lmomI m c.start) ∧ Below w2.heap.size w2 wx)
  case first =>
    have hS0 : (fun W : World => W.cell? ⟨w.heap.size, 0, none⟩ = some (.int .i64 c.kind) ∧ W.cell? ⟨w.heap.size, 1, none⟩ = some (.int .i64 c.lev) ∧ W.cell? ⟨w.heap.size, 2, none⟩ = some (.int .i64 c.min) ∧ W.cell? ⟨w.heap.size, 3, none⟩ = some (.int .i64 c.start) ∧ W.cell? ⟨w.heap.size, 4, none⟩ = some (.int .i64 c.stop) ∧ W.cell? ⟨w.heap.size, 5, none⟩ = some (.int .i64 c.fin) ∧ W.cell? ⟨w.heap.size, 6, none⟩ = some vps) w2.drew := ⟨HX.out.cell 0, HX.out.cell 1, HX.out.cell 2, HX.out.cell 3, HX.out.cell 4, HX.out.cell 5, HX.out.cell 6⟩
    refine anyT_start (S := fun W : World => W.cell? ⟨w.heap.size, 0, none⟩ = some (.int .i64 c.kind) ∧ W.cell? ⟨w.heap.size, 1, none⟩ = some (.int .i64 c.lev) ∧ W.cell? ⟨w.heap.size, 2, none⟩ = some (.int .i64 c.min) ∧ W.cell? ⟨w.heap.size, 3, none⟩ = some (.int .i64 c.start) ∧ W.cell? ⟨w.heap.size, 4, none⟩ = some (.int .i64 c.stop) ∧ W.cell? ⟨w.heap.size, 5, none⟩ = some (.int .i64 c.fin) ∧ W.cell? ⟨w.heap.size, 6, none⟩ = some vps) (t := 10) (by kernel_rfl) ?_
    have HBD := Lib.hid HB.out.drew
    have HB2 := Lib.hid (Below.refl w2.heap.size w2).drew
    have HXD := Lib.hid (HX.out.below HB2.out HX.out.lt)
    have hRd : w.heap.size < w2.drew.heap.size := HXD.out.lt
    have hzd : w2.heap.size ≤ w2.drew.heap.size := HB2.out.size
    generalize w2.drew = wd at *
    refine takeT (i := 0) (v := ?_) rfl rfl (by kernel_rfl) (by kernel_rfl) (by kernel_rfl) (fun _ _ _ h => h) (by decide) (by kernel_rfl) (by kernel_rfl) ?_ hS0 ?_
    rotate_left
    · intro w hSw; (try dsimp only at hSw); go_simp; (try with_reducible rfl)
    simp only [List.setIfInBounds_toArray, List.set_cons_zero, List.set_cons_succ]
    refine takeT (i := 2) (v := ?_) rfl rfl (by kernel_rfl) (by kernel_rfl) (by kernel_rfl) (fun _ _ _ h => h) (by decide) (by kernel_rfl) (by kernel_rfl) ?_ hS0 ?_
    rotate_left
    · intro w hSw; (try dsimp only at hSw); go_simp; (try with_reducible rfl)
    simp only [List.setIfInBounds_toArray, List.set_cons_zero, List.set_cons_succ]
    refine takeT (i := 4) (v := ?_) rfl rfl (by kernel_rfl) (by kernel_rfl) (by kernel_rfl) (fun _ _ _ h => h) (by decide) (by kernel_rfl) (by kernel_rfl) ?_ hS0 ?_
    rotate_left
    · intro w hSw; (try dsimp only at hSw); go_simp; (try with_reducible rfl)
    simp only [List.setIfInBounds_toArray, List.set_cons_zero, List.set_cons_succ]
    refine takeT (i := 5) (v := ?_) rfl rfl (by kernel_rfl) (by kernel_rfl) (by kernel_rfl) (fun _ _ _ h => h) (by decide) (by kernel_rfl) (by kernel_rfl) ?_ hS0 ?_
    rotate_left
    · intro w hSw; (try dsimp only at hSw); go_simp; (try with_reducible rfl)
    simp only [List.setIfInBounds_toArray, List.set_cons_zero, List.set_cons_succ]
    refine takeT (i := 6) (v := ?_) rfl rfl (by kernel_rfl) (by kernel_rfl) (by kernel_rfl) (fun _ _ _ h => h) (by decide) (by kernel_rfl) (by kernel_rfl) ?_ hS0 ?_
    rotate_left
    · intro w hSw; (try dsimp only at hSw); go_simp; (try with_reducible rfl)
    simp only [List.setIfInBounds_toArray, List.set_cons_zero, List.set_cons_succ]
    refine oneT (i := 1) rfl (by kernel_rfl) (fun K hK => ?_)
    go_simp
    have hb1 : Below wd.heap.size wd (wd.alloc (.cells #[.int .i64 c.kind, .int .i64 c.lev, .int .i64 c.min, .int .i64 c.start, .int .i64 c.stop, .int .i64 c.fin, vps] 24)) := (Below.refl _ _).alloc (Nat.le_refl _) _
    have y1 := Has.new wd #[.int .i64 c.kind, .int .i64 c.lev, .int .i64 c.min, .int .i64 c.start, .int .i64 c.stop, .int .i64 c.fin, vps] 24
    have HW1 := Lib.hid (below_up HBD.out hb1 (by omega))
    have HC1 := Lib.hid (below_up HB2.out hb1 hzd)
    have HX1 := Lib.hid (HXD.out.below hb1 hRd)
    have HCH := Lib.hid (check_any c l vps vl wd.heap.size _ y1 (H.out.below HW1.out) (HL.out.below HW1.out))
    unfold clkV at HCH
    have hS1 : (fun W : World => W.cell? ⟨w.heap.size, 0, none⟩ = some (.int .i64 c.kind) ∧ W.cell? ⟨w.heap.size, 1, none⟩ = some (.int .i64 c.lev) ∧ W.cell? ⟨w.heap.size, 2, none⟩ = some (.int .i64 c.min) ∧ W.cell? ⟨w.heap.size, 3, none⟩ = some (.int .i64 c.start) ∧ W.cell? ⟨w.heap.size, 4, none⟩ = some (.int .i64 c.stop) ∧ W.cell? ⟨w.heap.size, 5, none⟩ = some (.int .i64 c.fin) ∧ W.cell? ⟨w.heap.size, 6, none⟩ = some vps) (wd.alloc (.cells #[.int .i64 c.kind, .int .i64 c.lev, .int .i64 c.min, .int .i64 c.start, .int .i64 c.stop, .int .i64 c.fin, vps] 24)) := ⟨HX1.out.cell 0, HX1.out.cell 1, HX1.out.cell 2, HX1.out.cell 3, HX1.out.cell 4, HX1.out.cell 5, HX1.out.cell 6⟩
    refine hK.out _ _ (fun _ => hS1) ?_
    clear hK hb1 y1 hS0
    try simp only [List.setIfInBounds_toArray, List.set_cons_zero, List.set_cons_succ, Act.put]
    refine oneT (i := 3) rfl (by kernel_rfl) (fun K hK => ?_)
    go_simp
    refine HCH.out.mono ?_
    rintro e w4 ⟨⟨k, rfl, hk⟩, hb4⟩
    obtain rfl : k = 0 := hk.2 HK.out
    have HC4 := Lib.hid (below_up HC1.out hb4 HC1.out.size)
    have HX4 := Lib.hid (HX1.out.below hb4 HX1.out.lt)
    have hS4 : (fun W : World => W.cell? ⟨w.heap.size, 0, none⟩ = some (.int .i64 c.kind) ∧ W.cell? ⟨w.heap.size, 1, none⟩ = some (.int .i64 c.lev) ∧ W.cell? ⟨w.heap.size, 2, none⟩ = some (.int .i64 c.min) ∧ W.cell? ⟨w.heap.size, 3, none⟩ = some (.int .i64 c.start) ∧ W.cell? ⟨w.heap.size, 4, none⟩ = some (.int .i64 c.stop) ∧ W.cell? ⟨w.heap.size, 5, none⟩ = some (.int .i64 c.fin) ∧ W.cell? ⟨w.heap.size, 6, none⟩ = some vps) w4 := ⟨HX4.out.cell 0, HX4.out.cell 1, HX4.out.cell 2, HX4.out.cell 3, HX4.out.cell 4, HX4.out.cell 5, HX4.out.cell 6⟩
    refine hK.out _ _ (fun _ => hS4) ?_
    clear hK hb4 hS1 hk HCH
    try simp only [List.setIfInBounds_toArray, List.set_cons_zero, List.set_cons_succ, Act.put]
    refine oneT (i := 7) rfl (by kernel_rfl) (fun K hK => ?_)
    go_simp
    refine (lmoment_any m c.start w4).mono ?_
    rintro e w5 ⟨rfl, rfl⟩
    refine hK.out _ _ (fun _ => hS4) ?_
    clear hK
    try simp only [List.setIfInBounds_toArray, List.set_cons_zero, List.set_cons_succ, Act.put]
    generalize lmomI m c.start = mo at *
    have hor := or_any _ [0, mo] _ (ints2_at w4 0 mo 27) (by simp)
    rw [orI2, if_pos rfl] at hor
    have HOR := Lib.hid hor
    clear hor
    refine oneT (i := 8) rfl (by kernel_rfl) (fun K hK => ?_)
    go_simp
    have hb8 : Below w4.heap.size w4 (w4.alloc (.cells #[.int .i64 0, .int .i64 mo] 27)) := (Below.refl _ _).alloc (Nat.le_refl _) _
    have HC8 := Lib.hid (below_up HC4.out hb8 HC4.out.size)
    have HX8 := Lib.hid (HX4.out.below hb8 HX4.out.lt)
    have hS8 : (fun W : World => W.cell? ⟨w.heap.size, 0, none⟩ = some (.int .i64 c.kind) ∧ W.cell? ⟨w.heap.size, 1, none⟩ = some (.int .i64 c.lev) ∧ W.cell? ⟨w.heap.size, 2, none⟩ = some (.int .i64 c.min) ∧ W.cell? ⟨w.heap.size, 3, none⟩ = some (.int .i64 c.start) ∧ W.cell? ⟨w.heap.size, 4, none⟩ = some (.int .i64 c.stop) ∧ W.cell? ⟨w.heap.size, 5, none⟩ = some (.int .i64 c.fin) ∧ W.cell? ⟨w.heap.size, 6, none⟩ = some vps) (w4.alloc (.cells #[.int .i64 0, .int .i64 mo] 27)) := ⟨HX8.out.cell 0, HX8.out.cell 1, HX8.out.cell 2, HX8.out.cell 3, HX8.out.cell 4, HX8.out.cell 5, HX8.out.cell 6⟩
    refine hK.out _ _ (fun _ => hS8) ?_
    clear hK hb8 hS4
    try simp only [List.setIfInBounds_toArray, List.set_cons_zero, List.set_cons_succ, Act.put]
    refine oneT (i := 9) rfl (by kernel_rfl) (fun K hK => ?_)
    go_simp
    refine HOR.out.mono ?_
    rintro e w9 ⟨rfl, rfl⟩
    refine hK.out _ _ (fun _ => hS8) ?_
    clear hK
    try simp only [List.setIfInBounds_toArray, List.set_cons_zero, List.set_cons_succ, Act.put]
    refine oneT (i := 10) rfl (by kernel_rfl) (fun K hK => ?_)
    go_simp
    refine hK.out _ _ (fun q => absurd rfl q) ?_
    refine doneT (by kernel_rfl) ?_ _
    go_wp2_with fail
    go_meet
    exact ⟨rfl, HC8.out⟩
  case rest =>
    obtain ⟨rfl, hbw⟩ := hcut
    have HBC := Lib.hid (below_up HB.out hbw HB.out.size)
    have HXC := Lib.hid (HX.out.below hbw HX.out.lt)
    clear hbw
    by_cases g : c.start ≤ m ∧ m ≤ 3000000
    · have e0 : lmomI m c.start = 0 := by unfold lmomI; rw [if_pos g]
      have HE0 := Lib.hid e0
      rw [e0]
      clear e0
      have k0 := HXC.out.cell 0
      have k1 := HXC.out.cell 1
      have k2 := HXC.out.cell 2
      have k3 := HXC.out.cell 3
      have k4 := HXC.out.cell 4
      have k5 := HXC.out.cell 5
      have k6 := HXC.out.cell 6
      have HST := Lib.hid (stateAt_any c l vps vl m wc (H.out.below HBC.out) (HL.out.below HBC.out) HK.out (by omega) HF0.out)
      unfold clkV at HST
      clear g
      go_wp2_with fail
      refine HST.out.mono ?_
      rintro e w7 ⟨⟨s, rfl, hs⟩, hb7⟩
      have HS := Lib.hid hs
      have HB7 := Lib.hid (below_up HBC.out hb7 HBC.out.size)
      clear hs hb7 HST k0 k1 k2 k3 k4 k5 k6
      go_wp2_with fail
      go_ret2
      exact ⟨_, _, rfl, HB7.out, fun _ => HE0.out.symm, fun _ _ => HS.out⟩
    · have e0 : lmomI m c.start = 2 := by unfold lmomI; rw [if_neg g]
      have HE0 := Lib.hid e0
      rw [e0]
      clear e0 g
      go_wp2_with fail
      go_ret2
      exact ⟨_, _, rfl, HBC.out, fun _ => HE0.out.symm, fun q => absurd q (by decide)⟩
end Go.Proofs.YtiacipincoogmaaGreatDoor
