/- The walks of level.stateAt and level.StateAt at a clock that is met, at its stop. -/
import Derived.Test.YtllcgcnebofdoaaGreatDoorQClkE
import Derived.Deep.RegionLaw
import Derived.Test.YtllcgcnebofdoaaGreatDoorRows
import Derived.Test.YtllcgcnebofdoaaGreatDoorQCalChk
import Derived.BigQuiet
import Derived.Deep.QuietTactic
import Derived.Deep.DeepCutAuto
import Derived.Deep.CutBlock
import Derived.Deep.LoopGhost
import Derived.Deep.RegionHeld3
import Derived.Laws.ResultCell
import Derived.OwnWalk
import Derived.Test.YtllcgcnebofdoaaGreatDoorQBase
import Derived.Lib.SplitLaws
import Derived.Lib.Split
import Derived.Lib.Join
import Derived.WalkKit
namespace Go.Proofs.YtllcgcnebofdoaaGreatDoor
open Go.RowKit

def BoxS (W : World) (B : Nat) (c : ClkD) (vps : Value) : Prop := W.cell? ⟨B, 0, none⟩ = some (.int .i64 c.kind) ∧ W.cell? ⟨B, 1, none⟩ = some (.int .i64 c.lev) ∧ W.cell? ⟨B, 2, none⟩ = some (.int .i64 c.min) ∧ W.cell? ⟨B, 3, none⟩ = some (.int .i64 c.start) ∧ W.cell? ⟨B, 4, none⟩ = some (.int .i64 c.stop) ∧ W.cell? ⟨B, 5, none⟩ = some (.int .i64 c.fin) ∧ W.cell? ⟨B, 6, none⟩ = some vps
theorem boxS {W : World} {B : Nat} {c : ClkD} {vps : Value} (h : Has W B (clkV c vps) 34) : BoxS W B c vps := ⟨h.cell 0, h.cell 1, h.cell 2, h.cell 3, h.cell 4, h.cell 5, h.cell 6⟩

set_option maxRecDepth 100000 in
set_option maxHeartbeats 8000000 in
theorem stateAt_met (c : ClkD) (l : List CalD) (vps vl : Value) (w : World) (h : Shifts w vps c.ps) (hl : Cals w vl l) (hk : CkAll c l) (hm : c.stop ≤ 3000001) (h0 : c.fin = 1) :
    Calls Tryz.prog 38 #[.agg (clkV c vps), vl, .int .i64 c.stop] w fun e w' => e = .returned (.int .i64 (if elapF l c.ps c.stop ≤ c.min then 4 else 5)) ∧ Below w.heap.size w w' := by
  have hbx := box1 w (clkV c vps) 34
  have HX := Lib.hid hbx.1
  have HB := Lib.hid hbx.2
  have H := Lib.hid h
  have HEL := Lib.hid (fun W hW => elapsed_any c l vps vl c.stop W (h.below hW) (hl.below hW) hk hm)
  have HKS := Lib.hid (fun W (hW : Below (w.alloc (.cells (clkV c vps) 34)).heap.size (w.alloc (.cells (clkV c vps) 34)) W) => boxS (hbx.1.below hW hbx.1.lt))
  unfold BoxS at HKS
  clear h hl hk hbx
  unfold clkV at *
  rw [h0] at *
  generalize elapF l c.ps c.stop = E at *
  have HV := Lib.hid (show ∃ r : Int, r = (if E ≤ c.min then (4 : Int) else 5) from ⟨_, rfl⟩)
  obtain ⟨r, hr⟩ := HV.out
  have HR := Lib.hid hr
  rw [← hr]
  clear hr HV
  go_enter Tryz.func38, Tryz.ntmps38
  go_upto_region 1 with fail
  generalize w.alloc (.cells #[.int .i64 c.kind, .int .i64 c.lev, .int .i64 c.min, .int .i64 c.start, .int .i64 c.stop, .int .i64 1, vps] 34) = w2 at *
  obtain ⟨k0, k1, k2, k3, k4, k5, k6⟩ := HKS.out w2 (Below.refl _ _)
  have q0 : decide (c.stop ≤ c.stop) = true := decide_eq_true (Int.le_refl _)
  go_upto_region 4 with fail
  go_cut [24] (fun v wx => v = .bool (decide (E ≤ c.min)) ∧ Below w2.heap.size w2 wx)
  case first =>
    go_region_held3 (fun W => W.cell? ⟨w.heap.size, 0, none⟩ = some (.int .i64 c.kind) ∧ W.cell? ⟨w.heap.size, 1, none⟩ = some (.int .i64 c.lev) ∧ W.cell? ⟨w.heap.size, 2, none⟩ = some (.int .i64 c.min) ∧ W.cell? ⟨w.heap.size, 3, none⟩ = some (.int .i64 c.start) ∧ W.cell? ⟨w.heap.size, 4, none⟩ = some (.int .i64 c.stop) ∧ W.cell? ⟨w.heap.size, 5, none⟩ = some (.int .i64 1) ∧ W.cell? ⟨w.heap.size, 6, none⟩ = some vps)
      (first | exact HKS.out _ hB | exact HKS.out _ (Below.refl _ _).drew)
      ((go_at_call 66; refine (HEL.out _ (below_up HB.out (Below.refl _ _).drew HB.out.size)).mono ?_; rintro e w' ⟨rfl, hb⟩; have hB := below_up' (Below.refl w2.heap.size w2).drew hb))
    go_wp2
    go_meet
    exact ⟨rfl, hB⟩
  case rest =>
    obtain ⟨rfl, hbw⟩ := hcut
    have HBC := Lib.hid (below_up HB.out hbw HB.out.size)
    clear k0 k1 k2 k3 k4 k5 k6 hbw
    have HQ := Lib.hid (show decide (E ≤ c.min) = true ↔ E ≤ c.min from decide_eq_true_iff)
    generalize decide (E ≤ c.min) = bq at *
    cases bq with
    | true =>
      have HG := Lib.hid (show r = 4 by rw [HR.out, if_pos (HQ.out.1 rfl)])
      clear HQ HR
      go_wp2_with fail
      go_ret
      exact ⟨by rw [HG.out]; rfl, HBC.out⟩
    | false =>
      have HG := Lib.hid (show r = 5 by rw [HR.out, if_neg (fun g => absurd (HQ.out.2 g) (by decide))])
      clear HQ HR
      go_wp2_with fail
      go_ret
      exact ⟨by rw [HG.out]; rfl, HBC.out⟩

set_option maxRecDepth 100000 in
set_option maxHeartbeats 8000000 in
theorem StateAt_met (c : ClkD) (l : List CalD) (vps vl : Value) (w : World) (h : Shifts w vps c.ps) (hl : Cals w vl l) (hk : CkAll c l) (h0 : c.fin = 1) (hm : c.start ≤ c.stop ∧ c.stop ≤ 3000000) :
    Calls Tryz.prog 16 #[.agg (clkV c vps), vl, .int .i64 c.stop] w fun e w' => e = .returned (.tuple #[.int .i64 (if elapF l c.ps c.stop ≤ c.min then 4 else 5), .int .i64 0]) ∧ Below w.heap.size w w' := by
  have hbx := box1 w (clkV c vps) 34
  have HX := Lib.hid hbx.1
  have HB := Lib.hid hbx.2
  have H := Lib.hid h
  have HL := Lib.hid hl
  have HK := Lib.hid hk
  have HF0 := Lib.hid h0
  have HM := Lib.hid hm
  clear h hl hk hbx h0 hm
  have HV := Lib.hid (show ∃ r : Int, r = (if elapF l c.ps c.stop ≤ c.min then (4 : Int) else 5) from ⟨_, rfl⟩)
  obtain ⟨r, hr⟩ := HV.out
  have HR := Lib.hid hr
  rw [← hr]
  clear hr HV
  unfold clkV at *
  go_enter Tryz.func16, Tryz.ntmps16
  go_upto_region 1 with fail
  generalize w.alloc (.cells #[.int .i64 c.kind, .int .i64 c.lev, .int .i64 c.min, .int .i64 c.start, .int .i64 c.stop, .int .i64 c.fin, vps] 34) = w2 at *
  go_cut [8] (fun v wx => v = .int .i64 (lmomI c.stop c.start) ∧ Below w2.heap.size w2 wx)
  case first =>
    have hS0 : (fun W : World => W.cell? ⟨w.heap.size, 0, none⟩ = some (.int .i64 c.kind) ∧ W.cell? ⟨w.heap.size, 1, none⟩ = some (.int .i64 c.lev) ∧ W.cell? ⟨w.heap.size, 2, none⟩ = some (.int .i64 c.min) ∧ W.cell? ⟨w.heap.size, 3, none⟩ = some (.int .i64 c.start) ∧ W.cell? ⟨w.heap.size, 4, none⟩ = some (.int .i64 c.stop) ∧ W.cell? ⟨w.heap.size, 5, none⟩ = some (.int .i64 c.fin) ∧ W.cell? ⟨w.heap.size, 6, none⟩ = some vps) w2.drew := ⟨HX.out.cell 0, HX.out.cell 1, HX.out.cell 2, HX.out.cell 3, HX.out.cell 4, HX.out.cell 5, HX.out.cell 6⟩
    refine anyT_start (S := fun W : World => W.cell? ⟨w.heap.size, 0, none⟩ = some (.int .i64 c.kind) ∧ W.cell? ⟨w.heap.size, 1, none⟩ = some (.int .i64 c.lev) ∧ W.cell? ⟨w.heap.size, 2, none⟩ = some (.int .i64 c.min) ∧ W.cell? ⟨w.heap.size, 3, none⟩ = some (.int .i64 c.start) ∧ W.cell? ⟨w.heap.size, 4, none⟩ = some (.int .i64 c.stop) ∧ W.cell? ⟨w.heap.size, 5, none⟩ = some (.int .i64 c.fin) ∧ W.cell? ⟨w.heap.size, 6, none⟩ = some vps) (t := 10) (by kernel_rfl) ?_
    have HBD := Lib.hid HB.out.drew
    have HB2 := Lib.hid (Below.refl w2.heap.size w2).drew
    have HXD := Lib.hid (HX.out.below HB2.out HX.out.lt)
    have hRd : w.heap.size < w2.drew.heap.size := HXD.out.lt
    have hzd : w2.heap.size ≤ w2.drew.heap.size := HB2.out.size
    generalize w2.drew = wd at *
    refine takeT (i := 0) (v := ?_) rfl rfl (by kernel_rfl) (by kernel_rfl) (by kernel_rfl) (fun _ _ _ h => h) (by decide) (by kernel_rfl) (by kernel_rfl) ?_ hS0 ?_
    rotate_left
    · intro w hSw; (try dsimp only at hSw); go_simp; (try with_reducible rfl)
    simp only [List.setIfInBounds_toArray, List.set_cons_zero, List.set_cons_succ]
    refine takeT (i := 2) (v := ?_) rfl rfl (by kernel_rfl) (by kernel_rfl) (by kernel_rfl) (fun _ _ _ h => h) (by decide) (by kernel_rfl) (by kernel_rfl) ?_ hS0 ?_
    rotate_left
    · intro w hSw; (try dsimp only at hSw); go_simp; (try with_reducible rfl)
    simp only [List.setIfInBounds_toArray, List.set_cons_zero, List.set_cons_succ]
    refine takeT (i := 4) (v := ?_) rfl rfl (by kernel_rfl) (by kernel_rfl) (by kernel_rfl) (fun _ _ _ h => h) (by decide) (by kernel_rfl) (by kernel_rfl) ?_ hS0 ?_
    rotate_left
    · intro w hSw; (try dsimp only at hSw); go_simp; (try with_reducible rfl)
    simp only [List.setIfInBounds_toArray, List.set_cons_zero, List.set_cons_succ]
    refine takeT (i := 5) (v := ?_) rfl rfl (by kernel_rfl) (by kernel_rfl) (by kernel_rfl) (fun _ _ _ h => h) (by decide) (by kernel_rfl) (by kernel_rfl) ?_ hS0 ?_
    rotate_left
    · intro w hSw; (try dsimp only at hSw); go_simp; (try with_reducible rfl)
    simp only [List.setIfInBounds_toArray, List.set_cons_zero, List.set_cons_succ]
    refine takeT (i := 6) (v := ?_) rfl rfl (by kernel_rfl) (by kernel_rfl) (by kernel_rfl) (fun _ _ _ h => h) (by decide) (by kernel_rfl) (by kernel_rfl) ?_ hS0 ?_
    rotate_left
    · intro w hSw; (try dsimp only at hSw); go_simp; (try with_reducible rfl)
    simp only [List.setIfInBounds_toArray, List.set_cons_zero, List.set_cons_succ]
    refine oneT (i := 1) rfl (by kernel_rfl) (fun K hK => ?_)
    go_simp
    have hb1 : Below wd.heap.size wd (wd.alloc (.cells #[.int .i64 c.kind, .int .i64 c.lev, .int .i64 c.min, .int .i64 c.start, .int .i64 c.stop, .int .i64 c.fin, vps] 34)) := (Below.refl _ _).alloc (Nat.le_refl _) _
    have y1 := Has.new wd #[.int .i64 c.kind, .int .i64 c.lev, .int .i64 c.min, .int .i64 c.start, .int .i64 c.stop, .int .i64 c.fin, vps] 34
    have HW1 := Lib.hid (below_up HBD.out hb1 (by omega))
    have HC1 := Lib.hid (below_up HB2.out hb1 hzd)
    have HX1 := Lib.hid (HXD.out.below hb1 hRd)
    have HCH := Lib.hid (check_any c l vps vl wd.heap.size _ y1 (H.out.below HW1.out) (HL.out.below HW1.out))
    unfold clkV at HCH
    have hS1 : (fun W : World => W.cell? ⟨w.heap.size, 0, none⟩ = some (.int .i64 c.kind) ∧ W.cell? ⟨w.heap.size, 1, none⟩ = some (.int .i64 c.lev) ∧ W.cell? ⟨w.heap.size, 2, none⟩ = some (.int .i64 c.min) ∧ W.cell? ⟨w.heap.size, 3, none⟩ = some (.int .i64 c.start) ∧ W.cell? ⟨w.heap.size, 4, none⟩ = some (.int .i64 c.stop) ∧ W.cell? ⟨w.heap.size, 5, none⟩ = some (.int .i64 c.fin) ∧ W.cell? ⟨w.heap.size, 6, none⟩ = some vps) (wd.alloc (.cells #[.int .i64 c.kind, .int .i64 c.lev, .int .i64 c.min, .int .i64 c.start, .int .i64 c.stop, .int .i64 c.fin, vps] 34)) := ⟨HX1.out.cell 0, HX1.out.cell 1, HX1.out.cell 2, HX1.out.cell 3, HX1.out.cell 4, HX1.out.cell 5, HX1.out.cell 6⟩
    refine hK.out _ _ (fun _ => hS1) ?_
    clear hK hb1 y1 hS0
    try simp only [List.setIfInBounds_toArray, List.set_cons_zero, List.set_cons_succ, Act.put]
    refine oneT (i := 3) rfl (by kernel_rfl) (fun K hK => ?_)
    go_simp
    refine HCH.out.mono ?_
    rintro e w4 ⟨⟨k, rfl, hk⟩, hb4⟩
    obtain rfl : k = 0 := hk.2 HK.out
    have HC4 := Lib.hid (below_up HC1.out hb4 HC1.out.size)
    have HX4 := Lib.hid (HX1.out.below hb4 HX1.out.lt)
    have hS4 : (fun W : World => W.cell? ⟨w.heap.size, 0, none⟩ = some (.int .i64 c.kind) ∧ W.cell? ⟨w.heap.size, 1, none⟩ = some (.int .i64 c.lev) ∧ W.cell? ⟨w.heap.size, 2, none⟩ = some (.int .i64 c.min) ∧ W.cell? ⟨w.heap.size, 3, none⟩ = some (.int .i64 c.start) ∧ W.cell? ⟨w.heap.size, 4, none⟩ = some (.int .i64 c.stop) ∧ W.cell? ⟨w.heap.size, 5, none⟩ = some (.int .i64 c.fin) ∧ W.cell? ⟨w.heap.size, 6, none⟩ = some vps) w4 := ⟨HX4.out.cell 0, HX4.out.cell 1, HX4.out.cell 2, HX4.out.cell 3, HX4.out.cell 4, HX4.out.cell 5, HX4.out.cell 6⟩
    refine hK.out _ _ (fun _ => hS4) ?_
    clear hK hb4 hS1 hk HCH
    try simp only [List.setIfInBounds_toArray, List.set_cons_zero, List.set_cons_succ, Act.put]
    refine oneT (i := 7) rfl (by kernel_rfl) (fun K hK => ?_)
    go_simp
    refine (lmoment_any c.stop c.start w4).mono ?_
    rintro e w5 ⟨rfl, rfl⟩
    refine hK.out _ _ (fun _ => hS4) ?_
    clear hK
    try simp only [List.setIfInBounds_toArray, List.set_cons_zero, List.set_cons_succ, Act.put]
    generalize lmomI c.stop c.start = mo at *
    have hor := or_any _ [0, mo] _ (ints2_at w4 0 mo 29) (by simp)
    rw [orI2, if_pos rfl] at hor
    have HOR := Lib.hid hor
    clear hor
    refine oneT (i := 8) rfl (by kernel_rfl) (fun K hK => ?_)
    go_simp
    have hb8 : Below w4.heap.size w4 (w4.alloc (.cells #[.int .i64 0, .int .i64 mo] 29)) := (Below.refl _ _).alloc (Nat.le_refl _) _
    have HC8 := Lib.hid (below_up HC4.out hb8 HC4.out.size)
    have HX8 := Lib.hid (HX4.out.below hb8 HX4.out.lt)
    have hS8 : (fun W : World => W.cell? ⟨w.heap.size, 0, none⟩ = some (.int .i64 c.kind) ∧ W.cell? ⟨w.heap.size, 1, none⟩ = some (.int .i64 c.lev) ∧ W.cell? ⟨w.heap.size, 2, none⟩ = some (.int .i64 c.min) ∧ W.cell? ⟨w.heap.size, 3, none⟩ = some (.int .i64 c.start) ∧ W.cell? ⟨w.heap.size, 4, none⟩ = some (.int .i64 c.stop) ∧ W.cell? ⟨w.heap.size, 5, none⟩ = some (.int .i64 c.fin) ∧ W.cell? ⟨w.heap.size, 6, none⟩ = some vps) (w4.alloc (.cells #[.int .i64 0, .int .i64 mo] 29)) := ⟨HX8.out.cell 0, HX8.out.cell 1, HX8.out.cell 2, HX8.out.cell 3, HX8.out.cell 4, HX8.out.cell 5, HX8.out.cell 6⟩
    refine hK.out _ _ (fun _ => hS8) ?_
    clear hK hb8 hS4
    try simp only [List.setIfInBounds_toArray, List.set_cons_zero, List.set_cons_succ, Act.put]
    refine oneT (i := 9) rfl (by kernel_rfl) (fun K hK => ?_)
    go_simp
    refine HOR.out.mono ?_
    rintro e w9 ⟨rfl, rfl⟩
    refine hK.out _ _ (fun _ => hS8) ?_
    clear hK
    try simp only [List.setIfInBounds_toArray, List.set_cons_zero, List.set_cons_succ, Act.put]
    refine oneT (i := 10) rfl (by kernel_rfl) (fun K hK => ?_)
    go_simp
    refine hK.out _ _ (fun q => absurd rfl q) ?_
    refine doneT (by kernel_rfl) ?_ _
    go_wp2_with fail
    go_meet
    exact ⟨rfl, HC8.out⟩
  case rest =>
    obtain ⟨rfl, hbw⟩ := hcut
    have HBC := Lib.hid (below_up HB.out hbw HB.out.size)
    have HXC := Lib.hid (HX.out.below hbw HX.out.lt)
    clear hbw
    have e0 : lmomI c.stop c.start = 0 := by unfold lmomI; rw [if_pos HM.out]
    rw [e0]
    clear e0
    have k0 := HXC.out.cell 0
    have k1 := HXC.out.cell 1
    have k2 := HXC.out.cell 2
    have k3 := HXC.out.cell 3
    have k4 := HXC.out.cell 4
    have k5 := HXC.out.cell 5
    have k6 := HXC.out.cell 6
    have HST := Lib.hid (stateAt_met c l vps vl wc (H.out.below HBC.out) (HL.out.below HBC.out) HK.out (by have := HM.out; omega) HF0.out)
    rw [← HR.out] at HST
    unfold clkV at HST
    clear HR
    go_wp2_with fail
    refine HST.out.mono ?_
    rintro e w7 ⟨rfl, hb7⟩
    have HB7 := Lib.hid (below_up HBC.out hb7 HBC.out.size)
    clear hb7 HST k0 k1 k2 k3 k4 k5 k6
    go_wp2_with fail
    go_ret2
    exact ⟨rfl, HB7.out⟩
end Go.Proofs.YtllcgcnebofdoaaGreatDoor

/- Tools of the walks, in a seat of calendars. -/
namespace Go.Proofs.YtllcgcnebofdoaaGreatDoor
open Go.RowKit

theorem infoInt : (Tryz.prog.info? 3).map (fun i => (i.zero, i.size, i.bytes)) = some (some (.int .i64 0), 1, 8) := by kernel_rfl
end Go.Proofs.YtllcgcnebofdoaaGreatDoor

/- Plain laws of people's text: its lines, what they are cut and split into, and what a reader makes of them. No program in sight. -/
namespace Go.Proofs.YtllcgcnebofdoaaGreatDoor

theorem tail_cons (x : List UInt8) (r : List (List UInt8)) : Lib.joinTail [32] (x :: r) = 32 :: (x ++ Lib.joinTail [32] r) := by simp [Lib.joinTail]
theorem tail_nil : Lib.joinTail [32] [] = [] := rfl
theorem split_tail : ∀ (ws : List (List UInt8)) (w : List UInt8), (32 : UInt8) ∉ w → (∀ x ∈ ws, (32 : UInt8) ∉ x) → Lib.splitK [32] 0 ws.length (w ++ Lib.joinTail [32] ws) = w :: ws
  | [], w, _, _ => by
    rw [tail_nil, List.append_nil]
    rfl
  | x :: r, w, h, hr => by
    have e : w ++ Lib.joinTail [32] (x :: r) = w ++ 32 :: (x ++ Lib.joinTail [32] r) := by rw [tail_cons]
    have hi := index_at 32 w (x ++ Lib.joinTail [32] r) h
    rw [e, List.length_cons]
    unfold Lib.splitK
    have hm : ¬ (Lib.index (w ++ 32 :: (x ++ Lib.joinTail [32] r)) [32] == -1) = true := fun g => by rw [hi] at g; have := beq_iff_eq.1 g; omega
    rw [if_neg hm, hi]
    simp only [Int.toNat_natCast, List.length_cons, List.length_nil, Nat.zero_add, Nat.add_zero]
    have h1 : (w ++ 32 :: (x ++ Lib.joinTail [32] r)).take w.length = w := by simp
    have h2 : (w ++ 32 :: (x ++ Lib.joinTail [32] r)).drop (w.length + 1) = x ++ Lib.joinTail [32] r := by
      rw [List.drop_append]
      simp
    rw [h1, h2, split_tail r x (hr x List.mem_cons_self) (fun y hy => hr y (List.mem_cons_of_mem _ hy))]
theorem count_tail : ∀ (ws : List (List UInt8)) (w : List UInt8), (32 : UInt8) ∉ w → (∀ x ∈ ws, (32 : UInt8) ∉ x) → Lib.count (w ++ Lib.joinTail [32] ws) [32] = ws.length
  | [], w, h, _ => by
    rw [tail_nil, List.append_nil, Lib.count_one, List.count_eq_zero.2 h]
    rfl
  | x :: r, w, h, hr => by
    have ih := count_tail r x (hr x List.mem_cons_self) (fun y hy => hr y (List.mem_cons_of_mem _ hy))
    rw [Lib.count_one] at ih ⊢
    rw [tail_cons, List.count_append, List.count_eq_zero.2 h, List.count_cons, ih]
    simp
theorem split_join (w : List UInt8) (ws : List (List UInt8)) (h : ∀ x ∈ w :: ws, (32 : UInt8) ∉ x) : Lib.splitK [32] 0 (Lib.count (Lib.join (w :: ws) [32]) [32]) (Lib.join (w :: ws) [32]) = w :: ws ∧ Lib.count (Lib.join (w :: ws) [32]) [32] = ws.length := by
  have h1 := h w List.mem_cons_self
  have h2 : ∀ x ∈ ws, (32 : UInt8) ∉ x := fun x hx => h x (List.mem_cons_of_mem _ hx)
  rw [Lib.join_cons, count_tail ws w h1 h2, split_tail ws w h1 h2]
  exact ⟨rfl, rfl⟩
theorem join_no : ∀ (ws : List (List UInt8)) (w : List UInt8), (∀ x ∈ w :: ws, (10 : UInt8) ∉ x) → (10 : UInt8) ∉ Lib.join (w :: ws) [32]
  | ws, w, h => by
    rw [Lib.join_cons]
    intro g
    rcases List.mem_append.1 g with g | g
    · exact h w List.mem_cons_self g
    · unfold Lib.joinTail at g
      obtain ⟨l, hl, hg⟩ := List.mem_flatten.1 g
      obtain ⟨x, hx, rfl⟩ := List.mem_map.1 hl
      rcases List.mem_append.1 hg with q | q
      · have := List.mem_singleton.1 q
        cases this
      · exact h x (List.mem_cons_of_mem _ hx) q
theorem itoa_clean (n : Int) (b : UInt8) (h : b = 10 ∨ b = 32) : b ∉ Lib.itoa n := itoa_not n b (by rcases h with rfl | rfl <;> decide) (by rcases h with rfl | rfl <;> exact .inl (by decide))

/-- a skill: its name, its rank; a person -/
abbrev Skl := ByteArray × Int
structure PerD where
  no : Int
  cap : Int
  cl : Int
  sk : List Skl
def personW : List UInt8 := [112, 101, 114, 115, 111, 110]
def skW (l : List Skl) : List (List UInt8) := l.flatMap fun s => [s.1.data.toList, Lib.itoa s.2]
def perW (p : PerD) : List (List UInt8) := Lib.itoa p.no :: Lib.itoa p.cap :: Lib.itoa p.cl :: skW p.sk
def lineP (p : PerD) : List UInt8 := Lib.join (personW :: perW p) [32]
def textP (l : List PerD) : List UInt8 := l.flatMap fun p => lineP p ++ [10]

/-- a name: small letters, digits, underscores -/
def nmB (c : UInt8) : Bool := (decide (97 ≤ c.toNat) && decide (c.toNat ≤ 122)) || (decide (48 ≤ c.toNat) && decide (c.toNat ≤ 57)) || decide (c.toNat = 95)
def nm (s : ByteArray) : Bool := s.data.toList.all nmB && decide (s.size ≠ 0) && decide (s.size ≤ 20)
theorem nm_no {s : ByteArray} (h : nm s = true) (b : UInt8) (hb : b = 10 ∨ b = 32) : b ∉ s.data.toList := by
  intro g
  unfold nm at h
  simp only [Bool.and_eq_true, List.all_eq_true] at h
  have := h.1.1 b g
  rcases hb with rfl | rfl <;> revert this <;> decide
theorem nm_size {s : ByteArray} (h : nm s = true) : s.size ≠ 0 ∧ s.size ≤ 20 := by
  unfold nm at h
  simp only [Bool.and_eq_true, decide_eq_true_eq] at h
  exact ⟨h.1.2, h.2⟩
/-- what the reader of a person needs -/
structure PerOk (p : PerD) : Prop where
  no : p.no.natAbs < 10 ^ 9
  cap : p.cap.natAbs < 10 ^ 9
  cl : p.cl.natAbs < 10 ^ 9
  few : p.sk.length ≤ 12
  nms : ∀ s ∈ p.sk, nm s.1 = true
  rks : ∀ s ∈ p.sk, s.2.natAbs < 10 ^ 9
theorem skW_len (l : List Skl) : (skW l).length = 2 * l.length := by
  induction l with
  | nil => rfl
  | cons s r ih => unfold skW at ih ⊢; rw [List.flatMap_cons, List.length_append, ih, List.length_cons]; simp; omega
theorem words_clean {p : PerD} (h : PerOk p) (b : UInt8) (hb : b = 10 ∨ b = 32) : ∀ x ∈ personW :: perW p, b ∉ x := by
  intro x hx
  rcases List.mem_cons.1 hx with rfl | hx
  · rcases hb with rfl | rfl <;> decide
  unfold perW at hx
  rcases List.mem_cons.1 hx with rfl | hx
  · exact itoa_clean _ _ hb
  rcases List.mem_cons.1 hx with rfl | hx
  · exact itoa_clean _ _ hb
  rcases List.mem_cons.1 hx with rfl | hx
  · exact itoa_clean _ _ hb
  unfold skW at hx
  obtain ⟨s, hs, hx⟩ := List.mem_flatMap.1 hx
  rcases List.mem_cons.1 hx with rfl | hx
  · exact nm_no (h.nms s hs) b hb
  · rw [List.mem_singleton.1 hx]
    exact itoa_clean _ _ hb
theorem cut_person {p : PerD} (h : PerOk p) (r : List PerD) : Lib.cut (textP (p :: r)) [10] = (lineP p, textP r, true) := by
  unfold textP
  rw [List.flatMap_cons, List.append_assoc]
  exact cut_at 10 _ _ (join_no _ _ (words_clean h 10 (.inl rfl)))
theorem itoa_short9 (n : Int) (h : n.natAbs < 10 ^ 9) : (Lib.itoa n).length ≤ 10 := by
  have hln := itoa_len n 8 h
  rw [trim_itoa] at hln
  unfold Lib.itoa
  split
  · rw [List.length_cons]; omega
  · rw [show n.toNat = n.natAbs by omega]; omega
theorem tail_short : ∀ (ws : List (List UInt8)), (∀ x ∈ ws, x.length ≤ 20) → (Lib.joinTail [32] ws).length ≤ 21 * ws.length
  | [], _ => by simp [tail_nil]
  | x :: r, h => by
    have ih := tail_short r (fun y hy => h y (List.mem_cons_of_mem _ hy))
    have := h x List.mem_cons_self
    rw [tail_cons, List.length_cons, List.length_append, List.length_cons]
    omega
theorem words_short {p : PerD} (h : PerOk p) : ∀ x ∈ perW p, x.length ≤ 20 := by
  intro x hx
  unfold perW at hx
  rcases List.mem_cons.1 hx with rfl | hx
  · exact Nat.le_trans (itoa_short9 _ h.no) (by decide)
  rcases List.mem_cons.1 hx with rfl | hx
  · exact Nat.le_trans (itoa_short9 _ h.cap) (by decide)
  rcases List.mem_cons.1 hx with rfl | hx
  · exact Nat.le_trans (itoa_short9 _ h.cl) (by decide)
  unfold skW at hx
  obtain ⟨s, hs, hx⟩ := List.mem_flatMap.1 hx
  rcases List.mem_cons.1 hx with rfl | hx
  · have := (nm_size (h.nms s hs)).2
    rw [Array.length_toList]
    exact this
  · rw [List.mem_singleton.1 hx]
    exact Nat.le_trans (itoa_short9 _ (h.rks s hs)) (by decide)
theorem perW_len (p : PerD) : (perW p).length = 3 + 2 * p.sk.length := by
  have e : (perW p).length = (skW p.sk).length + 1 + 1 + 1 := rfl
  rw [e, skW_len]
  omega
theorem line_short {p : PerD} (h : PerOk p) : (lineP p).length ≤ 600 := by
  unfold lineP
  rw [Lib.join_cons, List.length_append]
  have h1 := tail_short _ (words_short h)
  rw [perW_len] at h1
  have := h.few
  have : personW.length = 6 := rfl
  omega
theorem text_short : ∀ (l : List PerD), (∀ p ∈ l, PerOk p) → (textP l).length ≤ 601 * l.length
  | [], _ => by simp [textP]
  | p :: r, h => by
    have ih := text_short r (fun q hq => h q (List.mem_cons_of_mem _ hq))
    have h1 := line_short (h p List.mem_cons_self)
    have e : textP (p :: r) = (lineP p ++ [10]) ++ textP r := by unfold textP; rw [List.flatMap_cons]
    have e2 : ([10] : List UInt8).length = 1 := rfl
    have e3 : (p :: r).length = r.length + 1 := rfl
    rw [e, List.length_append, List.length_append, e2, e3]
    omega
theorem text_next {l : List PerD} {m : Nat} (hm : m < l.length) : textP (l.take (m + 1)) = textP (l.take m) ++ (lineP l[m] ++ [10]) := by
  rw [List.take_succ_eq_append_getElem hm]
  unfold textP
  rw [List.flatMap_append]
  simp
end Go.Proofs.YtllcgcnebofdoaaGreatDoor

/- Lists whose elements are right, one by one and pair by pair, as a loop finds them. No program in sight. -/
namespace Go.Proofs.YtllcgcnebofdoaaGreatDoor

structure Lst {α : Type} (P : α → Prop) (Q : α → α → Prop) (l : List α) : Prop where
  each : ∀ i (h : i < l.length), P l[i]
  order : ∀ i (h : i + 1 < l.length), Q l[i] l[i + 1]
theorem Lst.nil {α : Type} {P : α → Prop} {Q : α → α → Prop} : Lst P Q [] := ⟨fun i h => absurd h (by simp), fun i h => absurd h (by simp)⟩
theorem Lst.next {α : Type} {P : α → Prop} {Q : α → α → Prop} {l : List α} {i : Nat} (h : Lst P Q (l.take i)) (hi : i < l.length) (hx : P l[i]) (ho : ∀ hp : 0 < i, Q (l[i - 1]'(by omega)) l[i]) : Lst P Q (l.take (i + 1)) := by
  refine ⟨fun j hj => ?_, fun j hj => ?_⟩
  · rw [List.getElem_take]
    rw [List.length_take] at hj
    by_cases g : j = i
    · subst g; exact hx
    · have := h.each j (by rw [List.length_take]; omega)
      rwa [List.getElem_take] at this
  · rw [List.getElem_take, List.getElem_take]
    rw [List.length_take] at hj
    by_cases g : j + 1 = i
    · have := ho (by omega)
      simp only [← g] at this ⊢
      exact this
    · have := h.order j (by rw [List.length_take]; omega)
      rwa [List.getElem_take, List.getElem_take] at this
theorem Lst.mem {α : Type} {P : α → Prop} {Q : α → α → Prop} {l : List α} (h : Lst P Q l) {x : α} (hx : x ∈ l) : P x := by
  obtain ⟨i, hi, rfl⟩ := List.mem_iff_getElem.1 hx
  exact h.each i hi
theorem Lst.before {α : Type} {P : α → Prop} {Q : α → α → Prop} {l : List α} (h : Lst P Q l) {i : Nat} (hi : i < l.length) (hp : 0 < i) : Q (l[i - 1]'(by omega)) l[i] := by
  have := h.order (i - 1) (by omega)
  simpa [Nat.sub_add_cancel hp] using this
end Go.Proofs.YtllcgcnebofdoaaGreatDoor

/- Plain laws of policies: what a right one is, and its text. No program in sight. -/
namespace Go.Proofs.YtllcgcnebofdoaaGreatDoor

/-- a test: a field, a value's kind, its number, its text -/
structure TstD where
  fld : Int
  kind : Int
  num : Int
  text : ByteArray
/-- a target: kind, minutes, calendar -/
abbrev TgtD := Int × Int × Int
structure LevD where
  name : ByteArray
  tests : List TstD
  tgts : List TgtD
structure PolD where
  pauses : List Int
  levs : List LevD
/-- a byte of a text: no control byte -/
def txB (c : UInt8) : Bool := decide (32 ≤ c.toNat) && !decide (c.toNat = 127)
def kindOk (k n : Int) : Prop := (k = 1 → 0 ≤ n ∧ n ≤ 1) ∧ (k = 4 → 0 ≤ n ∧ n ≤ 19) ∧ (k = 5 → 0 ≤ n ∧ n ≤ 3000000) ∧ (k = 6 → 1 ≤ n ∧ n ≤ 40)
structure TstOne (t : TstD) : Prop where
  fld : -1 ≤ t.fld ∧ t.fld ≤ 19
  kind : (0 ≤ t.kind ∧ t.kind ≤ 6) ∧ (t.fld = -1 → t.kind = 2)
  form : (t.num = 0 ∨ ¬ (t.kind = 0 ∨ t.kind = 3)) ∧ (t.text.size = 0 ∨ t.kind = 3)
  range : kindOk t.kind t.num
  short : t.text.size ≤ 200
  bytes : t.text.data.toList.all txB = true
def TstRise (a b : TstD) : Prop := a.fld < b.fld
def TgtOne (t : TgtD) : Prop := (1 ≤ t.1 ∧ t.1 ≤ 3) ∧ (0 ≤ t.2.1 ∧ t.2.1 ≤ 100000) ∧ (0 ≤ t.2.2 ∧ t.2.2 ≤ 19)
def TgtRise (a b : TgtD) : Prop := a.1 < b.1
structure LevOk (l : LevD) : Prop where
  few : l.tests.length ≤ 8
  tests : Lst TstOne TstRise l.tests
  tgts : Lst TgtOne TgtRise l.tgts
def PauOne (s : Int) : Prop := 1 ≤ s ∧ s ≤ 4
def PauRise (a b : Int) : Prop := a < b
/-- levels right up to here: names are names, no name twice -/
structure LevsOk (l : List LevD) : Prop where
  each : ∀ x ∈ l, nm x.name = true ∧ LevOk x
  once : (l.map (·.name)).Nodup
structure PolOk (p : PolD) : Prop where
  pauses : Lst PauOne PauRise p.pauses
  few : p.levs.length ≤ 20
  levs : LevsOk p.levs
theorem LevsOk.nil : LevsOk [] := ⟨fun _ h => by simp at h, by simp⟩
theorem LevsOk.next {l : List LevD} {i : Nat} (h : LevsOk (l.take i)) (hi : i < l.length) (h1 : nm l[i].name = true) (h2 : l[i].name ∉ (l.take i).map (·.name)) (h3 : LevOk l[i]) : LevsOk (l.take (i + 1)) := by
  rw [List.take_succ_eq_append_getElem hi]
  refine ⟨fun x hx => ?_, ?_⟩
  · rcases List.mem_append.1 hx with hx | hx
    · exact h.each x hx
    · rw [List.mem_singleton.1 hx]
      exact ⟨h1, h3⟩
  · rw [List.map_append, List.nodup_append]
    refine ⟨h.once, by simp, fun a ha b hb e => ?_⟩
    simp only [List.map_cons, List.map_nil, List.mem_singleton] at hb
    exact h2 (by rw [← hb, ← e]; exact ha)
theorem LevsOk.one {l : List LevD} (h : LevsOk l) {i : Nat} (hi : i < l.length) : nm l[i].name = true ∧ l[i].name ∉ (l.take i).map (·.name) ∧ LevOk l[i] := by
  obtain ⟨h1, h2⟩ := h.each _ (List.getElem_mem hi)
  refine ⟨h1, fun g => ?_, h2⟩
  have ho := h.once
  rw [← List.take_append_drop i l, List.map_append, List.drop_eq_getElem_cons hi, List.map_cons, List.nodup_append] at ho
  exact ho.2.2 _ g _ List.mem_cons_self rfl
end Go.Proofs.YtllcgcnebofdoaaGreatDoor
