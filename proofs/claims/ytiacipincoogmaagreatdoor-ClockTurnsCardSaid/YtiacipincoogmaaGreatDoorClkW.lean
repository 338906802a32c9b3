/- The walk of portkeep2.ClockTurns. -/
import Derived.Test.YtiacipincoogmaaGreatDoorClkF
import Derived.Test.YtiacipincoogmaaGreatDoorStrL
namespace Go.Proofs.YtiacipincoogmaaGreatDoor
open Go.RowKit

theorem pcs_ok {c : ClkD} {l : List CalD} (h : CkAll c l) : ∀ (n i : Nat) (lo : Int), i + n = c.ps.length → (∀ hi : i < c.ps.length, lo ≤ c.ps[i].1) → PcsOk l lo (c.ps.drop i)
  | 0, i, lo, e, _ => by
    rw [List.drop_eq_nil_of_le (by omega)]
    trivial
  | n + 1, i, lo, e, hlo => by
    have hi : i < c.ps.length := by omega
    rw [List.drop_eq_getElem_cons hi]
    have F := pc_facts h hi
    have hg := h.clk.each i hi
    unfold Good at hg
    rw [show c.ps.getD i (0, 0, 0) = c.ps[i] by simp [List.getD, hi]] at hg
    obtain ⟨_, _, _, g4, _, _⟩ := hg
    refine ⟨hlo hi, F.hi, (pcEnd_le F).1, (pcEnd_le F).2, fun q => ?_, F.fine.fine.ok, pcs_ok h n (i + 1) _ (by omega) (fun hi' => ?_)⟩
    · exact List.drop_eq_nil_of_le (by have := (g4 q).1; omega)
    · have hg := h.clk.each (i + 1) hi'
      unfold Good at hg
      rw [show c.ps.getD (i + 1) (0, 0, 0) = c.ps[i + 1] by simp [List.getD, hi'], show i + 1 - 1 = i by omega, show c.ps.getD i (0, 0, 0) = c.ps[i] by simp [List.getD, hi]] at hg
      obtain ⟨_, _, _, _, _, g6⟩ := hg
      have hne : c.ps[i].2.1 ≠ -1 := fun q => (g4 q).1 hi'
      unfold pcEnd
      rw [if_neg hne]
      exact g6 (by omega)
theorem fin_zero {c : ClkD} {l : List CalD} (h : CkAll c l) (hr : c.ps ≠ [] ∧ (c.ps.getD (c.ps.length - 1) (0, 0, 0)).2.1 = -1) : c.fin = 0 := by
  have hp : 0 < c.ps.length := List.length_pos_iff.2 hr.1
  have hg := h.clk.each (c.ps.length - 1) (by omega)
  obtain ⟨_, _, _, g4, _, _⟩ := hg
  exact h.clk.ends.1 (g4 hr.2).2
/-- at the due moment a clock is not late, one moment later it is -/
theorem due_law {c : ClkD} {l : List CalD} (h : CkAll c l) : c.start ≤ dueF c l ∧ dueF c l ≤ 3000000 ∧ ¬ c.min < elapF l c.ps (dueF c l) ∧ (dueF c l < 3000000 → c.min < elapF l c.ps (dueF c l + 1)) := by
  have hst := h.clk.head.start
  have hmin := h.clk.head.min
  have hok : PcsOk l c.start c.ps := pcs_ok h c.ps.length 0 c.start (by omega) (fun hi => (pc_facts h hi).st)
  unfold dueF
  cases hc : cntF l c.ps c.min with
  | none =>
    have := cnt_missed hok hst.1 hmin.1 hc
    refine ⟨hst.2, Int.le_refl _, ?_, fun g => absurd g (by simp)⟩
    show ¬ c.min < elapF l c.ps 3000000
    omega
  | some m =>
    obtain ⟨h1, h2, h3, h4⟩ := cnt_found hok hst.1 hmin.1 hc
    refine ⟨h1, h2, ?_, fun _ => ?_⟩
    · show ¬ c.min < elapF l c.ps m
      omega
    · show c.min < elapF l c.ps (m + 1)
      omega

set_option maxRecDepth 100000 in
set_option maxHeartbeats 8000000 in
theorem turns_walk (c : ClkD) (l : List CalD) (vps vl : Value) (w : World) (h : Shifts w vps c.ps) (hl : Cals w vl l) (hE : EnvM w) :
    Calls Tryz.prog 3 #[.agg (clkV c vps), vl] w fun e w' => e = .returned (.bool true) ∧ Below w.heap.size w w' := by
  have hbx := box1 w (clkV c vps) 24
  have HX := Lib.hid hbx.1
  have HB := Lib.hid hbx.2
  have H := Lib.hid h
  have HL := Lib.hid hl
  have HE := Lib.hid hE
  clear h hl hE hbx
  have HDU := Lib.hid (fun W hW => Due_any c l vps vl W (H.out.below hW) (HL.out.below hW))
  have HST := Lib.hid (fun m W hW hk h0 => StateAt_any c l vps vl m W (H.out.below hW) (HL.out.below hW) hk h0)
  unfold clkV at *
  go_enter Tryz.func3, Tryz.ntmps3
  go_upto_region 1 with fail
  generalize w.alloc (.cells #[.int .i64 c.kind, .int .i64 c.lev, .int .i64 c.min, .int .i64 c.start, .int .i64 c.stop, .int .i64 c.fin, vps] 24) = w2 at *
  go_wp2_with fail
  refine (awakeLevel_any w2 (HE.out.below HB.out)).mono ?_
  rintro e w3 ⟨rfl, hb3⟩
  have HB3 := Lib.hid (below_up HB.out hb3 HB.out.size)
  have HX3 := Lib.hid (HX.out.below hb3 HX.out.lt)
  clear hb3 HB HX
  have k0 := HX3.out.cell 0
  have k1 := HX3.out.cell 1
  have k2 := HX3.out.cell 2
  have k3 := HX3.out.cell 3
  have k4 := HX3.out.cell 4
  have k5 := HX3.out.cell 5
  have k6 := HX3.out.cell 6
  go_wp2_with fail
  refine (HDU.out w3 HB3.out).mono ?_
  rintro e w4 ⟨d, k, rfl, hb4, hk1, hk2⟩
  have HB4 := Lib.hid (below_up HB3.out hb4 HB3.out.size)
  have HX4 := Lib.hid (HX3.out.below hb4 HX3.out.lt)
  clear hb4 HB3 HX3 k0 k1 k2 k3 k4 k5 k6 HDU
  by_cases hz : k = 0
  · subst hz
    obtain ⟨hall, hrun, hd⟩ := hk2 rfl
    have hf0 := fin_zero hall hrun
    obtain ⟨r1, r2, r3, r4⟩ := due_law hall
    rw [← hd] at r1 r2 r3 r4
    have HALL := Lib.hid hall
    have HF0 := Lib.hid hf0
    have HR3 := Lib.hid r3
    have HR4 := Lib.hid r4
    have hst0 := hall.clk.head.start.1
    clear hk1 hk2 hall hrun hd hf0 r3 r4
    have k0 := HX4.out.cell 0
    have k1 := HX4.out.cell 1
    have k2 := HX4.out.cell 2
    have k3 := HX4.out.cell 3
    have k4 := HX4.out.cell 4
    have k5 := HX4.out.cell 5
    have k6 := HX4.out.cell 6
    have q0 : decide (d < c.start) = false := decide_eq_false (by omega)
    go_wp2_with fail
    refine (HST.out d w4 HB4.out HALL.out HF0.out).mono ?_
    rintro e w5 ⟨s, k, rfl, hb5, hs1, hs2⟩
    have e0 : lmomI d c.start = 0 := by unfold lmomI; rw [if_pos ⟨r1, r2⟩]
    obtain rfl : k = 0 := by rw [hs1 HALL.out]; exact e0
    have hs3 : s ≠ 3 := fun g => by have h1 := (hs2 rfl HALL.out).1 g; have h2 := HR3.out; omega
    have qs : (s == 3) = false := by simpa using hs3
    have HB5 := Lib.hid (below_up HB4.out hb5 HB4.out.size)
    have HX5 := Lib.hid (HX4.out.below hb5 HX4.out.lt)
    clear hb5 HB4 HX4 k0 k1 k2 k3 k4 k5 k6 hs1 hs2 hs3 e0 q0
    have k0 := HX5.out.cell 0
    have k1 := HX5.out.cell 1
    have k2 := HX5.out.cell 2
    have k3 := HX5.out.cell 3
    have k4 := HX5.out.cell 4
    have k5 := HX5.out.cell 5
    have k6 := HX5.out.cell 6
    have w1 : IntKind.i64.wrap (d + 1) = d + 1 := IntWalk.i64_in _ (by omega)
    go_wp2_with fail
    refine (HST.out (d + 1) w5 HB5.out HALL.out HF0.out).mono ?_
    rintro e w6 ⟨t, k, rfl, hb6, ht1, ht2⟩
    have HB6 := Lib.hid (below_up HB5.out hb6 HB5.out.size)
    have ht1 := ht1 HALL.out
    clear hb6 HB5 HX5 k0 k1 k2 k3 k4 k5 k6
    by_cases g : d = 3000000
    · have e1 : lmomI (d + 1) c.start = 2 := by unfold lmomI; rw [if_neg (by omega)]
      obtain rfl : k = 2 := by rw [ht1]; exact e1
      subst g
      clear ht1 ht2 e1
      go_wp2_with fail
      go_ret
      exact ⟨rfl, HB6.out⟩
    · have e1 : lmomI (d + 1) c.start = 0 := by unfold lmomI; rw [if_pos ⟨by omega, by omega⟩]
      obtain rfl : k = 0 := by rw [ht1]; exact e1
      obtain rfl : t = 3 := (ht2 rfl HALL.out).2 (HR4.out (by omega))
      have q2 : (d == 3000000) = false := by simpa using g
      clear ht1 ht2 e1 g
      go_wp2_with fail
      go_ret
      exact ⟨rfl, HB6.out⟩
  · obtain rfl := hk1 hz
    have qz : (k == 0) = false := by simpa using hz
    have qz2 : (k != 0) = true := by simpa using hz
    clear hk1 hk2 hz
    go_wp2_with fail
    go_ret
    exact ⟨rfl, HB4.out⟩
end Go.Proofs.YtiacipincoogmaaGreatDoor
