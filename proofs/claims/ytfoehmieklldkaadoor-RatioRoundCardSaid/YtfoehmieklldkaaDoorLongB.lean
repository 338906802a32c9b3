/- The walks of staff.takeAway and staff.putBack. -/
import Derived.Test.YtfoehmieklldkaaDoorLongA
import Derived.Deep.QuietTactic
import Derived.BigQuiet
namespace Go.Proofs.YtfoehmieklldkaaDoor
open Go.RowKit

/-- a block of digits, of which a stretch is worked on -/
structure SgM (P sg T : List Int) (w wr : World) (B : Nat) (ns : List Int) (i : Nat) : Prop where
  block : IntsB wr B (P ++ ((ns ++ sg.drop i) ++ T))
  grown : w.grownBy wr (some B)
theorem SgM.drewN {P sg T : List Int} {w wr : World} {B : Nat} {ns : List Int} {i : Nat} (h : SgM P sg T w wr B ns i) (q : Nat) : SgM P sg T w (wr.drewN q) B ns i := ⟨h.block, grownBy_drewN h.grown q⟩
theorem sg_at (P sg T ns : List Int) (i : Nat) (hl : ns.length = i) (hi : i < sg.length) (h : P.length + i < (P ++ ((ns ++ sg.drop i) ++ T)).length) : (P ++ ((ns ++ sg.drop i) ++ T))[P.length + i] = sg[i] := by
  rw [List.getElem_append_right (by omega)]
  simp only [Nat.add_sub_cancel_left]
  rw [List.getElem_append_left (by rw [List.length_append, List.length_drop]; omega), List.getElem_append_right (by omega)]
  simp [hl]
theorem SgM.cell {P sg T : List Int} {w wr : World} {B : Nat} {ns : List Int} {i : Nat} (h : SgM P sg T w wr B ns i) (hl : ns.length = i) (hi : i < sg.length) :
    wr.cell? ⟨B, P.length + i, none⟩ = some (.int .i64 sg[i]) ∧ wr.frozen? ⟨B, P.length + i, none⟩ = false := by
  have hb : P.length + i < (P ++ ((ns ++ sg.drop i) ++ T)).length := by
    rw [List.length_append, List.length_append, List.length_append, List.length_drop]; omega
  have := h.block.cells (P.length + i) hb
  rw [sg_at P sg T ns i hl hi hb] at this
  exact this
theorem SgM.set {P sg T : List Int} {w wr : World} {B : Nat} {ns : List Int} {i : Nat} (h : SgM P sg T w wr B ns i) (hl : ns.length = i) (hi : i < sg.length) (x : Int) :
    SgM P sg T w (wr.setCell ⟨B, P.length + i, none⟩ (.int .i64 x)) B (ns ++ [x]) (i + 1) := by
  refine ⟨?_, grownBy_trans h.grown (grownBy_set _ _ _ _)⟩
  have := h.block.set (P.length + i) x
  rw [List.set_append_right _ _ (by omega), Nat.add_sub_cancel_left, List.set_append_left _ _ (by rw [List.length_append, List.length_drop]; omega), List.set_append_right _ _ (by omega), hl, Nat.sub_self, List.drop_eq_getElem_cons hi, List.set_cons_zero] at this
  simpa using this

structure TkPost (P sg T ds : List Int) (t : Int) (w w' : World) (B : Nat) (ns : List Int) (top : Int) : Prop where
  len : ns.length = ds.length
  digs : Digs ns
  val : vz ns + 1000000000 ^ ds.length * top = vz sg - t * vz ds
  block : IntsB w' B (P ++ ((ns ++ [top]) ++ T))
  grown : w.grownBy w' (some B)
def TkEnd (P sg T ds : List Int) (t : Int) (w : World) (B : Nat) (e : Ending) (w' : World) : Prop := ∃ ns top, e = .returned (.bool (decide (top < 0))) ∧ TkPost P sg T ds t w w' B ns top

set_option maxRecDepth 100000 in
set_option maxHeartbeats 4000000 in
theorem takeAway_any (P sg T ds : List Int) (t : Nat) (B rc : Nat) (dv : Value) (w : World) (hb : IntsB w B (P ++ (sg ++ T))) (hsl : sg.length = ds.length + 1) (hrc : ds.length + 1 ≤ rc) (hds : ∀ W, w.grownBy W (some B) → SliceAt 1 intR W dv ds)
    (hsd : Digs sg) (hdd : Digs ds) (ht : t < 1000000000) (hl : ds.length ≤ 1000000) (hP : P.length ≤ 1000000) :
    Calls Tryd.prog 67 #[.slice (some ⟨B, P.length, none⟩) (ds.length + 1) rc, dv, .int .i64 (t : Nat)] w (TkEnd P sg T ds (t : Nat) w B) := by
  obtain ⟨a, cap, rfl⟩ := (hds w (grownBy_refl _ _)).len
  have HB := Lib.hid (show SgM P sg T w w B [] 0 from ⟨by simpa using hb, grownBy_refl _ _⟩)
  have HDS := Lib.hid hds
  have HSD := Lib.hid hsd
  have HDD := Lib.hid hdd
  have HSL := Lib.hid hsl
  clear hb hds hsd hdd hsl
  go_enter Tryd.func67, Tryd.ntmps67
  go_wp2_with fail
  go_loopw [7, 8, 9, 12] (fun cv _ _ iv wr => ∃ (i : Nat) (c : Int) (ns : List Int), cv = .int .i64 c ∧ iv = .int .i64 i ∧ i ≤ ds.length ∧ TkInv sg ds (t : Nat) ns i c ∧ SgM P sg T w wr B ns i) (fun _ _ _ iv _ => ds.length - (intOf iv).toNat)
  case atStart => exact ⟨0, 0, [], rfl, rfl, Nat.zero_le _, TkInv.start _ _ _, HB.out⟩
  case round =>
    obtain ⟨i, c, ns, rfl, rfl, hi, hI, hM⟩ := hrel
    have HI := Lib.hid hI
    have HM := Lib.hid hM
    have hc0 := hI.c0
    have hc1 := hI.c1
    by_cases hlt : i < ds.length
    · obtain ⟨b, off, cap', hv, hcap, hbw, hel⟩ := SliceAt.at (HDS.out wr hM.grown) (by omega)
      simp only [Value.slice.injEq] at hv
      obtain ⟨rfl, _, rfl⟩ := hv
      have hlts : i < sg.length := by rw [HSL.out]; omega
      have e0 := ints_cell hel i ds[i] (by simp [hlt])
      obtain ⟨k0, k1⟩ := hM.cell hI.len hlts
      obtain ⟨r0, r1⟩ := HSD.out sg[i] (List.getElem_mem hlts)
      obtain ⟨d0, d1⟩ := HDD.out ds[i] (List.getElem_mem hlt)
      have hset := fun q x => (hM.drewN q).set hI.len hlts x
      have hstep := fun (x c' : Int) h1 h2 h3 h4 => hI.step (x := x) (c' := c') hlts hlt h1 h2 h3 h4
      have HSET := Lib.hid hset
      have HSTEP := Lib.hid hstep
      clear hI hM hel hset hstep
      generalize sg[i] = r at *
      generalize ds[i] = d at *
      have m0 : 0 ≤ d * (t : Int) := Int.mul_nonneg d0 (by omega)
      have m1 : d * (t : Int) ≤ 999999999 * 999999999 := Int.mul_le_mul (by omega) (by omega) (by omega) (by omega)
      obtain ⟨m, hm⟩ : ∃ m, m = d * (t : Int) := ⟨_, rfl⟩
      rw [← hm] at HSTEP m0 m1
      have p1 : IntKind.i64.wrap (d * (t : Int)) = m := by rw [← hm]; exact IntWalk.i64_in _ (by omega)
      clear hm
      have hmd0 := Int.emod_nonneg m (show (1000000000 : Int) ≠ 0 by decide)
      have hmd1 := Int.emod_lt_of_pos m (show (0 : Int) < 1000000000 by decide)
      have p2 : m.tmod 1000000000 = m % 1000000000 := Int.tmod_eq_emod_of_nonneg m0
      have p4 : m.tdiv 1000000000 = m / 1000000000 := Int.tdiv_eq_ediv_of_nonneg m0
      have hq : m = 1000000000 * (m / 1000000000) + m % 1000000000 := by omega
      have HQ := Lib.hid hq
      have q0 : 0 ≤ m / 1000000000 := by omega
      have q1 : m / 1000000000 ≤ 999999998 := by omega
      clear hq
      obtain ⟨md, hmd⟩ : ∃ md, md = m % 1000000000 := ⟨_, rfl⟩
      obtain ⟨mq, hmq⟩ : ∃ mq, mq = m / 1000000000 := ⟨_, rfl⟩
      rw [← hmd] at HQ hmd0 hmd1 p2
      rw [← hmq] at HQ q0 q1 p4
      have p3 : IntKind.i64.wrap (r - md) = r - md := IntWalk.i64_in _ (by omega)
      have p5 : IntKind.i64.wrap (r - md - c) = r - md - c := IntWalk.i64_in _ (by omega)
      have p6 : IntKind.i64.wrap md = md := IntWalk.i64_in _ (by omega)
      have p7 : IntKind.i64.wrap mq = mq := IntWalk.i64_in _ (by omega)
      clear hmd hmq
      go_upto_region 5 with fail
      go_quiet (fail)
      clear p3 p5
      go_upto_region 7 with fail
      generalize hy : r - md - c = y at *
      have y0 : -2000000000 < y := by omega
      have y1 : y < 1000000000 := by omega
      have HY := Lib.hid hy
      clear hy p1 p2 p4 p6 p7 m0 m1
      rcases Int.lt_or_le y 0 with g | g
      · rcases Int.lt_or_le y (-1000000000) with g2 | g2
        · have g3 : y + 1000000000 < 0 := by omega
          go_wp2_with fail
          go_roundw
          case rel => exact ⟨i + 1, mq + 1 + 1, _, rfl, by go_num, by omega, HSTEP.out _ _ (by omega) (by omega) (by omega) (by have := HY.out; have := HQ.out; omega), HSET.out _ _⟩
          case measure => simp [intOf]; omega
        · have g3 : 0 ≤ y + 1000000000 := by omega
          go_wp2_with fail
          go_roundw
          case rel => exact ⟨i + 1, mq + 1, _, rfl, by go_num, by omega, HSTEP.out _ _ (by omega) (by omega) (by omega) (by have := HY.out; have := HQ.out; omega), HSET.out _ _⟩
          case measure => simp [intOf]; omega
      · go_wp2_with fail
        go_roundw
        case rel => exact ⟨i + 1, mq, _, rfl, by go_num, by omega, HSTEP.out _ _ (by omega) (by omega) (by omega) (by have := HY.out; have := HQ.out; omega), HSET.out _ _⟩
        case measure => simp [intOf]; omega
    · obtain rfl : ds.length = i := by omega
      have hlts : ds.length < sg.length := by rw [HSL.out]; omega
      obtain ⟨k0, k1⟩ := hM.cell hI.len hlts
      obtain ⟨r0, r1⟩ := HSD.out sg[ds.length] (List.getElem_mem hlts)
      have hset := hM.set hI.len hlts (sg[ds.length] - c)
      have HPO : Hid (TkPost P sg T ds (t : Nat) w (wr.setCell ⟨B, P.length + ds.length, none⟩ (.int .i64 (sg[ds.length] - c))) B ns (sg[ds.length] - c)) := Lib.hid (by
        refine ⟨hI.len, hI.digs, ?_, ?_, hset.grown⟩
        · have e := hI.eq
          have h1 := vz_take sg ds.length hlts
          rw [List.take_of_length_le (by have := HSL.out; omega)] at h1
          rw [List.take_length] at e
          rw [h1, Int.mul_sub]
          generalize (1000000000 : Int) ^ ds.length = p at *
          rw [Int.mul_comm c p] at e
          omega
        · have h2 := hset.block
          rw [List.drop_of_length_le (by have := HSL.out; omega), List.append_nil] at h2
          exact h2)
      clear hI hM hset
      generalize sg[ds.length] = r at *
      have p1 : IntKind.i64.wrap (r - c) = r - c := IntWalk.i64_in _ (by omega)
      have h0 : ds.length < ds.length + 1 := by omega
      go_wp2_with fail
      go_ret
      exact ⟨ns, _, rfl, HPO.out⟩

/-- 'putBack' behind takeAway -/
structure PbPost (P sg T ds : List Int) (top : Int) (w w' : World) (B : Nat) (ns : List Int) (top' : Int) : Prop where
  len : ns.length = ds.length
  digs : Digs ns
  val : vz ns + 1000000000 ^ ds.length * top' = vz sg + 1000000000 ^ ds.length * top + vz ds
  block : IntsB w' B (P ++ ((ns ++ [top']) ++ T))
  grown : w.grownBy w' (some B)
def PbEnd (P sg T ds : List Int) (top : Int) (w : World) (B : Nat) (e : Ending) (w' : World) : Prop := ∃ ns top', e = .returned (.tuple #[]) ∧ PbPost P sg T ds top w w' B ns top'

set_option maxRecDepth 100000 in
set_option maxHeartbeats 4000000 in
theorem putBack_any (P sg T ds : List Int) (top : Int) (B rc : Nat) (dv : Value) (w : World) (hb : IntsB w B (P ++ ((sg ++ [top]) ++ T))) (hsl : sg.length = ds.length) (hrc : ds.length + 1 ≤ rc) (hds : ∀ W, w.grownBy W (some B) → SliceAt 1 intR W dv ds)
    (hsd : Digs sg) (hdd : Digs ds) (ht0 : -10 ≤ top) (ht1 : top ≤ 10) (hl : ds.length ≤ 1000000) (hP : P.length ≤ 1000000) :
    Calls Tryd.prog 68 #[.slice (some ⟨B, P.length, none⟩) (ds.length + 1) rc, dv] w (PbEnd P sg T ds top w B) := by
  obtain ⟨a, cap, rfl⟩ := (hds w (grownBy_refl _ _)).len
  have HB := Lib.hid (show SgM P (sg ++ [top]) T w w B [] 0 from ⟨by simpa using hb, grownBy_refl _ _⟩)
  have HDS := Lib.hid hds
  have HSD := Lib.hid hsd
  have HDD := Lib.hid hdd
  have HSL := Lib.hid hsl
  clear hb hds hsd hdd hsl
  go_enter Tryd.func68, Tryd.ntmps68
  go_wp2_with fail
  go_loopw [4, 5, 6, 9] (fun cv _ _ iv wr => ∃ (i : Nat) (c : Int) (ns : List Int), cv = .int .i64 c ∧ iv = .int .i64 i ∧ i ≤ ds.length ∧ PbInv sg ds ns i c ∧ SgM P (sg ++ [top]) T w wr B ns i) (fun _ _ _ iv _ => ds.length - (intOf iv).toNat)
  case atStart => exact ⟨0, 0, [], rfl, rfl, Nat.zero_le _, PbInv.start _ _, HB.out⟩
  case round =>
    obtain ⟨i, c, ns, rfl, rfl, hi, hI, hM⟩ := hrel
    have hc0 := hI.c0
    have hc1 := hI.c1
    by_cases hlt : i < ds.length
    · obtain ⟨b, off, cap', hv, hcap, hbw, hel⟩ := SliceAt.at (HDS.out wr hM.grown) (by omega)
      simp only [Value.slice.injEq] at hv
      obtain ⟨rfl, _, rfl⟩ := hv
      have hlts : i < sg.length := by rw [HSL.out]; omega
      have hlts2 : i < (sg ++ [top]).length := by rw [List.length_append]; omega
      have e0 := ints_cell hel i ds[i] (by simp [hlt])
      obtain ⟨k0, k1⟩ := hM.cell hI.len hlts2
      rw [List.getElem_append_left hlts] at k0
      obtain ⟨r0, r1⟩ := HSD.out sg[i] (List.getElem_mem hlts)
      obtain ⟨d0, d1⟩ := HDD.out ds[i] (List.getElem_mem hlt)
      have hset := fun q x => (hM.drewN q).set hI.len hlts2 x
      have hstep := hI.step hlts hlt ⟨r0, r1⟩ ⟨d0, d1⟩
      have HSET := Lib.hid hset
      have HSTEP := Lib.hid hstep
      clear hI hM hel hset hstep
      generalize sg[i] = r at *
      generalize ds[i] = d at *
      have p1 : IntKind.i64.wrap (r + d) = r + d := IntWalk.i64_in _ (by omega)
      have p2 : IntKind.i64.wrap (r + d + c) = r + d + c := IntWalk.i64_in _ (by omega)
      have m0 : 0 ≤ r + d + c := by omega
      have m1 : r + d + c ≤ 2000000000 := by omega
      go_upto_region 4 with fail
      go_quiet (fail)
      clear p1 p2
      generalize r + d + c = y at *
      go_wp2_with fail
      go_roundw
      case rel => exact ⟨i + 1, _, _, rfl, by go_num, by omega, HSTEP.out, HSET.out _ _⟩
      case measure => simp [intOf]; omega
    · obtain rfl : ds.length = i := by omega
      have hlts2 : ds.length < (sg ++ [top]).length := by rw [List.length_append, HSL.out]; simp
      obtain ⟨k0, k1⟩ := hM.cell hI.len hlts2
      have htop : (sg ++ [top])[ds.length] = top := by
        rw [List.getElem_append_right (by rw [HSL.out]; exact Nat.le_refl _)]
        simp
      rw [htop] at k0
      have hset := hM.set hI.len hlts2 (top + c)
      have HPO : Hid (PbPost P sg T ds top w (wr.setCell ⟨B, P.length + ds.length, none⟩ (.int .i64 (top + c))) B ns (top + c)) := Lib.hid (by
        refine ⟨hI.len, hI.digs, ?_, ?_, hset.grown⟩
        · have e := hI.eq
          rw [List.take_length, List.take_of_length_le (by rw [HSL.out]; exact Nat.le_refl _)] at e
          rw [Int.mul_add]
          generalize (1000000000 : Int) ^ ds.length = p at *
          rw [Int.mul_comm c p] at e
          omega
        · have h2 := hset.block
          rw [List.drop_of_length_le (by rw [List.length_append, HSL.out]; simp), List.append_nil] at h2
          exact h2)
      clear hI hM hset htop
      have p1 : IntKind.i64.wrap (top + c) = top + c := IntWalk.i64_in _ (by omega)
      have h0 : ds.length < ds.length + 1 := by omega
      go_wp2_with fail
      go_end0
      exact ⟨ns, _, rfl, HPO.out⟩

end Go.Proofs.YtfoehmieklldkaaDoor
