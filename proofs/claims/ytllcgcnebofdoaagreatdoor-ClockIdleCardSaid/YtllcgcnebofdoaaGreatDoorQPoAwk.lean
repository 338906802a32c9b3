/- level's readers at a text that is none. -/
import Derived.Test.YtllcgcnebofdoaaGreatDoorQMNum
import Derived.Test.YtllcgcnebofdoaaGreatDoorQCalChk
namespace Go.Proofs.YtllcgcnebofdoaaGreatDoor
open Go.RowKit

set_option maxRecDepth 100000 in
set_option maxHeartbeats 2000000 in
theorem line_x (P : Nat) (w : World) (hE : Env w) :
    Calls Tryz.prog 40 #[.pointer (some ⟨P, 0, none⟩), .string ⟨#[120]⟩, .bool true] w fun e w' => e = .returned (.bool false) ∧ Below w.heap.size w w' := by
  have hsp : Calls Tryz.prog 25 #[.string ⟨#[120]⟩, .string ⟨#[32]⟩] w fun e w' => e = .returned (.slice (some ⟨w.heap.size, 0, none⟩) 1 1) ∧ Below w.heap.size w w' ∧ WordsB w' w.heap.size [[120]] := split_words [120] [] (by simp) (by decide) w hE
  have HSP := Lib.hid hsp
  clear hsp
  go_enter Tryz.func40, Tryz.ntmps40
  go_wp2_with fail
  refine HSP.out.mono ?_
  rintro e w3 ⟨rfl, hb3, hw3⟩
  have c0 : w3.cell? ⟨w.heap.size, 0, none⟩ = some (.string ⟨#[120]⟩) := hw3.cell 0 (by simp)
  have HB := Lib.hid hb3
  clear hb3 hw3
  go_wp2_with fail
  go_ret
  exact ⟨rfl, HB.out⟩
theorem results_cell_tmps_row {P : Program} {fn : Func} {p u v : Tmp} {ty : TypeId} (h : fn.results = #[.cell p ty, .tmp u, .tmp v]) (tmps : Array Value) (w : World) (g : Nat) (t : TypeId) (cs : Array Value) (fr : Nat × Nat) (d : TypeDesc)
    (hp : tmps.getD p undef = .pointer (some ⟨g, 0, none⟩)) (hg : w.heap[g]? = some (.cells cs t fr))
    (hu : P.underlying ty = some d) (hd : (match d with | .struct _ | .array _ _ => true | _ => false) = true) (hi : (P.info? ty).map (·.size) = some cs.size) :
    (results fn tmps).run P w = .ok (.tuple #[.agg cs, tmps.getD u undef, tmps.getD v undef]) w := by
  have hp' : tmps[p]?.getD undef = .pointer (some ⟨g, 0, none⟩) := by simpa using hp
  simp [results, h, Sem.run_bind, Result.andThen, hp', asAddr, run_loadVar_row w g t ty cs fr d hg hu hd hi]
theorem infoPol : (Tryz.prog.info? 25).map (·.size) = some 2 := by kernel_rfl
set_option maxRecDepth 100000 in
set_option maxHeartbeats 4000000 in
theorem ReadPolicy_x (w : World) (hE : Env w) :
    Calls Tryz.prog 17 #[.string ⟨#[120]⟩] w fun e w' => e = .returned (.tuple #[.agg #[.slice none 0 0, .slice none 0 0], .int .i64 1, .int .i64 8]) ∧ Below w.heap.size w w' := by
  have HE := Lib.hid hE
  have hcu := fun W hW => strcut_any [120] 10 (by decide) W hW
  rw [show Lib.cut [120] [10] = ([120], [], false) from cut_none 10 [120] (by decide)] at hcu
  have htn : (⟨#[120]⟩ : ByteArray).toList.isEmpty = false := by rw [ByteArray.toList_eq]; rfl
  have x1 := Has.new w #[.slice none 0 0, .slice none 0 0] 25
  have x2 := (Below.refl w.heap.size w).alloc (Nat.le_refl _) (.cells #[.slice none 0 0, .slice none 0 0] 25)
  have hz : (w.alloc (.cells #[.slice none 0 0, .slice none 0 0] 25)).heap.size = w.heap.size + 1 := by simp
  have y2 := (Below.refl (w.alloc (.cells #[.slice none 0 0, .slice none 0 0] 25)).heap.size (w.alloc (.cells #[.slice none 0 0, .slice none 0 0] 25))).alloc (Nat.le_refl _) (.cells #[.slice none 0 0, .slice none 0 0] 25)
  have HX := Lib.hid (x1.alloc (.cells #[.slice none 0 0, .slice none 0 0] 25))
  have HB := Lib.hid (below_up x2 y2 x2.size)
  have HLX := Lib.hid (fun P W hW => line_x P W hW)
  obtain ⟨T, hT⟩ : ∃ T : ByteArray, T = ⟨#[120]⟩ := ⟨_, rfl⟩
  have q0 : decide (400000 < (T.size : Int)) = false := by rw [hT]; decide
  have q1 : decide (400000 < T.size) = false := by rw [hT]; decide
  have hcu2 : (∀ W, Env W → Calls Tryz.prog 39 #[.string T, .string ⟨#[10]⟩] W fun e w' => e = .returned (.tuple #[.string T, .string ⟨#[]⟩, .bool false]) ∧ Below W.heap.size W w') := by rw [hT]; exact hcu
  have HCU := Lib.hid hcu2
  rw [← hT] at htn HLX ⊢
  clear hcu hcu2 hT hE x1 x2 y2 hz
  go_enter Tryz.func17, Tryz.ntmps17
  go_upto_region 4 with fail
  generalize (w.alloc (.cells #[.slice none 0 0, .slice none 0 0] 25)).alloc (.cells #[.slice none 0 0, .slice none 0 0] 25) = w2 at *
  go_wp2_with fail
  go_loopw [0, 6] (fun sv av wx => sv = .string T ∧ av = .int .i64 1 ∧ wx = w2) (fun _ _ _ => 0)
  case atStart => exact ⟨rfl, rfl, rfl⟩
  case round =>
    obtain ⟨rfl, rfl, rfl⟩ := hrel
    go_wp2_with fail
    refine (HCU.out wr (HE.out.below HB.out)).mono ?_
    rintro e w3 ⟨rfl, hb3⟩
    have HB3 := Lib.hid (below_up HB.out hb3 HB.out.size)
    have HX3 := Lib.hid (HX.out.below hb3 HX.out.lt)
    clear hb3 HCU HX HB
    go_wp2_with fail
    refine (HLX.out _ w3 (HE.out.below HB3.out)).mono ?_
    rintro e w4 ⟨rfl, hb4⟩
    have HB4 := Lib.hid (below_up HB3.out hb4 HB3.out.size)
    have HX4 := Lib.hid (HX3.out.below hb4 HX3.out.lt)
    clear hb4 HX3 HB3
    have r0 := HX4.out.cell 0
    have r1 := HX4.out.cell 1
    have f0 := HX4.out.fz 0
    have f1 := HX4.out.fz 1
    have HZ := Lib.hid (show Has _ w.heap.size #[.slice none 0 0, .slice none 0 0] 25 from (HX4.out.set 0 (.slice none 0 0)).set 1 (.slice none 0 0))
    have HBZ := Lib.hid ((HB4.out.setCell (p := ⟨w.heap.size, 0, none⟩) (Nat.le_refl _) (.slice none 0 0)).setCell (p := ⟨w.heap.size, 1, none⟩) (Nat.le_refl _) (.slice none 0 0))
    go_wp2_with fail
    try simp only [Exit.inBlock, Exit.then]
    refine bodyPost_ret (results_cell_tmps_row rfl _ _ w.heap.size _ _ (0, 0) _ rfl HZ.out Tryz.underlying25 rfl infoPol) rfl ?_
    exact ⟨rfl, HBZ.out⟩
set_option maxRecDepth 100000 in
theorem awakeLevel_any (w : World) (hE : Env w) : Calls Tryz.prog 6 #[] w fun e w' => e = .returned (.bool true) ∧ Below w.heap.size w w' := by
  go_enter Tryz.func6, Tryz.ntmps6
  go_wp2_with fail
  refine (ReadPolicy_x w hE).mono ?_
  rintro e w1 ⟨rfl, hb⟩
  have HB := Lib.hid (below_up hb (box1 w1 #[.slice none 0 0, .slice none 0 0] 25).2 hb.size)
  clear hb
  go_wp2_with fail
  go_ret
  exact ⟨rfl, HB.out⟩
end Go.Proofs.YtllcgcnebofdoaaGreatDoor
