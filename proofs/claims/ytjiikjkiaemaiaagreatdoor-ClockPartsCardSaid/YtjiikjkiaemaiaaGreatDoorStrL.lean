/- Strings cut and split, in a seat of calendars; level's readers at a text that is none. -/
import Derived.Test.YtjiikjkiaemaiaaGreatDoorCalChk
import Derived.Test.YtjiikjkiaemaiaaGreatDoorPpLaw
import Derived.Test.YtjiikjkiaemaiaaGreatDoorShelf
namespace Go.Proofs.YtjiikjkiaemaiaaGreatDoor
open Go.RowKit

def bs (l : List UInt8) : ByteArray := ⟨l.toArray⟩
theorem bs_data (l : List UInt8) : (bs l).data.toList = l := rfl
theorem bs_size (l : List UInt8) : (bs l).size = l.length := by simp [bs, ByteArray.size]
theorem bs_inj {a b : ByteArray} (h : a.data.toList = b.data.toList) : a = b := by
  cases a; cases b
  simp only at h
  congr 1
  exact Array.toList_inj.1 h
def EnvM (w : World) : Prop := ∃ m, w.cell? ⟨0, 0, none⟩ = some (.int .i64 m)
theorem EnvM.below {w w' : World} (h : EnvM w) (hb : Below w.heap.size w w') : EnvM w' := by
  obtain ⟨m, hm⟩ := h
  exact ⟨m, (below_cell hb (World.block_lt_of_cell? w _ hm)).trans hm⟩
theorem cut_any (l : List UInt8) (c : UInt8) (hl : l.length < 4294967281) (w : World) (hE : EnvM w) :
    Calls Tryz.prog 14 #[.string (bs l), .string ⟨#[c]⟩] w fun e w' => e = .returned (.tuple #[.string (bs (Lib.cut l [c]).1), .string (bs (Lib.cut l [c]).2.1), .bool (Lib.cut l [c]).2.2]) ∧ Below w.heap.size w w' := by
  obtain ⟨m, hm⟩ := hE
  exact (Tryz.strings_Cut (bs l) ⟨#[c]⟩ m w (by rw [bs_size]; exact hl) hm).mono fun _ _ ⟨h, n, hw⟩ => ⟨h, by rw [hw]; exact drewN_below (Below.refl _ _) n⟩
def wordV (x : List UInt8) : Value := .string (bs x)
theorem map_inj_data : ∀ {a b : List ByteArray}, a.map (fun x => x.data.toList) = b.map (fun x => x.data.toList) → a = b
  | [], [], _ => rfl
  | [], _ :: _, h => by simp at h
  | _ :: _, [], h => by simp at h
  | x :: a, y :: b, h => by
    simp only [List.map_cons, List.cons.injEq] at h
    rw [bs_inj h.1, map_inj_data h.2]
theorem split_words (w0 : List UInt8) (ws : List (List UInt8)) (hc : ∀ x ∈ w0 :: ws, (32 : UInt8) ∉ x) (hl : (Lib.join (w0 :: ws) [32]).length ≤ 1000000) (w : World) (hE : EnvM w) :
    Calls Tryz.prog 26 #[.string (bs (Lib.join (w0 :: ws) [32])), .string ⟨#[32]⟩] w fun e w' =>
      e = .returned (.slice (some ⟨w.heap.size, 0, none⟩) (ws.length + 1) (ws.length + 1)) ∧ w' = w.alloc (.cells ((w0 :: ws).map wordV).toArray 9) := by
  obtain ⟨m, hm⟩ := hE
  have c := Tryz.strings_Split (bs (Lib.join (w0 :: ws) [32])) ⟨#[32]⟩ m w (by rw [bs_size]; omega) hm (by decide)
  obtain ⟨h1, h2⟩ := split_join w0 ws hc
  have hs : Lib.splitB ⟨#[32]⟩ 0 (Lib.countB (bs (Lib.join (w0 :: ws) [32])) ⟨#[32]⟩) (bs (Lib.join (w0 :: ws) [32])) = (w0 :: ws).map bs := by
    refine map_inj_data ?_
    rw [Lib.splitB_data]
    show Lib.splitK [32] 0 (Lib.count (Lib.join (w0 :: ws) [32]) [32]) (Lib.join (w0 :: ws) [32]) = _
    rw [h1, List.map_map]
    exact (List.map_id' _).symm
  have hn : Lib.countB (bs (Lib.join (w0 :: ws) [32])) ⟨#[32]⟩ = ws.length := by
    have h := Lib.splitB_all ⟨#[32]⟩ (by decide) 0 _ (bs (Lib.join (w0 :: ws) [32])) rfl
    rw [hs, List.length_map, List.length_cons] at h
    omega
  rw [hs, hn, List.map_map] at c
  exact c
set_option maxRecDepth 100000 in
set_option maxHeartbeats 2000000 in
theorem line_x (P : Nat) (w : World) (hE : EnvM w) :
    Calls Tryz.prog 15 #[.pointer (some ⟨P, 0, none⟩), .string ⟨#[120]⟩, .bool true] w fun e w' => e = .returned (.bool false) ∧ Below w.heap.size w w' := by
  have hsp := split_words [120] [] (by simp) (by decide) w hE
  have hb := box1 w (([[120]] : List (List UInt8)).map wordV).toArray 9
  have HB := Lib.hid hb.2
  have c0 : (w.alloc (.cells (([[120]] : List (List UInt8)).map wordV).toArray 9)).cell? ⟨w.heap.size, 0, none⟩ = some (.string ⟨#[120]⟩) := hb.1.cell 0
  have hsp : Calls Tryz.prog 26 #[.string ⟨#[120]⟩, .string ⟨#[32]⟩] w fun e w' => e = .returned (.slice (some ⟨w.heap.size, 0, none⟩) 1 1) ∧ w' = w.alloc (.cells (([[120]] : List (List UInt8)).map wordV).toArray 9) := hsp
  generalize w.alloc (.cells (([[120]] : List (List UInt8)).map wordV).toArray 9) = w2 at *
  have HSP := Lib.hid hsp
  clear hb hsp
  go_enter Tryz.func15, Tryz.ntmps15
  go_wp2_with fail
  refine HSP.out.mono ?_
  rintro e w3 ⟨rfl, rfl⟩
  go_wp2_with fail
  go_ret
  exact ⟨rfl, HB.out⟩
theorem results_cell_tmps_row {P : Program} {fn : Func} {p u v : Tmp} {ty : TypeId} (h : fn.results = #[.cell p ty, .tmp u, .tmp v]) (tmps : Array Value) (w : World) (g : Nat) (t : TypeId) (cs : Array Value) (fr : Nat × Nat) (d : TypeDesc)
    (hp : tmps.getD p undef = .pointer (some ⟨g, 0, none⟩)) (hg : w.heap[g]? = some (.cells cs t fr))
    (hu : P.underlying ty = some d) (hd : (match d with | .struct _ | .array _ _ => true | _ => false) = true) (hi : (P.info? ty).map (·.size) = some cs.size) :
    (results fn tmps).run P w = .ok (.tuple #[.agg cs, tmps.getD u undef, tmps.getD v undef]) w := by
  have hp' : tmps[p]?.getD undef = .pointer (some ⟨g, 0, none⟩) := by simpa using hp
  simp [results, h, Sem.run_bind, Result.andThen, hp', asAddr, run_loadVar_row w g t ty cs fr d hg hu hd hi]
theorem infoPol : (Tryz.prog.info? 41).map (·.size) = some 2 := by kernel_rfl
set_option maxRecDepth 100000 in
set_option maxHeartbeats 4000000 in
theorem ReadPolicy_x (w : World) (hE : EnvM w) :
    Calls Tryz.prog 7 #[.string ⟨#[120]⟩] w fun e w' => e = .returned (.tuple #[.agg #[.slice none 0 0, .slice none 0 0], .int .i64 1, .int .i64 8]) ∧ Below w.heap.size w w' := by
  have HE := Lib.hid hE
  have hcu := fun W hW => cut_any [120] 10 (by decide) W hW
  rw [show Lib.cut [120] [10] = ([120], [], false) from cut_none 10 [120] (by decide)] at hcu
  have htn : (⟨#[120]⟩ : ByteArray).toList.isEmpty = false := by rw [ByteArray.toList_eq]; rfl
  have x1 := Has.new w #[.slice none 0 0, .slice none 0 0] 41
  have x2 := (Below.refl w.heap.size w).alloc (Nat.le_refl _) (.cells #[.slice none 0 0, .slice none 0 0] 41)
  have hz : (w.alloc (.cells #[.slice none 0 0, .slice none 0 0] 41)).heap.size = w.heap.size + 1 := by simp
  have y2 := (Below.refl (w.alloc (.cells #[.slice none 0 0, .slice none 0 0] 41)).heap.size (w.alloc (.cells #[.slice none 0 0, .slice none 0 0] 41))).alloc (Nat.le_refl _) (.cells #[.slice none 0 0, .slice none 0 0] 41)
  have HX := Lib.hid (x1.alloc (.cells #[.slice none 0 0, .slice none 0 0] 41))
  have HB := Lib.hid (below_up x2 y2 x2.size)
  have HLX := Lib.hid (fun P W hW => line_x P W hW)
  obtain ⟨T, hT⟩ : ∃ T : ByteArray, T = ⟨#[120]⟩ := ⟨_, rfl⟩
  have q0 : decide (400000 < (T.size : Int)) = false := by rw [hT]; decide
  have q1 : decide (400000 < T.size) = false := by rw [hT]; decide
  have hcu2 : (∀ W, EnvM W → Calls Tryz.prog 14 #[.string T, .string ⟨#[10]⟩] W fun e w' => e = .returned (.tuple #[.string T, .string ⟨#[]⟩, .bool false]) ∧ Below W.heap.size W w') := by rw [hT]; exact hcu
  have HCU := Lib.hid hcu2
  rw [← hT] at htn HLX ⊢
  clear hcu hcu2 hT hE x1 x2 y2 hz
  go_enter Tryz.func7, Tryz.ntmps7
  go_upto_region 4 with fail
  generalize (w.alloc (.cells #[.slice none 0 0, .slice none 0 0] 41)).alloc (.cells #[.slice none 0 0, .slice none 0 0] 41) = w2 at *
  go_wp2_with fail
  go_loopw [0, 6] (fun sv av wx => sv = .string T ∧ av = .int .i64 1 ∧ wx = w2) (fun _ _ _ => 0)
  case atStart => exact ⟨rfl, rfl, rfl⟩
  case round =>
    obtain ⟨rfl, rfl, rfl⟩ := hrel
    go_wp2_with fail
    refine (HCU.out wr (HE.out.below HB.out)).mono ?_
    rintro e w3 ⟨rfl, hb3⟩
    have HB3 := Lib.hid (below_up HB.out hb3 HB.out.size)
    have HX3 := Lib.hid (HX.out.below hb3 HX.out.lt)
    clear hb3 HCU HX HB
    go_wp2_with fail
    refine (HLX.out _ w3 (HE.out.below HB3.out)).mono ?_
    rintro e w4 ⟨rfl, hb4⟩
    have HB4 := Lib.hid (below_up HB3.out hb4 HB3.out.size)
    have HX4 := Lib.hid (HX3.out.below hb4 HX3.out.lt)
    clear hb4 HX3 HB3
    have r0 := HX4.out.cell 0
    have r1 := HX4.out.cell 1
    have f0 := HX4.out.fz 0
    have f1 := HX4.out.fz 1
    have HZ := Lib.hid (show Has _ w.heap.size #[.slice none 0 0, .slice none 0 0] 41 from (HX4.out.set 0 (.slice none 0 0)).set 1 (.slice none 0 0))
    have HBZ := Lib.hid ((HB4.out.setCell (p := ⟨w.heap.size, 0, none⟩) (Nat.le_refl _) (.slice none 0 0)).setCell (p := ⟨w.heap.size, 1, none⟩) (Nat.le_refl _) (.slice none 0 0))
    go_wp2_with fail
    try simp only [Exit.inBlock, Exit.then]
    refine bodyPost_ret (results_cell_tmps_row rfl _ _ w.heap.size _ _ (0, 0) _ rfl HZ.out Tryz.underlying41 rfl infoPol) rfl ?_
    exact ⟨rfl, HBZ.out⟩
set_option maxRecDepth 100000 in
theorem awakeLevel_any (w : World) (hE : EnvM w) : Calls Tryz.prog 4 #[] w fun e w' => e = .returned (.bool true) ∧ Below w.heap.size w w' := by
  go_enter Tryz.func4, Tryz.ntmps4
  go_wp2_with fail
  refine (ReadPolicy_x w hE).mono ?_
  rintro e w1 ⟨rfl, hb⟩
  have HB := Lib.hid (below_up hb (box1 w1 #[.slice none 0 0, .slice none 0 0] 41).2 hb.size)
  clear hb
  go_wp2_with fail
  go_ret
  exact ⟨rfl, HB.out⟩
end Go.Proofs.YtjiikjkiaemaiaaGreatDoor
