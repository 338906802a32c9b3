/- The walks of cal's zones: parts. -/
import Derived.Test.YtemikhnkjligdaaGreatDoorQZone3
import Derived.Laws.OwnMore
import Derived.RangeFuncBox
namespace Go.Proofs.YtemikhnkjligdaaGreatDoor
open Go.RowKit

def partCells (p : Pt) : List Value := [.int .i64 p.f, .int .i64 p.t, .int .i64 p.o]
def rowOf (l : List Pt) : List Value := l.flatMap partCells
theorem rowOf_length (l : List Pt) : (rowOf l).length = l.length * 3 := by
  induction l with
  | nil => rfl
  | cons p r ih => unfold rowOf at ih ⊢; rw [List.flatMap_cons, List.length_append, ih]; simp [partCells]; omega
theorem rowOf_snoc (l : List Pt) (p : Pt) : rowOf (l ++ [p]) = rowOf l ++ partCells p := by
  unfold rowOf; rw [List.flatMap_append]; simp
theorem rowOf_end (a : Int) : ∀ (l : List Pt), l ≠ [] → (rowOf l).set ((l.length - 1) * 3 + 1) (.int .i64 a) = rowOf (endAt a l)
  | [], h => absurd rfl h
  | [p], _ => rfl
  | p :: q :: r, _ => by
    have ih := rowOf_end a (q :: r) (by simp)
    have e1 : rowOf (p :: q :: r) = partCells p ++ rowOf (q :: r) := rfl
    have e2 : rowOf (endAt a (p :: q :: r)) = partCells p ++ rowOf (endAt a (q :: r)) := rfl
    rw [e1, e2, ← ih]
    simp only [List.length_cons]
    rw [List.set_append_right _ _ (by simp [partCells]; omega)]
    congr 2
    simp [partCells]; omega
theorem endAt_length (a : Int) : ∀ l : List Pt, (endAt a l).length = l.length
  | [] => rfl
  | [_] => rfl
  | p :: q :: r => by simp only [endAt, List.length_cons, endAt_length a (q :: r)]
theorem infoPart : (Tryz.prog.info? 192).map (fun i => (i.zero, i.size, i.bytes)) = some (some (.agg #[.int .i64 0, .int .i64 0, .int .i64 0]), 3, 24) := by kernel_rfl

structure PaInv (off : Int) (cs : List (Int × Int)) (w wr : World) (lv : Value) (i : Nat) : Prop where
  le : i ≤ cs.length
  own : wr.ownsRow w.heap.size 192 3 lv (i + 1) (rowOf (prts 0 off (cs.take i)))
  below : Below w.heap.size w wr
def PartsPost (off : Int) (cs : List (Int × Int)) (w : World) (e : Ending) (w' : World) : Prop :=
  ∃ a c, e = .returned (.slice a (cs.length + 1) c) ∧ w'.ownsRow w.heap.size 192 3 (.slice a (cs.length + 1) c) (cs.length + 1) (rowOf (prts 0 off cs)) ∧ Below w.heap.size w w'

set_option maxRecDepth 100000 in
set_option maxHeartbeats 4000000 in
theorem parts_any (off : Int) (v : Value) (cs : List (Int × Int)) (w : World) (h : Changes w v cs) (hl : cs.length ≤ 60) :
    Calls Tryz.prog 124 #[.agg #[.int .i64 off, v]] w (PartsPost off cs w) := by
  obtain ⟨a, cap, rfl⟩ := SliceAt.len h
  have H := Lib.hid h
  clear h
  have hbx := box1 w #[.int .i64 off, .slice a cs.length cap] 73
  go_enter Tryz.func124, Tryz.ntmps124
  go_upto_region 1 with fail
  generalize w.alloc (.cells #[.int .i64 off, .slice a cs.length cap] 73) = w2 at *
  obtain ⟨hx, hbl⟩ := hbx
  have k0 := hx.cell 0
  have k1 := hx.cell 1
  have hlt0 := hx.lt
  have hown := World.ownsRow_lit (base := w.heap.size) (e := 192) (size := 3) w2 #[.int .i64 0, .int .i64 3000001, .int .i64 off] 1 hbl.size (by unfold maxLen; omega) rfl
  have HOWN := Lib.hid hown
  have HB3 := Lib.hid (hbl.alloc hbl.size (.cells #[.int .i64 0, .int .i64 3000001, .int .i64 off] 192))
  clear hx hbl hown
  go_wp2_with fail
  generalize w2.alloc (.cells #[.int .i64 0, .int .i64 3000001, .int .i64 off] 192) = w3 at *
  go_loopw [3, 5, 13] (fun lv _ iv wr => ∃ i : Nat, iv = .int .i64 i ∧ PaInv off cs w wr lv i) (fun _ _ iv _ => cs.length - (intOf iv).toNat)
  case atStart => exact ⟨0, rfl, Nat.zero_le _, HOWN.out, HB3.out⟩
  case round =>
    obtain ⟨i, rfl, hI⟩ := hrel
    have HI := Lib.hid hI
    have hi := hI.le
    clear hI
    by_cases hlt : i < cs.length
    · obtain ⟨b, of', cap', hv, hb, hel⟩ := H.out.at (by omega)
      cases hv
      obtain ⟨e0, e1⟩ := hel i hlt
      have c0 := (below_cell HI.out.below hb).trans e0
      have c1 := (below_cell HI.out.below hb).trans e1
      have htk : cs.take (i + 1) = cs.take i ++ [cs[i]] := List.take_succ_eq_append_getElem hlt
      have hps : (prts 0 off (cs.take i)).length = i + 1 := by rw [prts_length, List.length_take]; omega
      generalize cs[i] = x at *
      obtain ⟨ca, co⟩ := x
      simp only at c0 c1
      have hrow : (rowOf (prts 0 off (cs.take i))).set (i * 3 + 1) (.int .i64 ca) ++ partCells ⟨ca, 3000001, co⟩ = rowOf (prts 0 off (cs.take (i + 1))) := by
        rw [htk, prts_snoc, rowOf_snoc, ← rowOf_end ca _ (prts_ne _ _ _), hps]
        rfl
      have HROW := Lib.hid hrow
      obtain ⟨g, cg, rfl⟩ := ownsRow_succ HI.out.own
      have hown := HI.out.own.alloc (.cells #[.int .i64 ca, .int .i64 co] 136)
      have hwb := HI.out.below.alloc HI.out.below.size (.cells #[.int .i64 ca, .int .i64 co] 136)
      obtain ⟨bx, bb⟩ := box1 wr #[.int .i64 ca, .int .i64 co] 136
      have k0 := bx.cell 0
      have k1 := bx.cell 1
      have hgl := (hown.lt g rfl)
      obtain ⟨hg1, hg2⟩ := hgl
      have hgr : g ≠ wr.heap.size := by
        have := (HI.out.own.lt g rfl).2
        omega
      have hgr' : wr.heap.size ≠ g := fun e => hgr e.symm
      have hcell : ∃ u, (wr.alloc (.cells #[.int .i64 ca, .int .i64 co] 136)).cell? ⟨g, i * 3 + 1, none⟩ = some u := by
        rw [hown.cellAt (i * 3 + 1) (by omega)]
        exact ⟨_, List.getElem?_eq_getElem (by rw [rowOf_length, hps]; omega)⟩
      obtain ⟨u, hu⟩ := hcell
      have hfz := hown.frozenAt (i * 3 + 1)
      obtain ⟨hst, hgrow⟩ := hown.stored (i * 3 + 1) (.int .i64 ca)
      have hwc := hwb.setCell (p := ⟨g, i * 3 + 1, none⟩) hg1 (.int .i64 ca)
      have HST := Lib.hid hst
      have HWC := Lib.hid hwc
      have m0 : ((wr.alloc (.cells #[.int .i64 ca, .int .i64 co] 136)).setCell ⟨g, i * 3 + 1, none⟩ (.int .i64 ca)).cell? ⟨wr.heap.size, 0, none⟩ = some (.int .i64 ca) := (set_block hgr).trans k0
      have m1 : ((wr.alloc (.cells #[.int .i64 ca, .int .i64 co] 136)).setCell ⟨g, i * 3 + 1, none⟩ (.int .i64 ca)).cell? ⟨wr.heap.size, 1, none⟩ = some (.int .i64 co) := (set_block hgr).trans k1
      have s1 : IntKind.i64.wrap ((i : Int) + 1 - 1) = (i : Int) := by rw [IntWalk.i64_in _ (by omega)]; omega
      clear hel e0 e1 htk hrow hown hwb bx bb hst hgrow hwc
      go_upto_region 5 with fail
      generalize wr.alloc (.cells #[.int .i64 ca, .int .i64 co] 136) = wb at *
      generalize wr.heap.size = B at *
      clear c0 c1
      go_upto_region 6 with fail
      generalize wb.setCell ⟨g, i * 3 + 1, none⟩ (.int .i64 ca) = wc at *
      have hB := HWC.out.size
      clear hu hfz k0 k1
      go_wp2_with (at_builtin; go_must (refine append_one rfl _ _ 189 rfl w.heap.size 192 (.agg #[.int .i64 0, .int .i64 0, .int .i64 0]) 3 24 Tryz.underlying189 infoPart rfl (by decide) w wc _ _ _ rfl HST.out [.int .i64 ca, .int .i64 3000001, .int .i64 co] rfl rfl rfl (by simp [Value.oneCell']) (by omega) (by omega) hB HWC.out ?_); intro v' w6 ho hb6 _ _)
      go_roundw
      case rel => exact ⟨i + 1, by go_num, by omega, by rw [← HROW.out]; exact ho, hb6⟩
      case measure => simp [intOf]; omega
    · obtain rfl : i = cs.length := by omega
      have hown := HI.out.own
      rw [List.take_length] at hown
      obtain ⟨g, cg, rfl⟩ := ownsRow_succ hown
      have HO := Lib.hid hown
      clear hown
      go_wp2_with fail
      go_ret
      exact ⟨_, _, rfl, HO.out, HI.out.below⟩

end Go.Proofs.YtemikhnkjligdaaGreatDoor
