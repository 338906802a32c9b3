/- The walks of a calendar's check: after, checkShifts. -/
import Derived.Test.YtllcgcnebofdoaaGreatDoorZone2
import Derived.Test.YtllcgcnebofdoaaGreatDoorCalLaw
namespace Go.Proofs.YtllcgcnebofdoaaGreatDoor
open Go.RowKit

def cmpI (a b : Int) : Int := if a < b then -1 else if b < a then 1 else 0
theorem nan_any (a : Int) (w : World) : Calls Tryz.prog 116 #[.int .i64 a] w fun e w' => e = .returned (.bool false) ∧ w = w' := by
  go_enter Tryz.func116, Tryz.ntmps116
  go_wp2
  go_ret
  exact ⟨by simp, rfl⟩
theorem cmp_any (a b : Int) (w : World) : Calls Tryz.prog 94 #[.int .i64 a, .int .i64 b] w fun e w' => e = .returned (.int .i64 (cmpI a b)) ∧ w = w' := by
  go_enter Tryz.func94, Tryz.ntmps94
  go_wp2_with (go_at_call 116; refine (nan_any _ _).mono ?_; rintro e w' ⟨rfl, rfl⟩)
  all_goals go_ret
  all_goals (refine ⟨ret_int ?_, rfl⟩; unfold cmpI; (repeat split) <;> omega)

set_option maxRecDepth 100000 in
theorem orInt_any (v : Value) (es : List Int) (w : World) (h : SliceAt 1 intR w v es) (hl : es.length ≤ 1000) :
    Calls Tryz.prog 93 #[v] w fun e w' => e = .returned (.int .i64 (orI es)) ∧ w = w' := by
  obtain ⟨a, cap, rfl⟩ := h.len
  have H := Lib.hid h
  clear h
  go_enter Tryz.func93, Tryz.ntmps93
  go_wp2_with fail
  go_loop [8] (fun iv => ∃ i : Nat, i ≤ es.length ∧ iv = .int .i64 i ∧ orI (es.drop i) = orI es) (fun iv => es.length - (intOf iv).toNat)
  case atStart => exact ⟨0, Nat.zero_le _, rfl, rfl⟩
  case round =>
    obtain ⟨i, hi, rfl, he⟩ := hrel
    have HE := Lib.hid he
    clear he
    by_cases hlt : i < es.length
    · obtain ⟨b, off, cap', hv, hcap, hb, hel⟩ := H.out.at (by omega)
      cases hv
      have c0 := ints_cell hel i es[i] (List.getElem?_eq_getElem hlt)
      have hd : es.drop i = es[i] :: es.drop (i + 1) := List.drop_eq_getElem_cons hlt
      have he := HE.out
      rw [hd, orI_cons] at he
      generalize es[i] = x at *
      by_cases hx : x = 0
      · subst hx
        rw [if_pos rfl] at he
        have HE2 := Lib.hid he
        clear he hd hel
        go_wp2
        go_round
        case rel => exact ⟨i + 1, by omega, by go_num, HE2.out⟩
        case measure => simp [intOf]; omega
      · rw [if_neg hx] at he
        have hb0 : (x == 0) = false := by simpa using hx
        have hb1 : (x != 0) = true := by simpa using hx
        have HE2 := Lib.hid he
        clear he hd hel hx
        go_wp2
        go_ret
        exact ⟨ret_int HE2.out, rfl⟩
    · obtain rfl : i = es.length := by omega
      have he := HE.out
      rw [List.drop_length] at he
      have HE2 := Lib.hid he
      clear he
      go_wp2
      go_ret
      exact ⟨ret_int HE2.out, rfl⟩


theorem ints3_at (w : World) (a b c : Int) (t : TypeId) : SliceAt 1 intR (w.alloc (.cells #[.int .i64 a, .int .i64 b, .int .i64 c] t)) (.slice (some ⟨w.heap.size, 0, none⟩) 3 3) [a, b, c] := by
  have hx := Has.new w #[.int .i64 a, .int .i64 b, .int .i64 c] t
  refine .inr ⟨w.heap.size, 0, 3, rfl, by simp, by simp, fun i hi => ?_⟩
  match i, hi with
  | 0, _ => exact ⟨[.int .i64 a], ⟨rfl, fun j hj => by
      have hj0 : j = 0 := by simpa using hj
      subst hj0
      exact hx.cell 0⟩, rfl⟩
  | 1, _ => exact ⟨[.int .i64 b], ⟨rfl, fun j hj => by
      have hj0 : j = 0 := by simpa using hj
      subst hj0
      exact hx.cell 1⟩, rfl⟩
  | 2, _ => exact ⟨[.int .i64 c], ⟨rfl, fun j hj => by
      have hj0 : j = 0 := by simpa using hj
      subst hj0
      exact hx.cell 2⟩, rfl⟩
theorem ints3_drew (w : World) (a b c : Int) (t : TypeId) : SliceAt 1 intR (w.alloc (.cells #[.int .i64 a, .int .i64 b, .int .i64 c] t)).drew (.slice (some ⟨w.heap.size, 0, none⟩) 3 3) [a, b, c] := ints3_at w a b c t
def aftI (x y : Shf) : Int := orI [cmpI x.1 y.1, cmpI x.2.1 y.2.1, cmpI x.2.2 y.2.2]
theorem aft_iff (x y : Shf) : decide (0 < aftI x y) = true ↔ behind x y := by
  rw [decide_eq_true_iff]
  unfold aftI behind cmpI
  simp only [orI]
  repeat' split
  all_goals omega

set_option maxRecDepth 100000 in
set_option maxHeartbeats 1000000 in
theorem after_any (x y : Shf) (w : World) :
    Calls Tryz.prog 62 #[.agg #[.int .i64 x.1, .int .i64 x.2.1, .int .i64 x.2.2], .agg #[.int .i64 y.1, .int .i64 y.2.1, .int .i64 y.2.2]] w fun e w' => e = .returned (.bool (decide (0 < aftI x y))) ∧ Below w.heap.size w w' := by
  obtain ⟨x1, x2, x3⟩ := x
  obtain ⟨y1, y2, y3⟩ := y
  unfold aftI
  simp only
  go_enter Tryz.func62, Tryz.ntmps62
  go_upto_region 1 with fail
  have hx := (Has.new w #[.int .i64 x1, .int .i64 x2, .int .i64 x3] 131).alloc (.cells #[.int .i64 y1, .int .i64 y2, .int .i64 y3] 131)
  have hy := Has.new (w.alloc (.cells #[.int .i64 x1, .int .i64 x2, .int .i64 x3] 131)) #[.int .i64 y1, .int .i64 y2, .int .i64 y3] 131
  have hbl : Below w.heap.size w ((w.alloc (.cells #[.int .i64 x1, .int .i64 x2, .int .i64 x3] 131)).alloc (.cells #[.int .i64 y1, .int .i64 y2, .int .i64 y3] 131)) :=
    ((Below.refl _ w).alloc (Nat.le_refl _) _).alloc (by simp) _
  rw [World.size_alloc] at hy
  generalize (w.alloc (.cells #[.int .i64 x1, .int .i64 x2, .int .i64 x3] 131)).alloc (.cells #[.int .i64 y1, .int .i64 y2, .int .i64 y3] 131) = w2 at *
  have k0 := hx.cell 0
  have k1 := hx.cell 1
  have k2 := hx.cell 2
  have l0 := hy.cell 0
  have l1 := hy.cell 1
  have l2 := hy.cell 2
  have hxl := hx.lt
  have hyl := hy.lt
  have HBL := Lib.hid hbl
  have HKS := Lib.hid (fun W (hW : Below w2.heap.size w2 W) => (⟨(below_cell hW hxl).trans k0, (below_cell hW hxl).trans k1, (below_cell hW hxl).trans k2, (below_cell hW hyl).trans l0, (below_cell hW hyl).trans l1, (below_cell hW hyl).trans l2⟩ :
    W.cell? ⟨w.heap.size, 0, none⟩ = some (.int .i64 x1) ∧ W.cell? ⟨w.heap.size, 1, none⟩ = some (.int .i64 x2) ∧ W.cell? ⟨w.heap.size, 2, none⟩ = some (.int .i64 x3) ∧ W.cell? ⟨w.heap.size + 1, 0, none⟩ = some (.int .i64 y1) ∧ W.cell? ⟨w.heap.size + 1, 1, none⟩ = some (.int .i64 y2) ∧ W.cell? ⟨w.heap.size + 1, 2, none⟩ = some (.int .i64 y3)))
  clear hx hy hbl
  go_cut [4] (fun u wx => u = .bool (decide (0 < orI [cmpI x1 y1, cmpI x2 y2, cmpI x3 y3])) ∧ Below w2.heap.size w2 wx)
  case first =>
    go_region_held3 (fun W => W.cell? ⟨w.heap.size, 0, none⟩ = some (.int .i64 x1) ∧ W.cell? ⟨w.heap.size, 1, none⟩ = some (.int .i64 x2) ∧ W.cell? ⟨w.heap.size, 2, none⟩ = some (.int .i64 x3) ∧ W.cell? ⟨w.heap.size + 1, 0, none⟩ = some (.int .i64 y1) ∧ W.cell? ⟨w.heap.size + 1, 1, none⟩ = some (.int .i64 y2) ∧ W.cell? ⟨w.heap.size + 1, 2, none⟩ = some (.int .i64 y3))
      (first | exact HKS.out _ hB | exact HKS.out _ (Below.refl _ _).drew | exact HKS.out _ ((Below.refl _ _).alloc (Nat.le_refl _) _).drew)
      (first
        | (go_at_call 93; refine (orInt_any _ [cmpI x1 y1, cmpI x2 y2, cmpI x3 y3] _ (ints3_drew w2 _ _ _ _) (by simp)).mono ?_; rintro e w' ⟨rfl, rfl⟩; have hB := ((Below.refl w2.heap.size w2).alloc (Nat.le_refl _) (.cells #[.int .i64 (cmpI x1 y1), .int .i64 (cmpI x2 y2), .int .i64 (cmpI x3 y3)] 3)).drew)
        | (go_at_call 94; refine (cmp_any _ _ _).mono ?_; rintro e w' ⟨rfl, rfl⟩))
    go_wp2
    go_meet
    exact ⟨rfl, hB⟩
  case rest =>
    obtain ⟨rfl, hbw⟩ := hcut
    go_wp2_with fail
    go_ret
    exact ⟨rfl, below_up HBL.out hbw HBL.out.size⟩

end Go.Proofs.YtllcgcnebofdoaaGreatDoor
