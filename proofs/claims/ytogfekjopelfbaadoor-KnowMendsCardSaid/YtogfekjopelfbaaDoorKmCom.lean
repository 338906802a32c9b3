/- The walk of know.common. -/
import Derived.Test.YtogfekjopelfbaaDoorKmTab
import Derived.StillTailTactics
namespace Go.Proofs.YtogfekjopelfbaaDoor
open Go.RowKit

theorem infoRow : (Tryd.prog.info? 40).map (fun i => (i.zero, i.size, i.bytes)) = some (some (.slice none 0 0), 1, 24) := by kernel_rfl
theorem make_rows (w : World) (n : Nat) (hn : n ≤ 1000000) :
    (Instr.makeSlice 34 (.int .i64 (n : Int)) (.int .i64 (n : Int))).run Tryd.prog w = .ok (.slice (some ⟨w.heap.size, 0, none⟩) n n) (w.alloc (.cells (madeCells #[.slice none 0 0] n) 40)) := by
  obtain ⟨i0, hi, hz0, hz1, hz2⟩ := info_parts infoRow
  have h := run_make (P := Tryd.prog) w 34 40 i0 (.slice none 0 0) Tryd.underlying34 hi hz0 .i64 .i64 (n : Int) (n : Int) (by omega) (by omega) (by rw [hz2]; omega) (by omega)
  rw [h, hz1, Nat.mul_one]
  rfl
theorem make_rows1 (w : World) (n : Nat) (hn : n ≤ 100000) :
    (Instr.makeSlice 34 (.int .i64 ((n : Int) + 1)) (.int .i64 ((n : Int) + 1))).run Tryd.prog w = .ok (.slice (some ⟨w.heap.size, 0, none⟩) (n + 1) (n + 1)) (w.alloc (.cells (madeCells #[.slice none 0 0] (n + 1)) 40)) := make_rows w (n + 1) (by omega)
theorem make_ints1 (w : World) (n : Nat) (hn : n ≤ 100000) :
    (Instr.makeSlice 40 (.int .i64 ((n : Int) + 1)) (.int .i64 ((n : Int) + 1))).run Tryd.prog w = .ok (.slice (some ⟨w.heap.size, 0, none⟩) (n + 1) (n + 1)) (w.alloc (.cells (madeCells #[.int .i64 0] (n + 1)) 3)) := make_ints w (n + 1) (by omega)

def ComPost (x y : List ByteArray) (w : World) (e : Ending) (w' : World) : Prop :=
  ∃ BL B, e = .returned (.slice (some ⟨BL, 0, none⟩) (x.length + 1) (x.length + 1)) ∧ Tab w' BL x.length y.length B 0 (tabT x y) ∧ Below w.heap.size w w'

set_option maxRecDepth 100000 in
set_option maxHeartbeats 4000000 in
theorem common_any (va vb : Value) (x y : List ByteArray) (w : World) (hx : SliceAt 1 strR w va x) (hy : SliceAt 1 strR w vb y) (hxl : x.length ≤ 2000) (hyl : y.length ≤ 2000) :
    Calls Tryd.prog 11 #[va, vb] w (ComPost x y w) := by
  obtain ⟨aa, ca, rfl⟩ := hx.len
  obtain ⟨ab, cb, rfl⟩ := hy.len
  have HX := Lib.hid hx
  have HY := Lib.hid hy
  clear hx hy
  have hmk1 := fun W => make_rows1 W x.length (by omega)
  have hmk2 := fun W => make_ints1 W y.length (by omega)
  have s1 : IntKind.i64.wrap ((x.length : Int) + 1) = (x.length : Int) + 1 := IntWalk.i64_in _ (by omega)
  have s2 : IntKind.i64.wrap ((y.length : Int) + 1) = (y.length : Int) + 1 := IntWalk.i64_in _ (by omega)
  have hT0 : Tab ((w.alloc (.cells ((madeCells #[Value.slice none 0 0] (x.length + 1)).setIfInBounds x.length (.slice (some ⟨w.heap.size + 1, 0, none⟩) (y.length + 1) (y.length + 1))) 40)).alloc (.cells (madeCells #[.int .i64 0] (y.length + 1)) 3)) w.heap.size x.length y.length (fun t => if t = x.length then w.heap.size + 1 else 0) x.length (tabT x y) := by
    have e1 := lstCells_set (n := x.length) (m := y.length) (B := fun _ => 0) (i := x.length) (Nat.le_refl _) (w.heap.size + 1)
    rw [← lstCells_none] at e1
    refine ⟨?_, fun t h1 h2 => ?_⟩
    · have := (Has.new w ((madeCells #[Value.slice none 0 0] (x.length + 1)).setIfInBounds x.length (rowV y.length (w.heap.size + 1))) 40).alloc (.cells (madeCells #[.int .i64 0] (y.length + 1)) 3)
      rw [e1] at this
      unfold rowV at e1
      rw [e1]
      exact this
    · obtain rfl : t = x.length := by omega
      have h := madeInts (w.alloc (.cells ((madeCells #[Value.slice none 0 0] (x.length + 1)).setIfInBounds x.length (.slice (some ⟨w.heap.size + 1, 0, none⟩) (y.length + 1) (y.length + 1))) 40)) (y.length + 1)
      rw [← rangeL_zero, World.size_alloc] at h
      have e : rangeL (tabT x y x.length) (y.length + 1) = rangeL (fun _ => 0) (y.length + 1) := by
        unfold rangeL
        exact List.map_congr_left fun t _ => by rw [tab_end]
      rw [if_pos rfl, e]
      exact h
  have hB0 : Below w.heap.size w ((w.alloc (.cells ((madeCells #[Value.slice none 0 0] (x.length + 1)).setIfInBounds x.length (.slice (some ⟨w.heap.size + 1, 0, none⟩) (y.length + 1) (y.length + 1))) 40)).alloc (.cells (madeCells #[.int .i64 0] (y.length + 1)) 3)) := ((Below.refl _ _).alloc (Nat.le_refl _) _).alloc (by simp) _
  have hget : (madeCells #[Value.slice none 0 0] (x.length + 1))[x.length]? = some (.slice none 0 0) := by simp [madeCells, Nat.mod_one]
  have hc0 := ((Has.new w (madeCells #[Value.slice none 0 0] (x.length + 1)) 40).alloc (.cells (madeCells #[.int .i64 0] (y.length + 1)) 3)).cell x.length
  have hf0 := ((Has.new w (madeCells #[Value.slice none 0 0] (x.length + 1)) 40).alloc (.cells (madeCells #[.int .i64 0] (y.length + 1)) 3)).fz x.length
  rw [hget] at hc0
  have HT0 := Lib.hid hT0
  have HB0 := Lib.hid hB0
  clear hT0 hB0 hget
  go_enter Tryd.func11, Tryd.ntmps11
  go_wp2_with fail
  clear hc0 hf0 hmk1
  generalize (w.alloc (.cells ((madeCells #[Value.slice none 0 0] (x.length + 1)).setIfInBounds x.length (.slice (some ⟨w.heap.size + 1, 0, none⟩) (y.length + 1) (y.length + 1))) 40)).alloc (.cells (madeCells #[.int .i64 0] (y.length + 1)) 3) = w1 at *
  obtain ⟨BL, hBL⟩ : ∃ BL, BL = w.heap.size := ⟨_, rfl⟩
  rw [← hBL] at HT0 ⊢
  have HBL := Lib.hid hBL
  clear hBL
  go_loopw [6, 7] (fun iv _ wr => ∃ (z : Int) (k : Nat) (B : Nat → Nat), iv = .int .i64 z ∧ z = (k : Int) - 1 ∧ k ≤ x.length ∧ Tab wr BL x.length y.length B k (tabT x y) ∧ Below w.heap.size w wr) (fun iv _ _ => (intOf iv + 1).toNat)
  case atStart => exact ⟨_, x.length, _, rfl, rfl, Nat.le_refl _, HT0.out, HB0.out⟩
  case round =>
    obtain ⟨z, k, B, rfl, hz, hk, hT, hB⟩ := hrel
    have HT := Lib.hid hT
    have HB := Lib.hid hB
    clear hT hB
    by_cases h0 : k = 0
    · subst h0
      have q0 : decide ((0 : Int) ≤ z) = false := by simp; omega
      clear hz
      clear hmk2
      go_wp2_with fail
      go_ret
      exact ⟨_, _, rfl, HT.out, HB.out⟩
    · obtain ⟨i, rfl⟩ : ∃ i, k = i + 1 := ⟨k - 1, by omega⟩
      obtain rfl : z = (i : Int) := by omega
      have q0 : decide ((0 : Int) ≤ (i : Int)) = true := by simp
      have hop := HT.out.open (by omega) (tab_end' x y i) (u := .slice (some ⟨wr.heap.size, 0, none⟩) (y.length + 1) (y.length + 1)) rfl
      have hbo := (HB.out.setCell (p := ⟨BL, i, none⟩) (by have := HBL.out; simp only; omega) (.slice (some ⟨wr.heap.size, 0, none⟩) (y.length + 1) (y.length + 1))).alloc (by rw [World.size_setCell]; exact HB.out.size) (.cells (madeCells #[.int .i64 0] (y.length + 1)) 3)
      have HOP := Lib.hid hop
      have HBO := Lib.hid hbo
      have hlt := HT.out.lst.lt
      have hcl : ∃ u, (wr.alloc (.cells (madeCells #[.int .i64 0] (y.length + 1)) 3)).cell? ⟨BL, i, none⟩ = some u := by
        rw [(HT.out.lst.alloc _).cell i]
        exact ⟨_, Array.getElem?_eq_getElem (by simp [lstCells]; omega)⟩
      obtain ⟨u, hcl⟩ := hcl
      have hfl := (HT.out.lst.alloc (.cells (madeCells #[.int .i64 0] (y.length + 1)) 3)).fz i
      have s2 : IntKind.i64.wrap ((y.length : Int) + 1) = (y.length : Int) + 1 := IntWalk.i64_in _ (by omega)
      clear hop hbo hz
      go_wp2_with fail
      clear hcl hfl
      generalize ((wr.setCell ⟨BL, i, none⟩ (.slice (some ⟨wr.heap.size, 0, none⟩) (y.length + 1) (y.length + 1))).alloc (.cells (madeCells #[.int .i64 0] (y.length + 1)) 3)) = w2 at *
      have hwz := HB.out.size
      generalize hB2q : (fun t => if t = i then wr.heap.size else B t) = B2 at *
      have hbi : w.heap.size ≤ B2 i := by rw [← hB2q]; simpa using hwz
      clear hB2q hwz
      clear hlt
      go_loopw [7] (fun jv wx => ∃ (z : Int) (l : Nat), jv = .int .i64 z ∧ z = (l : Int) - 1 ∧ l ≤ y.length ∧ TabIn wx BL x.length y.length B2 i l (tabT x y) ∧ Below w.heap.size w wx) (fun jv _ => (intOf jv + 1).toNat)
      case atStart => exact ⟨_, y.length, rfl, rfl, Nat.le_refl _, HOP.out, HBO.out⟩
      case round =>
        obtain ⟨z, l, rfl, hz, hl, hI, hbx⟩ := hrel
        have HI := Lib.hid hI
        have HBX := Lib.hid hbx
        clear hI hbx
        by_cases h1 : l = 0
        · subst h1
          have q1 : decide ((0 : Int) ≤ z) = false := by simp; omega
          clear hz
          have s3 : IntKind.i64.wrap ((i : Int) - 1) = (i : Int) - 1 := IntWalk.i64_in _ (by omega)
          go_wp2_with fail
          go_roundw
          case rel => exact ⟨_, i, _, rfl, rfl, by omega, HI.out.done, HBX.out⟩
          case measure => simp [intOf]
        · obtain ⟨j, rfl⟩ : ∃ j, l = j + 1 := ⟨l - 1, by omega⟩
          obtain rfl : z = (j : Int) := by omega
          have q1 : decide ((0 : Int) ≤ (j : Int)) = true := by simp
          obtain ⟨bx, ox, cx, hvx, hcx, hbbx, hex⟩ := HX.out.at (by omega)
          obtain ⟨by_, oy, cy, hvy, hcy, hbby, hey⟩ := HY.out.at (by omega)
          cases hvx
          cases hvy
          have hilt : i < x.length := by omega
          have hjlt : j < y.length := by omega
          have cxi := (below_cell HBX.out hbbx).trans (strs_cell hex i x[i] (List.getElem?_eq_getElem hilt))
          have cyj := (below_cell HBX.out hbby).trans (strs_cell hey j y[j] (List.getElem?_eq_getElem hjlt))
          obtain ⟨l1, l2, t1, t2, t3, t4, f4⟩ := HI.out.cells hilt hjlt
          have b1 := tab_le x y (i + 1) j
          have b2 := tab_le x y (i + 1) (j + 1)
          have b3 := tab_le x y i (j + 1)
          have u1 : IntKind.i64.wrap ((i : Int) + 1) = (i : Int) + 1 := IntWalk.i64_in _ (by omega)
          have u2 : IntKind.i64.wrap ((j : Int) + 1) = (j : Int) + 1 := IntWalk.i64_in _ (by omega)
          have u3 : (0 : Int) ≤ (i : Int) + 1 := by omega
          have u4 : (0 : Int) ≤ (j : Int) + 1 := by omega
          have u5 : ((i : Int) + 1).toNat = i + 1 := by omega
          have u6 : ((j : Int) + 1).toNat = j + 1 := by omega
          have hst := fun (u : Int) hu => HI.out.step (u := u) hjlt hu
          have HST := Lib.hid hst
          have HEQ := Lib.hid (show x[i] = y[j] → tabT x y i j = tabT x y (i + 1) (j + 1) + 1 from tab_eq hilt hjlt)
          have HNE := Lib.hid (show x[i] ≠ y[j] → tabT x y i j = max (tabT x y (i + 1) j) (tabT x y i (j + 1)) from tab_ne hilt hjlt)
          generalize x[i] = xi at *
          generalize y[j] = yj at *
          generalize tabT x y (i + 1) j = ta at *
          generalize tabT x y (i + 1) (j + 1) = tb at *
          generalize tabT x y i (j + 1) = tc at *
          clear hex hey hst hz
          go_upto_region 10 with fail
          go_quiet (fail)
          go_wp2
          · have he : xi = yj := bytes_ext (by
              have h : (xi.toList == yj.toList) = true := by assumption
              rw [beq_iff_eq, Lib.toList_data, Lib.toList_data] at h
              exact h)
            have HV := Lib.hid (HEQ.out he)
            clear he
            go_region
            go_wp2_with fail
            go_roundw
            case rel => exact ⟨_, j, rfl, rfl, by omega, (HST.out _ (by rw [HV.out]; go_num)).same rfl, (drewN_below HBX.out _).setCell (p := ⟨B2 i, j, none⟩) hbi _⟩
            case measure => simp [intOf]
          · have he : xi ≠ yj := fun q => by
              have h : (xi.toList == yj.toList) = false := by assumption
              rw [q] at h
              simp at h
            have HV := Lib.hid (HNE.out he)
            clear he
            go_region
            go_wp2_with fail
            go_roundw
            case rel => exact ⟨_, j, rfl, rfl, by omega, (HST.out _ (by rw [HV.out]; omega)).same rfl, (drewN_below HBX.out _).setCell (p := ⟨B2 i, j, none⟩) hbi _⟩
            case measure => simp [intOf]

end Go.Proofs.YtogfekjopelfbaaDoor
