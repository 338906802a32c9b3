/- The walks of slices.MinFunc at positions and of route.desk.choose. -/
import Derived.Test.YtemikhnkjligdaaGreatDoorQRfBef
import Derived.Test.YtemikhnkjligdaaGreatDoorQOrd3
import Derived.Test.YtemikhnkjligdaaGreatDoorQRfWt
namespace Go.Proofs.YtemikhnkjligdaaGreatDoor
open Go Go.RowKit Go.Sort Go.Shelf

set_option maxRecDepth 100000 in
set_option maxHeartbeats 1000000 in
theorem min_any (ps : List PerD) (vp : Value) (D Du We La : Nat) (du : List Bool) (we la : List Int) (w : World) (hd : DeskAt w D Du We La vp ps du we la) (h : Pers w vp ps) (l : List Nat) (v : Value) (hl : ∀ x ∈ l, x < ps.length) (h0 : 0 < l.length) (hll : l.length ≤ 1000)
    (hv : SliceAt 1 intR w v (l.map fun i => ((i : Nat) : Int))) :
    Calls Tryz.prog 58 #[v, .func (.func 59) #[.pointer (some ⟨D, 0, none⟩)] #[]] w fun e w' => (∃ x ∈ l, e = .returned (.int .i64 ((x : Nat) : Int))) ∧ Below w.heap.size w w' := by
  obtain ⟨b, off, cap, rfl, _, hb, hel⟩ := hv.at (by rw [List.length_map]; exact h0)
  have HC := Lib.hid (fun j (hj : j < l.length) => ints_cell hel j ((l[j] : Nat) : Int) (by rw [List.getElem?_map, List.getElem?_eq_getElem hj]; rfl))
  have HD := Lib.hid hd
  have HP := Lib.hid h
  have HL := Lib.hid hl
  clear hv hel hd h hl
  rw [List.length_map]
  have c0 := HC.out 0 h0
  rw [Nat.add_zero] at c0
  have q1 : decide ((l.length : Int) < 1) = false := decide_eq_false (by omega)
  have q1b : decide (l.length < 1) = false := decide_eq_false (by omega)
  have HZ := Lib.hid (HL.out l[0] (List.getElem_mem h0))
  go_enter Tryz.func58, Tryz.ntmps58
  go_wp2_with fail
  go_loopw [5, 6] (fun mv iv wr => ∃ i j : Nat, iv = .int .i64 ((i : Nat) : Int) ∧ 1 ≤ i ∧ i ≤ l.length ∧ (∃ hj : j < l.length, mv = .int .i64 ((l[j] : Nat) : Int)) ∧ Below w.heap.size w wr) (fun _ iv _ => l.length - (intOf iv).toNat)
  case atStart => exact ⟨1, 0, rfl, Nat.le_refl _, h0, ⟨h0, rfl⟩, Below.refl _ _⟩
  case round =>
    obtain ⟨i, j, rfl, hi1, hi, ⟨hj, rfl⟩, hbr⟩ := hrel
    have HBR := Lib.hid hbr
    clear hbr c0 q1 q1b
    by_cases hlt : i < l.length
    · have c0 := (below_cell HBR.out hb).trans (HC.out i hlt)
      have HB := Lib.hid (before_any ps vp D Du We La du we la wr (HD.out.below HBR.out (Nat.le_refl _)) (HP.out.below HBR.out) l[i] l[j] (HL.out _ (List.getElem_mem hlt)) (HL.out _ (List.getElem_mem hj)))
      have HX := Lib.hid (⟨hj, rfl⟩ : ∃ h : j < l.length, l[j] = l[j])
      obtain ⟨mj, hmj⟩ : ∃ x, x = l[j] := ⟨_, rfl⟩
      obtain ⟨mi, hmi⟩ : ∃ x, x = l[i] := ⟨_, rfl⟩
      rw [← hmj, ← hmi] at HB
      rw [← hmi] at c0
      rw [← hmj]
      have HMJ := Lib.hid hmj
      have HMI := Lib.hid hmi
      clear hmj hmi
      go_wp2_with fail
      refine HB.out.mono ?_
      rintro e w2 ⟨⟨k, rfl⟩, hb2⟩
      have HB2 := Lib.hid (below_up HBR.out hb2 HBR.out.size)
      have c0 := (below_cell HB2.out hb).trans (HC.out i hlt)
      rw [← HMI.out] at c0
      clear hb2 HB
      by_cases hk : k < 0
      · have q2 : decide (k < 0) = true := decide_eq_true hk
        clear hk
        go_wp2_with fail
        go_roundw
        case rel => exact ⟨i + 1, i, by go_num, by omega, hlt, ⟨hlt, by rw [HMI.out]⟩, HB2.out⟩
        case measure => simp [intOf]; omega
      · have q2 : decide (k < 0) = false := decide_eq_false hk
        clear hk
        go_wp2_with fail
        go_roundw
        case rel => exact ⟨i + 1, j, by go_num, by omega, hlt, ⟨hj, by rw [HMJ.out]⟩, HB2.out⟩
        case measure => simp [intOf]; omega
    · obtain rfl : i = l.length := by omega
      go_wp2_with fail
      go_ret
      exact ⟨⟨l[j], List.getElem_mem hj, rfl⟩, HBR.out⟩

def p00 : PerD := ⟨0, 0, 0, []⟩
/-- one who may take it -/
def okF (ps : List PerD) (du : List Bool) (we : List Int) (nd : List Skl) (weight : Int) (i : Nat) : Bool :=
  du.getD i false && (!decide ((ps.getD i p00).cap - we.getD i 0 < weight) && ableF (ps.getD i p00) nd)
def ChIs (n : Nat) (ok : Nat → Bool) (k : Int) : Prop := (k = -1 ∧ ∀ i, i < n → ok i = false) ∨ ∃ i, i < n ∧ k = ((i : Nat) : Int) ∧ ok i = true
structure RfChI (ok : Nat → Bool) (w wr : World) (bx : Array Value) (i : Nat) (v : Value) : Prop where
  own : wr.ownsRow (w.heap.size + 1) 3 1 v ((List.range i).filter ok).length (((List.range i).filter ok).map fun i => .int .i64 ((i : Nat) : Int))
  below : Below w.heap.size w wr
  box : Has wr w.heap.size bx 38
set_option maxRecDepth 100000 in
set_option maxHeartbeats 2000000 in
theorem choose_any (ps : List PerD) (vp : Value) (D Du We La : Nat) (du : List Bool) (we la : List Int) (wk : WkD) (vw vn : Value) (nd : List Skl) (w : World) (hd : DeskAt w D Du We La vp ps du we la) (h : Pers w vp ps) (hpf : PpFine ps) (hwe : ∀ x ∈ we, 0 ≤ x ∧ x ≤ 1000000)
    (hn : Skls w vn nd) (hnl : nd.length ≤ 12) (hwk : Skls w vw wk.needs) :
    Calls Tryz.prog 36 #[.pointer (some ⟨D, 0, none⟩), .agg #[.int .i64 wk.ticket, .int .i64 wk.weight, .int .i64 wk.urg, .int .i64 wk.since, .int .i64 wk.former, vw], vn] w fun e w' => (∃ k : Int, e = .returned (.int .i64 k) ∧ ChIs ps.length (okF ps du we nd wk.weight) k) ∧ Below w.heap.size w w' := by
  obtain ⟨pa, pc, rfl⟩ := SliceAt.len h
  obtain ⟨na, nc, rfl⟩ := SliceAt.len hn
  obtain ⟨qa, qc, rfl⟩ := SliceAt.len hwk
  have hpl := hpf.1
  have HD := Lib.hid hd
  have HP := Lib.hid h
  have HPF := Lib.hid hpf
  have HWE := Lib.hid hwe
  have HN := Lib.hid hn
  obtain ⟨x1, x2, x3, x4, x5, sk⟩ := wk
  simp only
  generalize sk.length = sn at *
  obtain ⟨ok, hok⟩ : ∃ ok, ok = okF ps du we nd x2 := ⟨_, rfl⟩
  have HOK := Lib.hid hok
  rw [← hok]
  obtain ⟨bx, bbl⟩ := box1 w #[.int .i64 x1, .int .i64 x2, .int .i64 x3, .int .i64 x4, .int .i64 x5, .slice qa sn qc] 38
  have HBX := Lib.hid bx
  have HB1 := Lib.hid bbl
  have d0 := (HD.out.below bbl (Nat.le_refl _)).box.cell 0
  clear hd h hpf hwe hn hwk hok
  go_enter Tryz.func36, Tryz.ntmps36
  go_upto_region 1 with fail
  generalize w.alloc (.cells #[.int .i64 x1, .int .i64 x2, .int .i64 x3, .int .i64 x4, .int .i64 x5, .slice qa sn qc] 38) = w1 at *
  clear bx bbl
  go_wp2_with fail
  go_loopw [7, 15] (fun lv iv wr => ∃ i : Nat, iv = .int .i64 ((i : Nat) : Int) ∧ i ≤ ps.length ∧ RfChI ok w wr #[.int .i64 x1, .int .i64 x2, .int .i64 x3, .int .i64 x4, .int .i64 x5, .slice qa sn qc] i lv) (fun _ iv _ => ps.length - (intOf iv).toNat)
  case atStart => exact ⟨0, rfl, Nat.zero_le _, ⟨rfl, .inl ⟨rfl, rfl⟩⟩, HB1.out, HBX.out⟩
  case round =>
    obtain ⟨i, rfl, hi, hI⟩ := hrel
    have HI := Lib.hid hI
    have hown := hI.own
    have hlen : ((List.range i).filter ok).length ≤ i := by
      have := List.length_filter_le ok (List.range i)
      rw [List.length_range] at this
      exact this
    obtain ⟨L, hL⟩ : ∃ L, L = (List.range i).filter ok := ⟨_, rfl⟩
    rw [← hL] at hown hlen
    have HL := Lib.hid hL
    obtain ⟨la', lc, rfl⟩ := owns_slice hown
    have HO := Lib.hid hown
    have hwl := hI.box.lt
    clear hI hown d0 hL HBX HB1
    by_cases hlt : i < ps.length
    · obtain ⟨bk, off, cap', hv, hbk, hel⟩ := Pers.at (HP.out.below HI.out.below) (by omega)
      cases hv
      obtain ⟨u, e0, e1, e2, e3, hsk⟩ := hel i hlt
      obtain ⟨sa, sc, rfl⟩ := SliceAt.len hsk
      have HSK := Lib.hid hsk
      have hcp := (HPF.out.2.each i hlt).2.1
      have hs12 := (HPF.out.2.each i hlt).2.2.2.1
      obtain ⟨en, hen⟩ : ∃ en, en = ps[i] := ⟨_, rfl⟩
      have hdu := (HD.out.dus.cells i (by rw [HD.out.ld]; exact hlt)).1
      have hwc := (HD.out.wes.cells i (by rw [HD.out.lw]; exact hlt)).1
      have hwb := HWE.out _ (List.getElem_mem (by rw [HD.out.lw]; exact hlt : i < we.length))
      obtain ⟨bd, hbd⟩ : ∃ x, x = du[i]'(by rw [HD.out.ld]; exact hlt) := ⟨_, rfl⟩
      obtain ⟨wi, hwi⟩ : ∃ x, x = we[i]'(by rw [HD.out.lw]; exact hlt) := ⟨_, rfl⟩
      rw [← hbd] at hdu
      rw [← hwi] at hwc hwb
      rw [← hen] at e0 e1 e2 e3 hs12 hcp HSK
      have HGD := Lib.hid (show ok i = (bd && (!decide (en.cap - wi < x2) && ableF en nd)) from by
        rw [HOK.out]
        unfold okF
        have a1 : i < du.length := by rw [HD.out.ld]; exact hlt
        have a2 : i < we.length := by rw [HD.out.lw]; exact hlt
        simp [List.getD, a1, a2, hlt, ← hbd, ← hwi, ← hen])
      clear hel hsk hen hbd hwi
      obtain ⟨y1, y2, y3, ysk⟩ := en
      simp only at e0 e1 e2 e3 hs12 hcp HSK HGD
      obtain ⟨bx2, bbl2⟩ := box1 wr #[.int .i64 y1, .int .i64 y2, .int .i64 y3, .slice sa ysk.length sc] 65
      have HX2 := Lib.hid bx2
      have HB2 := Lib.hid (below_up HI.out.below bbl2 HI.out.below.size)
      have HW2 := Lib.hid (HI.out.box.below bbl2 hwl)
      have HO2 := Lib.hid (owns_below HO.out bbl2)
      have hz2 := bbl2.size
      have HBW0 := Lib.hid bbl2
      have hz3 := bx2.lt
      have hz0 := HI.out.below.size
      have r1 : IntKind.i64.wrap (y2 - wi) = y2 - wi := IntWalk.i64_in _ (by omega)
      have hDl := HD.out.box.lt
      have hDul := Has.lt HD.out.dus
      have hWel := Has.lt HD.out.wes
      go_upto_region 5 with fail
      generalize wr.alloc (.cells #[.int .i64 y1, .int .i64 y2, .int .i64 y3, .slice sa ysk.length sc] 65) = wb at *
      have HSK2 := Lib.hid (HSK.out.below HBW0.out)
      generalize hBB : wr.heap.size = B at *
      have HKS := Lib.hid (fun W (hW : Below wb.heap.size wb W) => (⟨(below_cell (below_up HB2.out hW HB2.out.size) hDl).trans (HD.out.box.cell 1), (below_cell (below_up HB2.out hW HB2.out.size) hDl).trans (HD.out.box.cell 2), (below_cell (below_up HB2.out hW HB2.out.size) hDul).trans hdu, (below_cell (below_up HB2.out hW HB2.out.size) hWel).trans hwc,
        (below_cell hW hz3).trans (HX2.out.cell 0), (below_cell hW hz3).trans (HX2.out.cell 1), (below_cell hW hz3).trans (HX2.out.cell 2), (below_cell hW hz3).trans (HX2.out.cell 3), (below_cell hW HW2.out.lt).trans (HW2.out.cell 1)⟩ : W.cell? ⟨D, 1, none⟩ = some (.slice (some ⟨Du, 0, none⟩) ps.length ps.length) ∧ W.cell? ⟨D, 2, none⟩ = some (.slice (some ⟨We, 0, none⟩) ps.length ps.length) ∧ W.cell? ⟨Du, i, none⟩ = some (.bool bd) ∧ W.cell? ⟨We, i, none⟩ = some (.int .i64 wi) ∧ W.cell? ⟨B, 0, none⟩ = some (.int .i64 y1) ∧ W.cell? ⟨B, 1, none⟩ = some (.int .i64 y2) ∧ W.cell? ⟨B, 2, none⟩ = some (.int .i64 y3) ∧ W.cell? ⟨B, 3, none⟩ = some (.slice sa ysk.length sc) ∧ W.cell? ⟨w.heap.size, 1, none⟩ = some (.int .i64 x2)))
      clear bx2 bbl2 e0 e1 e2 e3 hBB hdu hwc hwb hcp
      go_cut [48] (fun v wx => v = .bool (!(ok i)) ∧ Below wb.heap.size wb wx)
      case first =>
        cases bd with
        | false =>
          refine anyT_start (S := fun W : World => W.cell? ⟨D, 1, none⟩ = some (.slice (some ⟨Du, 0, none⟩) ps.length ps.length) ∧ W.cell? ⟨D, 2, none⟩ = some (.slice (some ⟨We, 0, none⟩) ps.length ps.length) ∧ W.cell? ⟨Du, i, none⟩ = some (.bool false) ∧ W.cell? ⟨We, i, none⟩ = some (.int .i64 wi) ∧ W.cell? ⟨B, 0, none⟩ = some (.int .i64 y1) ∧ W.cell? ⟨B, 1, none⟩ = some (.int .i64 y2) ∧ W.cell? ⟨B, 2, none⟩ = some (.int .i64 y3) ∧ W.cell? ⟨B, 3, none⟩ = some (.slice sa ysk.length sc) ∧ W.cell? ⟨w.heap.size, 1, none⟩ = some (.int .i64 x2)) (t := 29) (by kernel_rfl) ?_
          have hb0 : Below wb.heap.size wb wb.drew := (Below.refl _ _).drew
          have hS0 := HKS.out _ hb0
          generalize wb.drew = wd at *
          refine takeS (i := 0) (v := ?_) rfl rfl (by kernel_rfl) (by kernel_rfl) (by kernel_rfl) (fun _ _ _ h => h) (by decide) (by kernel_rfl) ?_ hS0 ?_
          rotate_left
          · intro w hSw; (try dsimp only at hSw); go_simp; (try with_reducible rfl)
          simp only [List.setIfInBounds_toArray, List.set_cons_zero, List.set_cons_succ]
          refine takeS (i := 1) (v := ?_) rfl rfl (by kernel_rfl) (by kernel_rfl) (by kernel_rfl) (fun _ _ _ h => h) (by decide) (by kernel_rfl) ?_ hS0 ?_
          rotate_left
          · intro w hSw; (try dsimp only at hSw); go_simp; (try with_reducible rfl)
          simp only [List.setIfInBounds_toArray, List.set_cons_zero, List.set_cons_succ]
          refine takeS (i := 2) (v := ?_) rfl rfl (by kernel_rfl) (by kernel_rfl) (by kernel_rfl) (fun _ _ _ h => h) (by decide) (by kernel_rfl) ?_ hS0 ?_
          rotate_left
          · intro w hSw; (try dsimp only at hSw); go_simp; (try with_reducible rfl)
          simp only [List.setIfInBounds_toArray, List.set_cons_zero, List.set_cons_succ]
          refine takeS (i := 3) (v := ?_) rfl rfl (by kernel_rfl) (by kernel_rfl) (by kernel_rfl) (fun _ _ _ h => h) (by decide) (by kernel_rfl) ?_ hS0 ?_
          rotate_left
          · intro w hSw; (try dsimp only at hSw); go_simp; (try with_reducible rfl)
          simp only [List.setIfInBounds_toArray, List.set_cons_zero, List.set_cons_succ]
          refine takeS (i := 4) (v := ?_) rfl rfl (by kernel_rfl) (by kernel_rfl) (by kernel_rfl) (fun _ _ _ h => h) (by decide) (by kernel_rfl) ?_ hS0 ?_
          rotate_left
          · intro w hSw; (try dsimp only at hSw); go_simp; (try with_reducible rfl)
          simp only [List.setIfInBounds_toArray, List.set_cons_zero, List.set_cons_succ]
          refine takeS (i := 5) (v := ?_) rfl rfl (by kernel_rfl) (by kernel_rfl) (by kernel_rfl) (fun _ _ _ h => h) (by decide) (by kernel_rfl) ?_ hS0 ?_
          rotate_left
          · intro w hSw; (try dsimp only at hSw); go_simp; first | (with_reducible rfl) | (rw [if_pos (by omega)])
          simp only [List.setIfInBounds_toArray, List.set_cons_zero, List.set_cons_succ]
          refine takeS (i := 6) (v := ?_) rfl rfl (by kernel_rfl) (by kernel_rfl) (by kernel_rfl) (fun _ _ _ h => h) (by decide) (by kernel_rfl) ?_ hS0 ?_
          rotate_left
          · intro w hSw; (try dsimp only at hSw); go_simp; (try with_reducible rfl)
          simp only [List.setIfInBounds_toArray, List.set_cons_zero, List.set_cons_succ]
          refine takeS (i := 7) (v := ?_) rfl rfl (by kernel_rfl) (by kernel_rfl) (by kernel_rfl) (fun _ _ _ h => h) (by decide) (by kernel_rfl) ?_ hS0 ?_
          rotate_left
          · intro w hSw; (try dsimp only at hSw); go_simp; (try with_reducible rfl)
          simp only [List.setIfInBounds_toArray, List.set_cons_zero, List.set_cons_succ]
          refine takeS (i := 8) (v := ?_) rfl rfl (by kernel_rfl) (by kernel_rfl) (by kernel_rfl) (fun _ _ _ h => h) (by decide) (by kernel_rfl) ?_ hS0 ?_
          rotate_left
          · intro w hSw; (try dsimp only at hSw); go_simp; (try with_reducible rfl)
          simp only [List.setIfInBounds_toArray, List.set_cons_zero, List.set_cons_succ]
          refine skipS (i := 9) rfl rfl (by kernel_rfl) (by kernel_rfl) (by kernel_rfl) (fun _ _ _ h => h) (by decide) (by kernel_rfl) hS0 ?_
          simp only [List.setIfInBounds_toArray, List.set_cons_zero, List.set_cons_succ]
          refine skipS (i := 10) rfl rfl (by kernel_rfl) (by kernel_rfl) (by kernel_rfl) (fun _ _ _ h => h) (by decide) (by kernel_rfl) hS0 ?_
          simp only [List.setIfInBounds_toArray, List.set_cons_zero, List.set_cons_succ]
          refine skipS (i := 11) rfl rfl (by kernel_rfl) (by kernel_rfl) (by kernel_rfl) (fun _ _ _ h => h) (by decide) (by kernel_rfl) hS0 ?_
          simp only [List.setIfInBounds_toArray, List.set_cons_zero, List.set_cons_succ]
          refine skipS (i := 12) rfl rfl (by kernel_rfl) (by kernel_rfl) (by kernel_rfl) (fun _ _ _ h => h) (by decide) (by kernel_rfl) hS0 ?_
          simp only [List.setIfInBounds_toArray, List.set_cons_zero, List.set_cons_succ]
          refine skipS (i := 13) rfl rfl (by kernel_rfl) (by kernel_rfl) (by kernel_rfl) (fun _ _ _ h => h) (by decide) (by kernel_rfl) hS0 ?_
          simp only [List.setIfInBounds_toArray, List.set_cons_zero, List.set_cons_succ]
          refine skipS (i := 14) rfl rfl (by kernel_rfl) (by kernel_rfl) (by kernel_rfl) (fun _ _ _ h => h) (by decide) (by kernel_rfl) hS0 ?_
          simp only [List.setIfInBounds_toArray, List.set_cons_zero, List.set_cons_succ]
          refine skipS (i := 15) rfl rfl (by kernel_rfl) (by kernel_rfl) (by kernel_rfl) (fun _ _ _ h => h) (by decide) (by kernel_rfl) hS0 ?_
          simp only [List.setIfInBounds_toArray, List.set_cons_zero, List.set_cons_succ]
          refine skipS (i := 16) rfl rfl (by kernel_rfl) (by kernel_rfl) (by kernel_rfl) (fun _ _ _ h => h) (by decide) (by kernel_rfl) hS0 ?_
          simp only [List.setIfInBounds_toArray, List.set_cons_zero, List.set_cons_succ]
          refine skipS (i := 17) rfl rfl (by kernel_rfl) (by kernel_rfl) (by kernel_rfl) (fun _ _ _ h => h) (by decide) (by kernel_rfl) hS0 ?_
          simp only [List.setIfInBounds_toArray, List.set_cons_zero, List.set_cons_succ]
          refine skipS (i := 18) rfl rfl (by kernel_rfl) (by kernel_rfl) (by kernel_rfl) (fun _ _ _ h => h) (by decide) (by kernel_rfl) hS0 ?_
          simp only [List.setIfInBounds_toArray, List.set_cons_zero, List.set_cons_succ]
          refine skipS (i := 19) rfl rfl (by kernel_rfl) (by kernel_rfl) (by kernel_rfl) (fun _ _ _ h => h) (by decide) (by kernel_rfl) hS0 ?_
          simp only [List.setIfInBounds_toArray, List.set_cons_zero, List.set_cons_succ]
          refine skipS (i := 20) rfl rfl (by kernel_rfl) (by kernel_rfl) (by kernel_rfl) (fun _ _ _ h => h) (by decide) (by kernel_rfl) hS0 ?_
          simp only [List.setIfInBounds_toArray, List.set_cons_zero, List.set_cons_succ]
          refine skipS (i := 21) rfl rfl (by kernel_rfl) (by kernel_rfl) (by kernel_rfl) (fun _ _ _ h => h) (by decide) (by kernel_rfl) hS0 ?_
          simp only [List.setIfInBounds_toArray, List.set_cons_zero, List.set_cons_succ]
          refine takeS (i := 22) (v := ?_) rfl rfl (by kernel_rfl) (by kernel_rfl) (by kernel_rfl) (fun _ _ _ h => h) (by decide) (by kernel_rfl) ?_ hS0 ?_
          rotate_left
          · intro w hSw; (try dsimp only at hSw); go_simp; (try with_reducible rfl)
          simp only [List.setIfInBounds_toArray, List.set_cons_zero, List.set_cons_succ]
          refine takeS (i := 23) (v := ?_) rfl rfl (by kernel_rfl) (by kernel_rfl) (by kernel_rfl) (fun _ _ _ h => h) (by decide) (by kernel_rfl) ?_ hS0 ?_
          rotate_left
          · intro w hSw; (try dsimp only at hSw); go_simp; (try with_reducible rfl)
          simp only [List.setIfInBounds_toArray, List.set_cons_zero, List.set_cons_succ]
          refine skipS (i := 24) rfl rfl (by kernel_rfl) (by kernel_rfl) (by kernel_rfl) (fun _ _ _ h => h) (by decide) (by kernel_rfl) hS0 ?_
          simp only [List.setIfInBounds_toArray, List.set_cons_zero, List.set_cons_succ]
          refine skipS (i := 25) rfl rfl (by kernel_rfl) (by kernel_rfl) (by kernel_rfl) (fun _ _ _ h => h) (by decide) (by kernel_rfl) hS0 ?_
          simp only [List.setIfInBounds_toArray, List.set_cons_zero, List.set_cons_succ]
          refine skipS (i := 26) rfl rfl (by kernel_rfl) (by kernel_rfl) (by kernel_rfl) (fun _ _ _ h => h) (by decide) (by kernel_rfl) hS0 ?_
          simp only [List.setIfInBounds_toArray, List.set_cons_zero, List.set_cons_succ]
          refine skipS (i := 27) rfl rfl (by kernel_rfl) (by kernel_rfl) (by kernel_rfl) (fun _ _ _ h => h) (by decide) (by kernel_rfl) hS0 ?_
          simp only [List.setIfInBounds_toArray, List.set_cons_zero, List.set_cons_succ]
          refine takeS (i := 28) (v := ?_) rfl rfl (by kernel_rfl) (by kernel_rfl) (by kernel_rfl) (fun _ _ _ h => h) (by decide) (by kernel_rfl) ?_ hS0 ?_
          rotate_left
          · intro w hSw; (try dsimp only at hSw); go_simp; (try with_reducible rfl)
          simp only [List.setIfInBounds_toArray, List.set_cons_zero, List.set_cons_succ]
          refine doneT (by kernel_rfl) ?_ _
          try simp only [List.setIfInBounds_toArray, List.set_cons_zero, List.set_cons_succ, Act.put]
          go_wp2_with fail
          go_meet
          exact ⟨by rw [HGD.out]; rfl, hb0⟩
        | true =>
          obtain ⟨fr, hfr⟩ : ∃ x, decide (y2 - wi < x2) = x := ⟨_, rfl⟩
          have HR := Lib.hid hfr
          cases fr with
          | true =>
            refine anyT_start (S := fun W : World => W.cell? ⟨D, 1, none⟩ = some (.slice (some ⟨Du, 0, none⟩) ps.length ps.length) ∧ W.cell? ⟨D, 2, none⟩ = some (.slice (some ⟨We, 0, none⟩) ps.length ps.length) ∧ W.cell? ⟨Du, i, none⟩ = some (.bool true) ∧ W.cell? ⟨We, i, none⟩ = some (.int .i64 wi) ∧ W.cell? ⟨B, 0, none⟩ = some (.int .i64 y1) ∧ W.cell? ⟨B, 1, none⟩ = some (.int .i64 y2) ∧ W.cell? ⟨B, 2, none⟩ = some (.int .i64 y3) ∧ W.cell? ⟨B, 3, none⟩ = some (.slice sa ysk.length sc) ∧ W.cell? ⟨w.heap.size, 1, none⟩ = some (.int .i64 x2)) (t := 29) (by kernel_rfl) ?_
            have hb0 : Below wb.heap.size wb wb.drew := (Below.refl _ _).drew
            have hS0 := HKS.out _ hb0
            generalize wb.drew = wd at *
            refine takeS (i := 0) (v := ?_) rfl rfl (by kernel_rfl) (by kernel_rfl) (by kernel_rfl) (fun _ _ _ h => h) (by decide) (by kernel_rfl) ?_ hS0 ?_
            rotate_left
            · intro w hSw; (try dsimp only at hSw); go_simp; (try with_reducible rfl)
            simp only [List.setIfInBounds_toArray, List.set_cons_zero, List.set_cons_succ]
            refine takeS (i := 1) (v := ?_) rfl rfl (by kernel_rfl) (by kernel_rfl) (by kernel_rfl) (fun _ _ _ h => h) (by decide) (by kernel_rfl) ?_ hS0 ?_
            rotate_left
            · intro w hSw; (try dsimp only at hSw); go_simp; (try with_reducible rfl)
            simp only [List.setIfInBounds_toArray, List.set_cons_zero, List.set_cons_succ]
            refine takeS (i := 2) (v := ?_) rfl rfl (by kernel_rfl) (by kernel_rfl) (by kernel_rfl) (fun _ _ _ h => h) (by decide) (by kernel_rfl) ?_ hS0 ?_
            rotate_left
            · intro w hSw; (try dsimp only at hSw); go_simp; (try with_reducible rfl)
            simp only [List.setIfInBounds_toArray, List.set_cons_zero, List.set_cons_succ]
            refine takeS (i := 3) (v := ?_) rfl rfl (by kernel_rfl) (by kernel_rfl) (by kernel_rfl) (fun _ _ _ h => h) (by decide) (by kernel_rfl) ?_ hS0 ?_
            rotate_left
            · intro w hSw; (try dsimp only at hSw); go_simp; (try with_reducible rfl)
            simp only [List.setIfInBounds_toArray, List.set_cons_zero, List.set_cons_succ]
            refine takeS (i := 4) (v := ?_) rfl rfl (by kernel_rfl) (by kernel_rfl) (by kernel_rfl) (fun _ _ _ h => h) (by decide) (by kernel_rfl) ?_ hS0 ?_
            rotate_left
            · intro w hSw; (try dsimp only at hSw); go_simp; (try with_reducible rfl)
            simp only [List.setIfInBounds_toArray, List.set_cons_zero, List.set_cons_succ]
            refine takeS (i := 5) (v := ?_) rfl rfl (by kernel_rfl) (by kernel_rfl) (by kernel_rfl) (fun _ _ _ h => h) (by decide) (by kernel_rfl) ?_ hS0 ?_
            rotate_left
            · intro w hSw; (try dsimp only at hSw); go_simp; first | (with_reducible rfl) | (rw [if_pos (by omega)])
            simp only [List.setIfInBounds_toArray, List.set_cons_zero, List.set_cons_succ]
            refine takeS (i := 6) (v := ?_) rfl rfl (by kernel_rfl) (by kernel_rfl) (by kernel_rfl) (fun _ _ _ h => h) (by decide) (by kernel_rfl) ?_ hS0 ?_
            rotate_left
            · intro w hSw; (try dsimp only at hSw); go_simp; (try with_reducible rfl)
            simp only [List.setIfInBounds_toArray, List.set_cons_zero, List.set_cons_succ]
            refine takeS (i := 7) (v := ?_) rfl rfl (by kernel_rfl) (by kernel_rfl) (by kernel_rfl) (fun _ _ _ h => h) (by decide) (by kernel_rfl) ?_ hS0 ?_
            rotate_left
            · intro w hSw; (try dsimp only at hSw); go_simp; (try with_reducible rfl)
            simp only [List.setIfInBounds_toArray, List.set_cons_zero, List.set_cons_succ]
            refine takeS (i := 8) (v := ?_) rfl rfl (by kernel_rfl) (by kernel_rfl) (by kernel_rfl) (fun _ _ _ h => h) (by decide) (by kernel_rfl) ?_ hS0 ?_
            rotate_left
            · intro w hSw; (try dsimp only at hSw); go_simp; (try with_reducible rfl)
            simp only [List.setIfInBounds_toArray, List.set_cons_zero, List.set_cons_succ]
            refine takeS (i := 9) (v := ?_) rfl rfl (by kernel_rfl) (by kernel_rfl) (by kernel_rfl) (fun _ _ _ h => h) (by decide) (by kernel_rfl) ?_ hS0 ?_
            rotate_left
            · intro w hSw; (try dsimp only at hSw); go_simp; (try with_reducible rfl)
            simp only [List.setIfInBounds_toArray, List.set_cons_zero, List.set_cons_succ]
            refine takeS (i := 10) (v := ?_) rfl rfl (by kernel_rfl) (by kernel_rfl) (by kernel_rfl) (fun _ _ _ h => h) (by decide) (by kernel_rfl) ?_ hS0 ?_
            rotate_left
            · intro w hSw; (try dsimp only at hSw); go_simp; (try with_reducible rfl)
            simp only [List.setIfInBounds_toArray, List.set_cons_zero, List.set_cons_succ]
            refine takeS (i := 11) (v := ?_) rfl rfl (by kernel_rfl) (by kernel_rfl) (by kernel_rfl) (fun _ _ _ h => h) (by decide) (by kernel_rfl) ?_ hS0 ?_
            rotate_left
            · intro w hSw; (try dsimp only at hSw); go_simp; (try with_reducible rfl)
            simp only [List.setIfInBounds_toArray, List.set_cons_zero, List.set_cons_succ]
            refine takeS (i := 12) (v := ?_) rfl rfl (by kernel_rfl) (by kernel_rfl) (by kernel_rfl) (fun _ _ _ h => h) (by decide) (by kernel_rfl) ?_ hS0 ?_
            rotate_left
            · intro w hSw; (try dsimp only at hSw); go_simp; (try with_reducible rfl)
            simp only [List.setIfInBounds_toArray, List.set_cons_zero, List.set_cons_succ]
            refine takeS (i := 13) (v := ?_) rfl rfl (by kernel_rfl) (by kernel_rfl) (by kernel_rfl) (fun _ _ _ h => h) (by decide) (by kernel_rfl) ?_ hS0 ?_
            rotate_left
            · intro w hSw; (try dsimp only at hSw); go_simp; (try with_reducible rfl)
            simp only [List.setIfInBounds_toArray, List.set_cons_zero, List.set_cons_succ]
            refine takeS (i := 14) (v := ?_) rfl rfl (by kernel_rfl) (by kernel_rfl) (by kernel_rfl) (fun _ _ _ h => h) (by decide) (by kernel_rfl) ?_ hS0 ?_
            rotate_left
            · intro w hSw; (try dsimp only at hSw); go_simp; (try with_reducible rfl)
            simp only [List.setIfInBounds_toArray, List.set_cons_zero, List.set_cons_succ]
            refine takeS (i := 15) (v := ?_) rfl rfl (by kernel_rfl) (by kernel_rfl) (by kernel_rfl) (fun _ _ _ h => h) (by decide) (by kernel_rfl) ?_ hS0 ?_
            rotate_left
            · intro w hSw; (try dsimp only at hSw); go_simp; (try with_reducible rfl)
            simp only [List.setIfInBounds_toArray, List.set_cons_zero, List.set_cons_succ]
            refine takeS (i := 16) (v := ?_) rfl rfl (by kernel_rfl) (by kernel_rfl) (by kernel_rfl) (fun _ _ _ h => h) (by decide) (by kernel_rfl) ?_ hS0 ?_
            rotate_left
            · intro w hSw; (try dsimp only at hSw); go_simp; first | (with_reducible rfl) | (rw [if_pos (by omega)])
            simp only [List.setIfInBounds_toArray, List.set_cons_zero, List.set_cons_succ]
            refine takeS (i := 17) (v := ?_) rfl rfl (by kernel_rfl) (by kernel_rfl) (by kernel_rfl) (fun _ _ _ h => h) (by decide) (by kernel_rfl) ?_ hS0 ?_
            rotate_left
            · intro w hSw; (try dsimp only at hSw); go_simp; (try with_reducible rfl)
            simp only [List.setIfInBounds_toArray, List.set_cons_zero, List.set_cons_succ]
            refine takeS (i := 18) (v := ?_) rfl rfl (by kernel_rfl) (by kernel_rfl) (by kernel_rfl) (fun _ _ _ h => h) (by decide) (by kernel_rfl) ?_ hS0 ?_
            rotate_left
            · intro w hSw; (try dsimp only at hSw); go_simp; (try with_reducible rfl)
            simp only [List.setIfInBounds_toArray, List.set_cons_zero, List.set_cons_succ]
            refine takeS (i := 19) (v := ?_) rfl rfl (by kernel_rfl) (by kernel_rfl) (by kernel_rfl) (fun _ _ _ h => h) (by decide) (by kernel_rfl) ?_ hS0 ?_
            rotate_left
            · intro w hSw; (try dsimp only at hSw); go_simp; (try with_reducible rfl)
            simp only [List.setIfInBounds_toArray, List.set_cons_zero, List.set_cons_succ]
            refine takeS (i := 20) (v := ?_) rfl rfl (by kernel_rfl) (by kernel_rfl) (by kernel_rfl) (fun _ _ _ h => h) (by decide) (by kernel_rfl) ?_ hS0 ?_
            rotate_left
            · intro w hSw; (try dsimp only at hSw); go_simp; (try with_reducible rfl)
            simp only [List.setIfInBounds_toArray, List.set_cons_zero, List.set_cons_succ]
            refine takeS (i := 21) (v := ?_) rfl rfl (by kernel_rfl) (by kernel_rfl) (by kernel_rfl) (fun _ _ _ h => h) (by decide) (by kernel_rfl) ?_ hS0 ?_
            rotate_left
            · intro w hSw; (try dsimp only at hSw); go_simp; (try with_reducible rfl)
            simp only [List.setIfInBounds_toArray, List.set_cons_zero, List.set_cons_succ]
            refine takeS (i := 22) (v := ?_) rfl rfl (by kernel_rfl) (by kernel_rfl) (by kernel_rfl) (fun _ _ _ h => h) (by decide) (by kernel_rfl) ?_ hS0 ?_
            rotate_left
            · intro w hSw; (try dsimp only at hSw); go_simp; (try with_reducible rfl)
            simp only [List.setIfInBounds_toArray, List.set_cons_zero, List.set_cons_succ]
            refine takeS (i := 23) (v := ?_) rfl rfl (by kernel_rfl) (by kernel_rfl) (by kernel_rfl) (fun _ _ _ h => h) (by decide) (by kernel_rfl) ?_ hS0 ?_
            rotate_left
            · intro w hSw; (try dsimp only at hSw); go_simp; (try with_reducible rfl)
            simp only [List.setIfInBounds_toArray, List.set_cons_zero, List.set_cons_succ]
            refine skipS (i := 24) rfl rfl (by kernel_rfl) (by kernel_rfl) (by kernel_rfl) (fun _ _ _ h => h) (by decide) (by kernel_rfl) hS0 ?_
            simp only [List.setIfInBounds_toArray, List.set_cons_zero, List.set_cons_succ]
            refine skipS (i := 25) rfl rfl (by kernel_rfl) (by kernel_rfl) (by kernel_rfl) (fun _ _ _ h => h) (by decide) (by kernel_rfl) hS0 ?_
            simp only [List.setIfInBounds_toArray, List.set_cons_zero, List.set_cons_succ]
            refine skipS (i := 26) rfl rfl (by kernel_rfl) (by kernel_rfl) (by kernel_rfl) (fun _ _ _ h => h) (by decide) (by kernel_rfl) hS0 ?_
            simp only [List.setIfInBounds_toArray, List.set_cons_zero, List.set_cons_succ]
            refine skipS (i := 27) rfl rfl (by kernel_rfl) (by kernel_rfl) (by kernel_rfl) (fun _ _ _ h => h) (by decide) (by kernel_rfl) hS0 ?_
            simp only [List.setIfInBounds_toArray, List.set_cons_zero, List.set_cons_succ]
            refine takeS (i := 28) (v := ?_) rfl rfl (by kernel_rfl) (by kernel_rfl) (by kernel_rfl) (fun _ _ _ h => h) (by decide) (by kernel_rfl) ?_ hS0 ?_
            rotate_left
            · intro w hSw; (try dsimp only at hSw); go_simp; (try with_reducible rfl)
            simp only [List.setIfInBounds_toArray, List.set_cons_zero, List.set_cons_succ]
            refine doneT (by kernel_rfl) ?_ _
            try simp only [List.setIfInBounds_toArray, List.set_cons_zero, List.set_cons_succ, Act.put]
            go_wp2_with fail
            go_meet
            exact ⟨by rw [HGD.out, HR.out]; rfl, hb0⟩
          | false =>
            refine anyT_start (S := fun W : World => W.cell? ⟨D, 1, none⟩ = some (.slice (some ⟨Du, 0, none⟩) ps.length ps.length) ∧ W.cell? ⟨D, 2, none⟩ = some (.slice (some ⟨We, 0, none⟩) ps.length ps.length) ∧ W.cell? ⟨Du, i, none⟩ = some (.bool true) ∧ W.cell? ⟨We, i, none⟩ = some (.int .i64 wi) ∧ W.cell? ⟨B, 0, none⟩ = some (.int .i64 y1) ∧ W.cell? ⟨B, 1, none⟩ = some (.int .i64 y2) ∧ W.cell? ⟨B, 2, none⟩ = some (.int .i64 y3) ∧ W.cell? ⟨B, 3, none⟩ = some (.slice sa ysk.length sc) ∧ W.cell? ⟨w.heap.size, 1, none⟩ = some (.int .i64 x2)) (t := 29) (by kernel_rfl) ?_
            have hb0 : Below wb.heap.size wb wb.drew := (Below.refl _ _).drew
            have hS0 := HKS.out _ hb0
            generalize wb.drew = wd at *
            refine takeS (i := 0) (v := ?_) rfl rfl (by kernel_rfl) (by kernel_rfl) (by kernel_rfl) (fun _ _ _ h => h) (by decide) (by kernel_rfl) ?_ hS0 ?_
            rotate_left
            · intro w hSw; (try dsimp only at hSw); go_simp; (try with_reducible rfl)
            simp only [List.setIfInBounds_toArray, List.set_cons_zero, List.set_cons_succ]
            refine takeS (i := 1) (v := ?_) rfl rfl (by kernel_rfl) (by kernel_rfl) (by kernel_rfl) (fun _ _ _ h => h) (by decide) (by kernel_rfl) ?_ hS0 ?_
            rotate_left
            · intro w hSw; (try dsimp only at hSw); go_simp; (try with_reducible rfl)
            simp only [List.setIfInBounds_toArray, List.set_cons_zero, List.set_cons_succ]
            refine takeS (i := 2) (v := ?_) rfl rfl (by kernel_rfl) (by kernel_rfl) (by kernel_rfl) (fun _ _ _ h => h) (by decide) (by kernel_rfl) ?_ hS0 ?_
            rotate_left
            · intro w hSw; (try dsimp only at hSw); go_simp; (try with_reducible rfl)
            simp only [List.setIfInBounds_toArray, List.set_cons_zero, List.set_cons_succ]
            refine takeS (i := 3) (v := ?_) rfl rfl (by kernel_rfl) (by kernel_rfl) (by kernel_rfl) (fun _ _ _ h => h) (by decide) (by kernel_rfl) ?_ hS0 ?_
            rotate_left
            · intro w hSw; (try dsimp only at hSw); go_simp; (try with_reducible rfl)
            simp only [List.setIfInBounds_toArray, List.set_cons_zero, List.set_cons_succ]
            refine takeS (i := 4) (v := ?_) rfl rfl (by kernel_rfl) (by kernel_rfl) (by kernel_rfl) (fun _ _ _ h => h) (by decide) (by kernel_rfl) ?_ hS0 ?_
            rotate_left
            · intro w hSw; (try dsimp only at hSw); go_simp; (try with_reducible rfl)
            simp only [List.setIfInBounds_toArray, List.set_cons_zero, List.set_cons_succ]
            refine takeS (i := 5) (v := ?_) rfl rfl (by kernel_rfl) (by kernel_rfl) (by kernel_rfl) (fun _ _ _ h => h) (by decide) (by kernel_rfl) ?_ hS0 ?_
            rotate_left
            · intro w hSw; (try dsimp only at hSw); go_simp; first | (with_reducible rfl) | (rw [if_pos (by omega)])
            simp only [List.setIfInBounds_toArray, List.set_cons_zero, List.set_cons_succ]
            refine takeS (i := 6) (v := ?_) rfl rfl (by kernel_rfl) (by kernel_rfl) (by kernel_rfl) (fun _ _ _ h => h) (by decide) (by kernel_rfl) ?_ hS0 ?_
            rotate_left
            · intro w hSw; (try dsimp only at hSw); go_simp; (try with_reducible rfl)
            simp only [List.setIfInBounds_toArray, List.set_cons_zero, List.set_cons_succ]
            refine takeS (i := 7) (v := ?_) rfl rfl (by kernel_rfl) (by kernel_rfl) (by kernel_rfl) (fun _ _ _ h => h) (by decide) (by kernel_rfl) ?_ hS0 ?_
            rotate_left
            · intro w hSw; (try dsimp only at hSw); go_simp; (try with_reducible rfl)
            simp only [List.setIfInBounds_toArray, List.set_cons_zero, List.set_cons_succ]
            refine takeS (i := 8) (v := ?_) rfl rfl (by kernel_rfl) (by kernel_rfl) (by kernel_rfl) (fun _ _ _ h => h) (by decide) (by kernel_rfl) ?_ hS0 ?_
            rotate_left
            · intro w hSw; (try dsimp only at hSw); go_simp; (try with_reducible rfl)
            simp only [List.setIfInBounds_toArray, List.set_cons_zero, List.set_cons_succ]
            refine takeS (i := 9) (v := ?_) rfl rfl (by kernel_rfl) (by kernel_rfl) (by kernel_rfl) (fun _ _ _ h => h) (by decide) (by kernel_rfl) ?_ hS0 ?_
            rotate_left
            · intro w hSw; (try dsimp only at hSw); go_simp; (try with_reducible rfl)
            simp only [List.setIfInBounds_toArray, List.set_cons_zero, List.set_cons_succ]
            refine takeS (i := 10) (v := ?_) rfl rfl (by kernel_rfl) (by kernel_rfl) (by kernel_rfl) (fun _ _ _ h => h) (by decide) (by kernel_rfl) ?_ hS0 ?_
            rotate_left
            · intro w hSw; (try dsimp only at hSw); go_simp; (try with_reducible rfl)
            simp only [List.setIfInBounds_toArray, List.set_cons_zero, List.set_cons_succ]
            refine takeS (i := 11) (v := ?_) rfl rfl (by kernel_rfl) (by kernel_rfl) (by kernel_rfl) (fun _ _ _ h => h) (by decide) (by kernel_rfl) ?_ hS0 ?_
            rotate_left
            · intro w hSw; (try dsimp only at hSw); go_simp; (try with_reducible rfl)
            simp only [List.setIfInBounds_toArray, List.set_cons_zero, List.set_cons_succ]
            refine takeS (i := 12) (v := ?_) rfl rfl (by kernel_rfl) (by kernel_rfl) (by kernel_rfl) (fun _ _ _ h => h) (by decide) (by kernel_rfl) ?_ hS0 ?_
            rotate_left
            · intro w hSw; (try dsimp only at hSw); go_simp; (try with_reducible rfl)
            simp only [List.setIfInBounds_toArray, List.set_cons_zero, List.set_cons_succ]
            refine takeS (i := 13) (v := ?_) rfl rfl (by kernel_rfl) (by kernel_rfl) (by kernel_rfl) (fun _ _ _ h => h) (by decide) (by kernel_rfl) ?_ hS0 ?_
            rotate_left
            · intro w hSw; (try dsimp only at hSw); go_simp; (try with_reducible rfl)
            simp only [List.setIfInBounds_toArray, List.set_cons_zero, List.set_cons_succ]
            refine takeS (i := 14) (v := ?_) rfl rfl (by kernel_rfl) (by kernel_rfl) (by kernel_rfl) (fun _ _ _ h => h) (by decide) (by kernel_rfl) ?_ hS0 ?_
            rotate_left
            · intro w hSw; (try dsimp only at hSw); go_simp; (try with_reducible rfl)
            simp only [List.setIfInBounds_toArray, List.set_cons_zero, List.set_cons_succ]
            refine takeS (i := 15) (v := ?_) rfl rfl (by kernel_rfl) (by kernel_rfl) (by kernel_rfl) (fun _ _ _ h => h) (by decide) (by kernel_rfl) ?_ hS0 ?_
            rotate_left
            · intro w hSw; (try dsimp only at hSw); go_simp; (try with_reducible rfl)
            simp only [List.setIfInBounds_toArray, List.set_cons_zero, List.set_cons_succ]
            refine takeS (i := 16) (v := ?_) rfl rfl (by kernel_rfl) (by kernel_rfl) (by kernel_rfl) (fun _ _ _ h => h) (by decide) (by kernel_rfl) ?_ hS0 ?_
            rotate_left
            · intro w hSw; (try dsimp only at hSw); go_simp; first | (with_reducible rfl) | (rw [if_pos (by omega)])
            simp only [List.setIfInBounds_toArray, List.set_cons_zero, List.set_cons_succ]
            refine takeS (i := 17) (v := ?_) rfl rfl (by kernel_rfl) (by kernel_rfl) (by kernel_rfl) (fun _ _ _ h => h) (by decide) (by kernel_rfl) ?_ hS0 ?_
            rotate_left
            · intro w hSw; (try dsimp only at hSw); go_simp; (try with_reducible rfl)
            simp only [List.setIfInBounds_toArray, List.set_cons_zero, List.set_cons_succ]
            refine takeS (i := 18) (v := ?_) rfl rfl (by kernel_rfl) (by kernel_rfl) (by kernel_rfl) (fun _ _ _ h => h) (by decide) (by kernel_rfl) ?_ hS0 ?_
            rotate_left
            · intro w hSw; (try dsimp only at hSw); go_simp; (try with_reducible rfl)
            simp only [List.setIfInBounds_toArray, List.set_cons_zero, List.set_cons_succ]
            refine takeS (i := 19) (v := ?_) rfl rfl (by kernel_rfl) (by kernel_rfl) (by kernel_rfl) (fun _ _ _ h => h) (by decide) (by kernel_rfl) ?_ hS0 ?_
            rotate_left
            · intro w hSw; (try dsimp only at hSw); go_simp; (try with_reducible rfl)
            simp only [List.setIfInBounds_toArray, List.set_cons_zero, List.set_cons_succ]
            refine takeS (i := 20) (v := ?_) rfl rfl (by kernel_rfl) (by kernel_rfl) (by kernel_rfl) (fun _ _ _ h => h) (by decide) (by kernel_rfl) ?_ hS0 ?_
            rotate_left
            · intro w hSw; (try dsimp only at hSw); go_simp; (try with_reducible rfl)
            simp only [List.setIfInBounds_toArray, List.set_cons_zero, List.set_cons_succ]
            refine takeS (i := 21) (v := ?_) rfl rfl (by kernel_rfl) (by kernel_rfl) (by kernel_rfl) (fun _ _ _ h => h) (by decide) (by kernel_rfl) ?_ hS0 ?_
            rotate_left
            · intro w hSw; (try dsimp only at hSw); go_simp; (try with_reducible rfl)
            simp only [List.setIfInBounds_toArray, List.set_cons_zero, List.set_cons_succ]
            refine takeS (i := 22) (v := ?_) rfl rfl (by kernel_rfl) (by kernel_rfl) (by kernel_rfl) (fun _ _ _ h => h) (by decide) (by kernel_rfl) ?_ hS0 ?_
            rotate_left
            · intro w hSw; (try dsimp only at hSw); go_simp; (try with_reducible rfl)
            simp only [List.setIfInBounds_toArray, List.set_cons_zero, List.set_cons_succ]
            refine takeS (i := 23) (v := ?_) rfl rfl (by kernel_rfl) (by kernel_rfl) (by kernel_rfl) (fun _ _ _ h => h) (by decide) (by kernel_rfl) ?_ hS0 ?_
            rotate_left
            · intro w hSw; (try dsimp only at hSw); go_simp; (try with_reducible rfl)
            simp only [List.setIfInBounds_toArray, List.set_cons_zero, List.set_cons_succ]
            refine takeS (i := 24) (v := ?_) rfl rfl (by kernel_rfl) (by kernel_rfl) (by kernel_rfl) (fun _ _ _ h => h) (by decide) (by kernel_rfl) ?_ hS0 ?_
            rotate_left
            · intro w hSw; (try dsimp only at hSw); go_simp; (try with_reducible rfl)
            simp only [List.setIfInBounds_toArray, List.set_cons_zero, List.set_cons_succ]
            refine takeS (i := 25) (v := ?_) rfl rfl (by kernel_rfl) (by kernel_rfl) (by kernel_rfl) (fun _ _ _ h => h) (by decide) (by kernel_rfl) ?_ hS0 ?_
            rotate_left
            · intro w hSw; (try dsimp only at hSw); go_simp; (try with_reducible rfl)
            simp only [List.setIfInBounds_toArray, List.set_cons_zero, List.set_cons_succ]
            refine oneT (i := 26) rfl (by kernel_rfl) (fun K hK => ?_)
            go_simp
            refine (able_any ⟨y1, y2, y3, ysk⟩ _ _ nd wd (HSK2.out.below hb0) hs12 (HN.out.below (below_up HB2.out hb0 HB2.out.size)) (by omega)).mono ?_
            rintro e w7 ⟨rfl, hb7⟩
            have hall := below_up hb0 hb7 hb0.size
            have hS1 := HKS.out _ hall
            refine hK.out _ _ (fun _ => hS1) ?_
            clear hK
            try simp only [List.setIfInBounds_toArray, List.set_cons_zero, List.set_cons_succ, Act.put]
            have HGE := Lib.hid (show ok i = ableF ⟨y1, y2, y3, ysk⟩ nd by rw [HGD.out, HR.out]; simp)
            generalize ableF ⟨y1, y2, y3, ysk⟩ nd = ab at *
            refine oneT (i := 27) rfl (by kernel_rfl) (fun K hK => ?_)
            go_simp
            refine hK.out _ _ (fun _ => hS1) ?_
            clear hK
            try simp only [List.setIfInBounds_toArray, List.set_cons_zero, List.set_cons_succ, Act.put]
            refine oneT (i := 28) rfl (by kernel_rfl) (fun K hK => ?_)
            go_simp
            refine hK.out _ _ (fun _ => hS1) ?_
            clear hK
            try simp only [List.setIfInBounds_toArray, List.set_cons_zero, List.set_cons_succ, Act.put]
            refine doneT (by kernel_rfl) ?_ _
            try simp only [List.setIfInBounds_toArray, List.set_cons_zero, List.set_cons_succ, Act.put]
            go_wp2_with fail
            go_meet
            exact ⟨by rw [HGE.out], hall⟩
      case rest =>
        obtain ⟨rfl, hbw⟩ := hcut
        have HBW := Lib.hid (below_up HB2.out hbw HB2.out.size)
        have HWW := Lib.hid (HW2.out.below hbw HW2.out.lt)
        have HXW := Lib.hid (HX2.out.below hbw hz3)
        have HOW := Lib.hid (owns_below HO2.out hbw)
        have hzw := hbw.size
        clear HKS hbw hs12
        obtain ⟨t, ht⟩ : ∃ t, ok i = t := ⟨_, rfl⟩
        have HT := Lib.hid ht
        rw [ht]
        clear ht
        have hzz := HWW.out.lt
        have HNX := Lib.hid (show (List.range (i + 1)).filter ok = L ++ if t then [i] else [] from by
          rw [List.range_succ, List.filter_append, ← HL.out, ← HT.out]
          cases h : ok i <;> simp [h])
        cases t with
        | false =>
          have HN2 := Lib.hid (show RfChI ok w wc #[.int .i64 x1, .int .i64 x2, .int .i64 x3, .int .i64 x4, .int .i64 x5, .slice qa sn qc] (i + 1) (.slice la' L.length lc) from ⟨by rw [HNX.out]; simp only [Bool.false_eq_true, if_false, List.append_nil]; exact HOW.out, HBW.out, HWW.out⟩)
          clear HNX
          go_wp2_with fail
          go_roundw
          case rel => exact ⟨i + 1, by go_num, hlt, HN2.out⟩
          case measure => simp [intOf]; omega
        | true =>
          have k0 := HXW.out.cell 0
          have k4 := HWW.out.cell 4
          obtain ⟨fm, hfm⟩ : ∃ x, (y1 == x5) = x := ⟨_, rfl⟩
          cases fm with
          | true =>
            have hfe : y1 = x5 := by simpa using hfm
            have hfd : decide (y1 = x5) = true := by simpa using hfe
            clear hfe
            go_wp2_with fail
            go_ret
            exact ⟨⟨_, rfl, .inr ⟨i, hlt, rfl, HT.out⟩⟩, HBW.out⟩
          | false =>
            have hfe : ¬ y1 = x5 := by simpa using hfm
            have hfd : decide (y1 = x5) = false := by simpa using hfe
            clear hfe
            generalize hnn : L.length = n at *
            have HNN := Lib.hid hnn
            clear hnn
            go_wp2_with (at_builtin; go_must (refine append_one rfl _ _ 39 rfl (w.heap.size + 1) 3 (.int .i64 0) 1 8 Tryz.underlying39 infoInt rfl (by decide) wc wc (.slice la' n lc) n (L.map fun i => .int .i64 ((i : Nat) : Int)) rfl HOW.out [.int .i64 ((i : Nat) : Int)] rfl rfl rfl (by intro u hu; rw [List.mem_singleton.1 hu]; rfl) (by omega) (by omega) (by omega) (Below.refl _ _) ?_); intro v' w6 ho hb6 hg6 hn6)
            have HN2 := Lib.hid (show RfChI ok w w6 #[.int .i64 x1, .int .i64 x2, .int .i64 x3, .int .i64 x4, .int .i64 x5, .slice qa sn qc] (i + 1) v' from ⟨by rw [HNX.out]; simp only [if_true, List.length_append, List.length_singleton, List.map_append, HNN.out]; exact ho, HBW.out.trans (hb6.mono (by omega)), HWW.out.below hb6 (by omega)⟩)
            obtain ⟨va, vc, rfl⟩ := owns_slice ho
            clear ho hb6 hg6 hn6
            go_wp2_with fail
            go_roundw
            case rel => exact ⟨i + 1, by go_num, hlt, HN2.out⟩
            case measure => simp [intOf]; omega
    · skip
      obtain rfl : i = ps.length := by omega
      have HBF := Lib.hid HI.out.below
      rcases Nat.eq_zero_or_pos L.length with h0 | hpos
      · have HA := Lib.hid (show ∀ i, i < ps.length → ok i = false from fun i hi => by
          have hL := HL.out
          rw [List.eq_nil_of_length_eq_zero h0] at hL
          cases h : ok i with
          | false => rfl
          | true =>
            have : i ∈ (List.range ps.length).filter ok := List.mem_filter.2 ⟨List.mem_range.2 hi, h⟩
            rw [← hL] at this
            cases this)
        have q5 : ((L.length : Int) == 0) = true := by simp [h0]
        have q6 : (L.length == 0) = true := by simp [h0]
        clear HI HO
        go_wp2_with fail
        go_ret
        exact ⟨⟨_, rfl, .inl ⟨rfl, HA.out⟩⟩, HBF.out⟩
      · have q5 : ((L.length : Int) == 0) = false := beq_eq_false_iff_ne.2 (by omega)
        have q6 : (L.length == 0) = false := beq_eq_false_iff_ne.2 (by omega)
        have HS := Lib.hid (show SliceAt 1 intR wr (.slice la' L.length lc) (L.map fun i => ((i : Nat) : Int)) from by
          have := slice_of_owns1 (R := intR) (l := L.map fun i => ((i : Nat) : Int)) (fun n : Int => Value.int .i64 n) (w := wr) (B := w.heap.size + 1) (e := 3) (v := .slice la' L.length lc) (by rw [List.length_map, List.map_map]; exact HO.out) (fun x _ => rfl)
          exact this)
        have HM := Lib.hid (min_any ps _ D Du We La du we la wr (HD.out.below HBF.out (Nat.le_refl _)) (HP.out.below HBF.out) L _ (fun x hx => by rw [HL.out] at hx; exact List.mem_range.1 (List.mem_filter.1 hx).1) hpos (by omega) HS.out)
        clear HI HO HS
        go_wp2_with fail
        refine HM.out.mono ?_
        rintro e w3 ⟨⟨x, hx, rfl⟩, hb3⟩
        have HX := Lib.hid hx
        have HB3 := Lib.hid (below_up HBF.out hb3 HBF.out.size)
        clear hx hb3
        go_wp2_with fail
        go_ret
        refine ⟨⟨_, rfl, .inr ⟨x, ?_, rfl, ?_⟩⟩, HB3.out⟩
        · have := HX.out
          rw [HL.out] at this
          exact List.mem_range.1 (List.mem_filter.1 this).1
        · have := HX.out
          rw [HL.out] at this
          exact (List.mem_filter.1 this).2
end Go.Proofs.YtemikhnkjligdaaGreatDoor
