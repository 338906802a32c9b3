/- The walks of route.weights and route.Room. -/
import Derived.Test.YtemikhnkjligdaaGreatDoorQRfStp
import Derived.Test.YtemikhnkjligdaaGreatDoorQOrd3
import Derived.Test.YtemikhnkjligdaaGreatDoorQSortK
import Derived.Test.YtemikhnkjligdaaGreatDoorQRfCln
namespace Go.Proofs.YtemikhnkjligdaaGreatDoor
open Go.RowKit

theorem pp_rise {ps : List PerD} (h : PpFine ps) : ps.Pairwise fun a b => a.no < b.no := by
  rw [List.pairwise_iff_getElem]
  intro i j hi hj hij
  induction j with
  | zero => omega
  | succ j ih =>
    have h1 : (ps[j]).no < (ps[j + 1]).no := h.2.order j hj
    by_cases e : i = j
    · subst e; exact h1
    · have := ih (by omega) (by omega)
      omega
theorem pos_at {ps : List PerD} {no k : Int} (h : PosIs ps no k) (hps : PpFine ps) {n : Nat} (hn : n < ps.length) (e : ps[n].no = no) : k = (n : Int) := by
  rcases h with ⟨_, h⟩ | ⟨m, hm, rfl, h, _⟩
  · have := h _ (List.getElem_mem hn)
    rw [e] at this
    simp at this
  · have h : ps[m].no = no := by simpa using h
    have := no_inj (pp_rise hps) hm hn (h.trans e.symm)
    omega
theorem hd_pos {ps : List PerD} {l : List HdD} (h : HdFine ps l) {i : Nat} (hi : i < l.length) : ∃ n, ∃ hn : n < ps.length, ps[n].no = l[i].no := by
  obtain ⟨p, hp, e⟩ := (h.2.each i hi).2.1
  obtain ⟨n, hn, rfl⟩ := List.mem_iff_getElem.1 hp
  exact ⟨n, hn, e⟩
structure WtInv (ps : List PerD) (l : List HdD) (w wr : World) (i : Nat) : Prop where
  le : i ≤ l.length
  ints : IntsB wr w.heap.size (wts ps (l.take i))
  below : Below w.heap.size w wr
theorem wts_nil (ps : List PerD) : wts ps [] = List.replicate ps.length 0 := by
  refine List.ext_getElem (by simp [wts]) fun i h1 h2 => ?_
  simp [wts, wtN_nil]
set_option maxRecDepth 100000 in
set_option maxHeartbeats 4000000 in
theorem weights_any (ps : List PerD) (vp : Value) (l : List HdD) (v : Value) (w : World) (hp : Pers w vp ps) (h : Hds w v l) (hpf : PpFine ps) (hlf : HdFine ps l) :
    Calls Tryz.prog 24 #[vp, v] w fun e w' => e = .returned (.slice (some ⟨w.heap.size, 0, none⟩) ps.length ps.length) ∧ IntsB w' w.heap.size (wts ps l) ∧ Below w.heap.size w w' := by
  obtain ⟨a, cap, rfl⟩ := SliceAt.len h
  obtain ⟨pa, pc, rfl⟩ := SliceAt.len hp
  have hl := hlf.1
  have hpl := hpf.1
  have H := Lib.hid h
  have HPS := Lib.hid hp
  have HPF := Lib.hid hpf
  have HLF := Lib.hid hlf
  have hmk := make_ints w ps.length (by omega)
  have hm0 := madeInts w ps.length
  have hb0 : Below w.heap.size w (w.alloc (.cells (madeCells #[.int .i64 0] ps.length) 3)) := (Below.refl _ _).alloc (Nat.le_refl _) _
  rw [← wts_nil] at hm0
  have HM0 := Lib.hid hm0
  have HB0 := Lib.hid hb0
  generalize w.alloc (.cells (madeCells #[.int .i64 0] ps.length) 3) = w1 at *
  clear h hp hpf hlf hm0 hb0
  go_enter Tryz.func24, Tryz.ntmps24
  go_wp2_with fail
  go_loopw [13] (fun iv wr => ∃ i : Nat, iv = .int .i64 ((i : Nat) : Int) ∧ WtInv ps l w wr i) (fun iv _ => l.length - (intOf iv).toNat)
  case atStart => exact ⟨0, rfl, Nat.zero_le _, by rw [List.take_zero]; exact HM0.out, HB0.out⟩
  case round =>
    obtain ⟨i, rfl, hI⟩ := hrel
    have HI := Lib.hid hI
    have hi := hI.le
    clear hI hmk HM0 HB0
    by_cases hlt : i < l.length
    · obtain ⟨b, of', cap', hv, hb, hel⟩ := Hds.at H.out (by omega)
      cases hv
      obtain ⟨e0, e1, e2, e3⟩ := hel i hlt
      have c0 := (below_cell HI.out.below hb).trans e0
      have c1 := (below_cell HI.out.below hb).trans e1
      have c2 := (below_cell HI.out.below hb).trans e2
      have c3 := (below_cell HI.out.below hb).trans e3
      obtain ⟨n, hn, hno⟩ := hd_pos HLF.out hlt
      have HNX := Lib.hid (wts_next (pp_rise HPF.out) hlt hn hno)
      have hbd := wtN_bound (l.take i) l[i].no (fun x hx => (HLF.out.2.mem (List.mem_of_mem_take hx)).2.2.1)
      have hw1 := (HLF.out.2.each i hlt).2.2.1
      have hcl := (HI.out.ints.cells n (by rw [wts_length]; exact hn)).1
      rw [wts_at hn, hno] at hcl
      have HNO := Lib.hid hno
      clear e0 e1 e2 e3 hel hno
      rw [List.length_take] at hbd
      generalize hs : l[i] = s at *
      clear hs
      obtain ⟨x1, x2, x3, x4⟩ := s
      simp only at c0 c1 c2 c3 hbd hw1 hcl HNO HNX
      generalize wtN (l.take i) x2 = y at *
      have r1 : IntKind.i64.wrap (y + x3) = y + x3 := IntWalk.i64_in _ (by omega)
      obtain ⟨z, hz⟩ : ∃ z, z = y + x3 := ⟨_, rfl⟩
      rw [← hz] at r1 HNX
      have HW := Lib.hid (show wrap64 (y + x3) = z by unfold wrap64; omega)
      clear hbd hw1 hz
      obtain ⟨bx, bbl⟩ := box1 wr #[.int .i64 x1, .int .i64 x2, .int .i64 x3, .int .i64 x4] 33
      have HB4 := Lib.hid (below_up HI.out.below bbl HI.out.below.size)
      have k1 := bx.cell 1
      have k2 := bx.cell 2
      have hBl := bx.lt
      have hIB := HI.out.ints.lt
      have HIN := Lib.hid (show IntsB _ w.heap.size (wts ps (l.take i)) from HI.out.ints.below bbl HI.out.ints.lt)
      have hcl := (below_cell bbl HI.out.ints.lt).trans hcl
      have hIB2 : w.heap.size < (wr.alloc (.cells #[.int .i64 x1, .int .i64 x2, .int .i64 x3, .int .i64 x4] 33)).heap.size := HIN.out.lt
      go_upto_region 5 with fail
      generalize wr.alloc (.cells #[.int .i64 x1, .int .i64 x2, .int .i64 x3, .int .i64 x4] 33) = wb at *
      have hne : w.heap.size ≠ wr.heap.size := by omega
      generalize wr.heap.size = B at *
      clear bx bbl c0 c1 c2 c3 hIB
      refine anyT_start (S := fun W : World => W.cell? ⟨B, 1, none⟩ = some (.int .i64 x2) ∧ W.cell? ⟨B, 2, none⟩ = some (.int .i64 x3)) (t := 11) (by kernel_rfl) ?_
      have hall0 := (Below.refl wb.heap.size wb).drew
      have hS0 : wb.drew.cell? ⟨B, 1, none⟩ = some (.int .i64 x2) ∧ wb.drew.cell? ⟨B, 2, none⟩ = some (.int .i64 x3) := ⟨k1, k2⟩
      generalize wb.drew = wd at *
      refine takeT (i := 0) (v := ?_) rfl rfl (by kernel_rfl) (by kernel_rfl) (by kernel_rfl) (fun _ _ _ h => h) (by decide) (by kernel_rfl) (by kernel_rfl) ?_ hS0 ?_
      rotate_left
      · intro w hSw; (try dsimp only at hSw); go_simp; (try with_reducible rfl)
      simp only [List.setIfInBounds_toArray, List.set_cons_zero, List.set_cons_succ]
      refine takeT (i := 1) (v := ?_) rfl rfl (by kernel_rfl) (by kernel_rfl) (by kernel_rfl) (fun _ _ _ h => h) (by decide) (by kernel_rfl) (by kernel_rfl) ?_ hS0 ?_
      rotate_left
      · intro w hSw; (try dsimp only at hSw); go_simp; (try with_reducible rfl)
      simp only [List.setIfInBounds_toArray, List.set_cons_zero, List.set_cons_succ]
      refine takeT (i := 2) (v := ?_) rfl rfl (by kernel_rfl) (by kernel_rfl) (by kernel_rfl) (fun _ _ _ h => h) (by decide) (by kernel_rfl) (by kernel_rfl) ?_ hS0 ?_
      rotate_left
      · intro w hSw; (try dsimp only at hSw); go_simp; (try with_reducible rfl)
      simp only [List.setIfInBounds_toArray, List.set_cons_zero, List.set_cons_succ]
      refine takeT (i := 3) (v := ?_) rfl rfl (by kernel_rfl) (by kernel_rfl) (by kernel_rfl) (fun _ _ _ h => h) (by decide) (by kernel_rfl) (by kernel_rfl) ?_ hS0 ?_
      rotate_left
      · intro w hSw; (try dsimp only at hSw); go_simp; (try with_reducible rfl)
      simp only [List.setIfInBounds_toArray, List.set_cons_zero, List.set_cons_succ]
      refine takeT (i := 7) (v := ?_) rfl rfl (by kernel_rfl) (by kernel_rfl) (by kernel_rfl) (fun _ _ _ h => h) (by decide) (by kernel_rfl) (by kernel_rfl) ?_ hS0 ?_
      rotate_left
      · intro w hSw; (try dsimp only at hSw); go_simp; (try with_reducible rfl)
      simp only [List.setIfInBounds_toArray, List.set_cons_zero, List.set_cons_succ]
      refine takeT (i := 8) (v := ?_) rfl rfl (by kernel_rfl) (by kernel_rfl) (by kernel_rfl) (fun _ _ _ h => h) (by decide) (by kernel_rfl) (by kernel_rfl) ?_ hS0 ?_
      rotate_left
      · intro w hSw; (try dsimp only at hSw); go_simp; (try with_reducible rfl)
      simp only [List.setIfInBounds_toArray, List.set_cons_zero, List.set_cons_succ]
      refine oneT (i := 4) rfl (by kernel_rfl) (fun K hK => ?_)
      go_simp
      refine (position_any _ ps x2 wd (HPS.out.below (below_up HB4.out hall0 HB4.out.size)) (by omega)).mono ?_
      rintro e w7 ⟨⟨pk, rfl, hpk⟩, hb7⟩
      obtain rfl := pos_at hpk HPF.out hn HNO.out
      have hall1 := below_up hall0 hb7 hall0.size
      have hS1 : w7.cell? ⟨B, 1, none⟩ = some (.int .i64 x2) ∧ w7.cell? ⟨B, 2, none⟩ = some (.int .i64 x3) := ⟨(below_cell hall1 hBl).trans k1, (below_cell hall1 hBl).trans k2⟩
      have hc7 := (below_cell hall1 hIB2).trans hcl
      refine hK.out _ _ (fun _ => hS1) ?_
      clear hK
      try simp only [List.setIfInBounds_toArray, List.set_cons_zero, List.set_cons_succ, Act.put]
      have HI7 := Lib.hid (show IntsB w7 w.heap.size (wts ps (l.take i)) from HIN.out.below hall1 HIN.out.lt)
      have f7 := HI7.out.fz n
      have HALL := Lib.hid (below_up HB4.out hall1 HB4.out.size)
      have hIB3 := HI7.out.lt
      clear hall0 hall1 hb7 hS0 hcl k1 k2 HB4 HIN hpk
      have hnl : n < ps.length := hn
      refine oneT (i := 5) rfl (by kernel_rfl) (fun K hK => ?_)
      go_simp
      refine hK.out _ _ (fun _ => hS1) ?_
      clear hK
      try simp only [List.setIfInBounds_toArray, List.set_cons_zero, List.set_cons_succ, Act.put]
      refine oneT (i := 6) rfl (by kernel_rfl) (fun K hK => ?_)
      go_simp
      refine hK.out _ _ (fun _ => hS1) ?_
      clear hK
      try simp only [List.setIfInBounds_toArray, List.set_cons_zero, List.set_cons_succ, Act.put]
      refine oneT (i := 9) rfl (by kernel_rfl) (fun K hK => ?_)
      go_simp
      refine hK.out _ _ (fun _ => hS1) ?_
      clear hK
      try simp only [List.setIfInBounds_toArray, List.set_cons_zero, List.set_cons_succ, Act.put]
      refine oneT (i := 10) rfl (by kernel_rfl) (fun K hK => ?_)
      go_simp
      refine hK.out _ _ (fun _ => hS1) ?_
      clear hK
      try simp only [List.setIfInBounds_toArray, List.set_cons_zero, List.set_cons_succ, Act.put]
      refine oneT (i := 11) rfl (by kernel_rfl) (fun K hK => ?_)
      go_simp
      refine hK.out _ _ (fun q => absurd rfl q) ?_
      refine doneT (by kernel_rfl) ?_ _
      clear hK
      go_wp2_with fail
      go_roundw
      case rel => exact ⟨i + 1, by go_num, hlt, by rw [HNX.out, HW.out]; exact HI7.out.set n z, HALL.out.setCell (p := ⟨w.heap.size, n, none⟩) (Nat.le_refl _) _⟩
      case measure => simp [intOf]; omega
    · obtain rfl : i = l.length := by omega
      have hin := HI.out.ints
      rw [List.take_length] at hin
      have HF := Lib.hid hin
      clear hin
      go_wp2_with fail
      go_ret
      exact ⟨rfl, HF.out, HI.out.below⟩

/-- the room that people have -/
def roomAt (ps : List PerD) (l : List HdD) (j : Nat) : Int := (ps.getD j ⟨0, 0, 0, []⟩).cap - wtN l (ps.getD j ⟨0, 0, 0, []⟩).no
def rmix (ps : List PerD) (l : List HdD) (i : Nat) : List Int := (List.range ps.length).map fun j => if j < i then roomAt ps l j else wtN l (ps.getD j ⟨0, 0, 0, []⟩).no
theorem rmix_length (ps : List PerD) (l : List HdD) (i : Nat) : (rmix ps l i).length = ps.length := by simp [rmix]
theorem rmix_zero (ps : List PerD) (l : List HdD) : wts ps l = rmix ps l 0 := by
  refine List.ext_getElem (by simp [wts, rmix]) fun i h1 h2 => ?_
  have : i < ps.length := by rw [wts_length] at h1; exact h1
  simp [wts, rmix, this]
theorem rmix_next (ps : List PerD) (l : List HdD) {i : Nat} : (rmix ps l i).set i (roomAt ps l i) = rmix ps l (i + 1) := by
  unfold rmix
  refine map_range_set (by simp) fun t _ ht => ?_
  by_cases g : t < i
  · rw [if_pos g, if_pos (by omega)]
  · rw [if_neg g, if_neg (by omega)]
def rooms (ps : List PerD) (l : List HdD) : List Int := rmix ps l ps.length
theorem rooms_at {ps : List PerD} {l : List HdD} {j : Nat} (hj : j < ps.length) : (rooms ps l)[j]'(by rw [rooms, rmix_length]; exact hj) = ps[j].cap - wtN l ps[j].no := by
  simp [rooms, rmix, roomAt, hj]
structure RoInv (ps : List PerD) (l : List HdD) (B : Nat) (w wr : World) (i : Nat) : Prop where
  le : i ≤ ps.length
  ints : IntsB wr B (rmix ps l i)
  below : Below w.heap.size w wr
set_option maxRecDepth 100000 in
set_option maxHeartbeats 4000000 in
theorem Room_any (ps : List PerD) (vp : Value) (l : List HdD) (v : Value) (w : World) (hp : Pers w vp ps) (hpl : ps.length ≤ 9223372036854775807) (h : Hds w v l) :
    Calls Tryz.prog 8 #[vp, v] w fun e w' => ∃ k vr, e = .returned (.tuple #[vr, .int .i64 k]) ∧ (k = 0 ↔ PpFine ps ∧ HdFine ps l) ∧ (k = 0 → SliceAt 1 intR w' vr (rooms ps l)) ∧ Below w.heap.size w w' := by
  obtain ⟨a, cap, rfl⟩ := SliceAt.len h
  obtain ⟨pa, pc, rfl⟩ := SliceAt.len hp
  have H := Lib.hid h
  have HPS := Lib.hid hp
  clear h hp
  go_enter Tryz.func8, Tryz.ntmps8
  go_wp2_with fail
  refine (CheckHeld_any ps _ l _ w HPS.out hpl H.out).mono ?_
  rintro e w2 ⟨⟨k, rfl, hk⟩, hb2⟩
  have HK := Lib.hid hk
  have HB2 := Lib.hid hb2
  clear hk hb2
  by_cases hz : ¬ k = 0
  · have qz : (k == 0) = false := by simpa using hz
    have qz2 : (k != 0) = true := by simpa using hz
    have HZ := Lib.hid hz
    clear hz
    go_wp2_with fail
    go_ret2
    exact ⟨k, .slice none 0 0, rfl, HK.out, fun g => absurd g HZ.out, HB2.out⟩
  have hz := Decidable.not_not.1 hz
  have HF := Lib.hid (HK.out.1 hz)
  subst hz
  clear HK
  have hpl40 : ps.length ≤ 40 := HF.out.1.1
  go_wp2_with fail
  refine (weights_any ps _ l _ w2 (HPS.out.below HB2.out) (H.out.below HB2.out) HF.out.1 HF.out.2).mono ?_
  rintro e w3 ⟨rfl, hi3, hb3⟩
  rw [rmix_zero] at hi3
  have HI3 := Lib.hid hi3
  have HB3 := Lib.hid (below_up HB2.out hb3 HB2.out.size)
  have hB2 := HB2.out.size
  generalize hBB : w2.heap.size = B at *
  clear hi3 hb3 hBB hpl
  go_wp2_with fail
  go_loopw [21] (fun iv wr => ∃ i : Nat, iv = .int .i64 ((i : Nat) : Int) ∧ RoInv ps l B w wr i) (fun iv _ => ps.length - (intOf iv).toNat)
  case atStart => exact ⟨0, rfl, Nat.zero_le _, HI3.out, HB3.out⟩
  case round =>
    obtain ⟨i, rfl, hI⟩ := hrel
    have HI := Lib.hid hI
    have hi := hI.le
    clear hI HI3 HB3
    by_cases hlt : i < ps.length
    · obtain ⟨b, off, cap', hv, hb, hel⟩ := Pers.at (HPS.out.below HI.out.below) (by omega)
      cases hv
      obtain ⟨u, e0, e1, e2, e3, hsk⟩ := hel i hlt
      obtain ⟨sa, sc, rfl⟩ := SliceAt.len hsk
      obtain ⟨sn, hsn⟩ : ∃ sn, sn = (ps[i].sk).length := ⟨_, rfl⟩
      rw [← hsn] at e3
      have hbd := wtN_bound l ps[i].no (fun x hx => (HF.out.2.2.mem hx).2.2.1)
      have hll := HF.out.2.1
      have hcp := (HF.out.1.2.each i hlt).2.1
      have hcl := (HI.out.ints.cells i (by rw [rmix_length]; exact hlt)).1
      have e5 : (rmix ps l i)[i]'(by rw [rmix_length]; exact hlt) = wtN l ps[i].no := by simp [rmix, hlt]
      rw [e5] at hcl
      have HNX := Lib.hid (rmix_next ps l (i := i))
      have e6 : roomAt ps l i = ps[i].cap - wtN l ps[i].no := by simp [roomAt, hlt]
      rw [e6] at HNX
      clear hel hsk hsn e5 e6
      generalize wtN l ps[i].no = y at *
      generalize ps[i].no = x1 at *
      generalize ps[i].cap = x2 at *
      generalize ps[i].cl = x3 at *
      have r1 : IntKind.i64.wrap (x2 - y) = x2 - y := IntWalk.i64_in _ (by omega)
      obtain ⟨z, hz⟩ : ∃ z, z = x2 - y := ⟨_, rfl⟩
      rw [← hz] at r1 HNX
      have HW := Lib.hid (show wrap64 (x2 - y) = z by unfold wrap64; omega)
      clear hbd hcp hz
      obtain ⟨bx, bbl⟩ := box1 wr #[.int .i64 x1, .int .i64 x2, .int .i64 x3, .slice sa sn sc] 65
      have HB4 := Lib.hid (below_up HI.out.below bbl HI.out.below.size)
      have k1 := bx.cell 1
      have hBl := bx.lt
      have hIB := HI.out.ints.lt
      have HIN := Lib.hid (show IntsB _ B (rmix ps l i) from HI.out.ints.below bbl HI.out.ints.lt)
      have hcl := (below_cell bbl HI.out.ints.lt).trans hcl
      go_upto_region 8 with fail
      generalize wr.alloc (.cells #[.int .i64 x1, .int .i64 x2, .int .i64 x3, .slice sa sn sc] 65) = wb at *
      have hne : B ≠ wr.heap.size := by omega
      generalize wr.heap.size = B2 at *
      have f7 := HIN.out.fz i
      clear bx bbl e0 e1 e2 e3 hIB
      refine anyT_start (S := fun W : World => W.cell? ⟨B2, 1, none⟩ = some (.int .i64 x2) ∧ W.cell? ⟨B, i, none⟩ = some (.int .i64 y)) (t := 10) (by kernel_rfl) ?_
      have hS0 : wb.drew.cell? ⟨B2, 1, none⟩ = some (.int .i64 x2) ∧ wb.drew.cell? ⟨B, i, none⟩ = some (.int .i64 y) := ⟨k1, hcl⟩
      have HALL := Lib.hid HB4.out.drew
      have HI7 := Lib.hid (show IntsB wb.drew B (rmix ps l i) from HIN.out)
      have f7 := HI7.out.fz i
      generalize wb.drew = wd at *
      refine takeT (i := 0) (v := ?_) rfl rfl (by kernel_rfl) (by kernel_rfl) (by kernel_rfl) (fun _ _ _ h => h) (by decide) (by kernel_rfl) (by kernel_rfl) ?_ hS0 ?_
      rotate_left
      · intro w hSw; (try dsimp only at hSw); go_simp; (try with_reducible rfl)
      simp only [List.setIfInBounds_toArray, List.set_cons_zero, List.set_cons_succ]
      refine takeT (i := 1) (v := ?_) rfl rfl (by kernel_rfl) (by kernel_rfl) (by kernel_rfl) (fun _ _ _ h => h) (by decide) (by kernel_rfl) (by kernel_rfl) ?_ hS0 ?_
      rotate_left
      · intro w hSw; (try dsimp only at hSw); go_simp; (try with_reducible rfl)
      simp only [List.setIfInBounds_toArray, List.set_cons_zero, List.set_cons_succ]
      refine takeT (i := 2) (v := ?_) rfl rfl (by kernel_rfl) (by kernel_rfl) (by kernel_rfl) (fun _ _ _ h => h) (by decide) (by kernel_rfl) (by kernel_rfl) ?_ hS0 ?_
      rotate_left
      · intro w hSw; (try dsimp only at hSw); go_simp; (try with_reducible rfl)
      simp only [List.setIfInBounds_toArray, List.set_cons_zero, List.set_cons_succ]
      refine takeT (i := 3) (v := ?_) rfl rfl (by kernel_rfl) (by kernel_rfl) (by kernel_rfl) (fun _ _ _ h => h) (by decide) (by kernel_rfl) (by kernel_rfl) ?_ hS0 ?_
      rotate_left
      · intro w hSw; (try dsimp only at hSw); go_simp; (try with_reducible rfl)
      simp only [List.setIfInBounds_toArray, List.set_cons_zero, List.set_cons_succ]
      refine takeT (i := 4) (v := ?_) rfl rfl (by kernel_rfl) (by kernel_rfl) (by kernel_rfl) (fun _ _ _ h => h) (by decide) (by kernel_rfl) (by kernel_rfl) ?_ hS0 ?_
      rotate_left
      · intro w hSw; (try dsimp only at hSw); go_simp; (try with_reducible rfl)
      simp only [List.setIfInBounds_toArray, List.set_cons_zero, List.set_cons_succ]
      refine takeT (i := 5) (v := ?_) rfl rfl (by kernel_rfl) (by kernel_rfl) (by kernel_rfl) (fun _ _ _ h => h) (by decide) (by kernel_rfl) (by kernel_rfl) ?_ hS0 ?_
      rotate_left
      · intro w hSw; (try dsimp only at hSw); go_simp; (try with_reducible rfl)
      simp only [List.setIfInBounds_toArray, List.set_cons_zero, List.set_cons_succ]
      refine takeT (i := 6) (v := ?_) rfl rfl (by kernel_rfl) (by kernel_rfl) (by kernel_rfl) (fun _ _ _ h => h) (by decide) (by kernel_rfl) (by kernel_rfl) ?_ hS0 ?_
      rotate_left
      · intro w hSw; (try dsimp only at hSw); go_simp; (try with_reducible rfl)
      simp only [List.setIfInBounds_toArray, List.set_cons_zero, List.set_cons_succ]
      refine takeT (i := 7) (v := ?_) rfl rfl (by kernel_rfl) (by kernel_rfl) (by kernel_rfl) (fun _ _ _ h => h) (by decide) (by kernel_rfl) (by kernel_rfl) ?_ hS0 ?_
      rotate_left
      · intro w hSw; (try dsimp only at hSw); go_simp; (try with_reducible rfl)
      simp only [List.setIfInBounds_toArray, List.set_cons_zero, List.set_cons_succ]
      refine takeT (i := 8) (v := ?_) rfl rfl (by kernel_rfl) (by kernel_rfl) (by kernel_rfl) (fun _ _ _ h => h) (by decide) (by kernel_rfl) (by kernel_rfl) ?_ hS0 ?_
      rotate_left
      · intro w hSw; (try dsimp only at hSw); go_simp; (try with_reducible rfl)
      simp only [List.setIfInBounds_toArray, List.set_cons_zero, List.set_cons_succ]
      refine oneT (i := 9) rfl (by kernel_rfl) (fun K hK => ?_)
      go_simp
      refine hK.out _ _ (fun _ => hS0) ?_
      clear hK
      try simp only [List.setIfInBounds_toArray, List.set_cons_zero, List.set_cons_succ, Act.put]
      refine oneT (i := 10) rfl (by kernel_rfl) (fun K hK => ?_)
      go_simp
      refine hK.out _ _ (fun q => absurd rfl q) ?_
      refine doneT (by kernel_rfl) ?_ _
      clear hK
      go_wp2_with fail
      go_roundw
      case rel => exact ⟨i + 1, by go_num, hlt, by rw [← HNX.out, HW.out]; exact HI7.out.set i z, HALL.out.setCell (p := ⟨B, i, none⟩) hB2 _⟩
      case measure => simp [intOf]; omega
    · obtain rfl : i = ps.length := by omega
      have HS := Lib.hid (show SliceAt 1 intR wr (.slice (some ⟨B, 0, none⟩) ps.length ps.length) (rooms ps l) from by
        have := HI.out.ints.slice (cap := ps.length) (by rw [rmix_length]; exact Nat.le_refl _)
        rw [rmix_length] at this
        exact this)
      go_wp2_with fail
      go_ret2
      exact ⟨0, _, rfl, ⟨fun _ => HF.out, fun _ => rfl⟩, fun _ => HS.out, HI.out.below⟩
end Go.Proofs.YtemikhnkjligdaaGreatDoor
