/- The walk of route.assigner.at. -/
import Derived.Test.YtemikhnkjligdaaGreatDoorQRfChs
import Derived.Test.YtemikhnkjligdaaGreatDoorQRfCal
import Derived.Test.YtemikhnkjligdaaGreatDoorQOpn
namespace Go.Proofs.YtemikhnkjligdaaGreatDoor
open Go Go.RowKit

theorem has_ne {w : World} {b c : Nat} {cs ds : Array Value} {t u : TypeId} (h : Has w b cs t) (k : Has w c ds u) (hne : t ≠ u) : b ≠ c := by
  rintro rfl
  have h' : w.heap[b]? = some (.cells cs t (0, 0)) := h
  have k' : w.heap[b]? = some (.cells ds u (0, 0)) := k
  rw [h'] at k'
  cases k'
  exact hne rfl
section
variable {w : World} {D Du We La : Nat} {vp : Value} {ps : List PerD} {du : List Bool} {we la : List Int}
theorem DeskAt.setDu (h : DeskAt w D Du We La vp ps du we la) (j : Nat) (x : Bool) : DeskAt (w.setCell ⟨Du, j, none⟩ (.bool x)) D Du We La vp ps (du.set j x) we la :=
  ⟨Has.set_other h.box _ _ (has_ne h.box h.dus (by decide)), h.dus.set j x, Has.set_other h.wes _ _ (has_ne h.wes h.dus (by decide)), Has.set_other h.las _ _ (has_ne h.las h.dus (by decide)), by rw [List.length_set]; exact h.ld, h.lw, h.ll⟩
theorem DeskAt.setWe (h : DeskAt w D Du We La vp ps du we la) (hne : We ≠ La) (j : Nat) (x : Int) : DeskAt (w.setCell ⟨We, j, none⟩ (.int .i64 x)) D Du We La vp ps du (we.set j x) la :=
  ⟨Has.set_other h.box _ _ (has_ne h.box h.wes (by decide)), Has.set_other h.dus _ _ (has_ne h.dus h.wes (by decide)), h.wes.set j x, Has.set_other h.las _ _ (Ne.symm hne), h.ld, by rw [List.length_set]; exact h.lw, h.ll⟩
theorem DeskAt.setLa (h : DeskAt w D Du We La vp ps du we la) (hne : We ≠ La) (j : Nat) (x : Int) : DeskAt (w.setCell ⟨La, j, none⟩ (.int .i64 x)) D Du We La vp ps du we (la.set j x) :=
  ⟨Has.set_other h.box _ _ (has_ne h.box h.las (by decide)), Has.set_other h.dus _ _ (has_ne h.dus h.las (by decide)), Has.set_other h.wes _ _ hne, h.las.set j x, h.ld, h.lw, by rw [List.length_set]; exact h.ll⟩
/-- a store into another block of bools -/
theorem DeskAt.setB (h : DeskAt w D Du We La vp ps du we la) {c j : Nat} {cs : Array Value} {v : Value} (hc : Has w c cs 4) (hne : Du ≠ c) : DeskAt (w.setCell ⟨c, j, none⟩ v) D Du We La vp ps du we la :=
  ⟨Has.set_other h.box _ _ (has_ne h.box hc (by decide)), Has.set_other h.dus _ _ hne, Has.set_other h.wes _ _ (has_ne h.wes hc (by decide)), Has.set_other h.las _ _ (has_ne h.las hc (by decide)), h.ld, h.lw, h.ll⟩
theorem DeskAt.drew (h : DeskAt w D Du We La vp ps du we la) : DeskAt w.drew D Du We La vp ps du we la := ⟨h.box, h.dus, h.wes, h.las, h.ld, h.lw, h.ll⟩
end
def mixB (f : Nat → Bool) (n i : Nat) : List Bool := (List.range n).map fun j => decide (j < i) && f j
theorem mixB_length (f : Nat → Bool) (n i : Nat) : (mixB f n i).length = n := by simp [mixB]
theorem mixB_zero (f : Nat → Bool) (n : Nat) : List.replicate n false = mixB f n 0 := by
  refine List.ext_getElem (by simp [mixB]) fun i h1 h2 => ?_
  simp [mixB]
theorem mixB_next (f : Nat → Bool) (n : Nat) {i : Nat} : (mixB f n i).set i (f i) = mixB f n (i + 1) := by
  refine List.ext_getElem (by simp [mixB]) fun j h1 h2 => ?_
  rw [List.getElem_set]
  by_cases g : i = j
  · subst g; simp [mixB]
  · rw [if_neg g]
    simp only [mixB, List.getElem_map, List.getElem_range]
    by_cases q : j < i
    · rw [decide_eq_true q, decide_eq_true (by omega : j < i + 1)]
    · rw [decide_eq_false q, decide_eq_false (by omega : ¬ j < i + 1)]
theorem mixB_full (f : Nat → Bool) (n : Nat) : mixB f n n = (List.range n).map f := by
  refine List.ext_getElem (by simp [mixB]) fun j h1 h2 => ?_
  have : j < n := by rw [mixB_length] at h1; exact h1
  simp [mixB, this]
def c00 : CalD := ⟨0, [], [], []⟩
def openF (cs : List CalD) (m : Int) (j : Nat) : Bool := openB (cs.getD j c00) m
/-- one who is on duty -/
def dutyF (cs : List CalD) (m : Int) (p : PerD) : Bool := openF cs m p.cl.toNat
def dutyL (ps : List PerD) (cs : List CalD) (m : Int) (j : Nat) : Bool := dutyF cs m (ps.getD j p00)
theorem dutyL_full (ps : List PerD) (cs : List CalD) (m : Int) : (List.range ps.length).map (dutyL ps cs m) = ps.map (dutyF cs m) := by
  refine List.ext_getElem (by simp) fun j h1 h2 => ?_
  have : j < ps.length := by simpa using h1
  simp [dutyL, this]
section
variable {P : Program} {ops : Array Oper} {Q : Exit → Act → World → Prop} {md : Region.Mode} {S : World → Prop} {t : Nat}
/-- one of three may come up -/
theorem threeT {i j k : Nat} {o o' o'' : Oper} {f : Nat} {listed : Array Bool} {a : Act} {w : World} (ho : ops[i]? = some o) (ho' : ops[j]? = some o') (ho'' : ops[k]? = some o'') (hr : Region.ready md ops listed = [i, j, k])
    (h : ∀ K' : Act → World → Prop, Shut (∀ a w, (i ≠ t → S w) → anyT P md ops Q S t f (listed.setIfInBounds i true) a w → K' a w) → if Region.wanted o (yielded ops a.tmps) = true then Oper.wp P o a w K' Q else K' (a.put o.dst undef) w)
    (h' : ∀ K' : Act → World → Prop, Shut (∀ a w, (j ≠ t → S w) → anyT P md ops Q S t f (listed.setIfInBounds j true) a w → K' a w) → if Region.wanted o' (yielded ops a.tmps) = true then Oper.wp P o' a w K' Q else K' (a.put o'.dst undef) w)
    (h'' : ∀ K' : Act → World → Prop, Shut (∀ a w, (k ≠ t → S w) → anyT P md ops Q S t f (listed.setIfInBounds k true) a w → K' a w) → if Region.wanted o'' (yielded ops a.tmps) = true then Oper.wp P o'' a w K' Q else K' (a.put o''.dst undef) w) :
    anyT P md ops Q S t (f + 1) listed a w := by
  refine ⟨fun h0 => (by rw [h0] at hr; cases hr), fun l hl => ?_⟩
  rw [hr] at hl
  simp only [List.mem_cons, List.not_mem_nil, or_false] at hl
  rcases hl with rfl | rfl | rfl
  · exact wpOp_step ho (fun K' hK => h K' (fun a w hS hW => hK a w ⟨hS, hW⟩))
  · exact wpOp_step ho' (fun K' hK => h' K' (fun a w hS hW => hK a w ⟨hS, hW⟩))
  · exact wpOp_step ho'' (fun K' hK => h'' K' (fun a w hS hW => hK a w ⟨hS, hW⟩))
end
structure AtInv (w wr : World) (D Du We La Op : Nat) (vp : Value) (ps : List PerD) (du : List Bool) (we la : List Int) (ob : List Bool) : Prop where
  desk : DeskAt wr D Du We La vp ps du we la
  op : BoolsB wr Op ob
  below : Below w.heap.size w wr
set_option maxRecDepth 100000 in
set_option maxHeartbeats 4000000 in
theorem at_any (ps : List PerD) (vp : Value) (cs : List CalD) (vc vs : Value) (A Aw : Nat) (l : List HdD) (v : Value) (m : Int) (w : World) (hA : Has w A #[vp, vc, vs, .slice (some ⟨Aw, 0, none⟩) ps.length ps.length] 56) (hAw : BoolsB w Aw (List.replicate ps.length false))
    (hvs : vs.oneCell' = true) (hp : Pers w vp ps) (hc : Clds w vc cs) (h : Hds w v l) (hpf : PpFine ps) (hcf : ClFine ps cs) (hlf : HdFine ps l) (hm : 0 ≤ m ∧ m ≤ 3000000) :
    Calls Tryz.prog 34 #[.pointer (some ⟨A, 0, none⟩), v, .int .i64 m] w fun e w' => ∃ D Du We La, ∃ la, e = .returned (.pointer (some ⟨D, 0, none⟩)) ∧ DeskAt w' D Du We La vp ps (ps.map (dutyF cs m)) (wts ps l) la ∧
      w.heap.size ≤ D ∧ w.heap.size ≤ Du ∧ w.heap.size ≤ We ∧ w.heap.size ≤ La ∧ We ≠ La ∧ Below w.heap.size w w' := by
  obtain ⟨pa, pc, rfl⟩ := SliceAt.len hp
  obtain ⟨ca, cc, rfl⟩ := SliceAt.len hc
  obtain ⟨a, cap, rfl⟩ := SliceAt.len h
  have hpl := hpf.1
  have hcl := hcf.few
  have hll := hlf.1
  have HP := Lib.hid hp
  have HC := Lib.hid hc
  have H := Lib.hid h
  have HPF := Lib.hid hpf
  have HCF := Lib.hid hcf
  have HLF := Lib.hid hlf
  have HA := Lib.hid hA
  have HAW := Lib.hid hAw
  have hAl := hA.lt
  have hAwl := Has.lt hAw
  clear hp hc h hpf hcf hlf hAw hA
  have HKA := Lib.hid (fun W (hW : Below w.heap.size w W) => ((below_cell hW hAl).trans (HA.out.cell 0) : W.cell? ⟨A, 0, none⟩ = some (.slice pa ps.length pc)))
  go_enter Tryz.func34, Tryz.ntmps34
  go_upto_region 1 with fail
  go_cut [7] (fun u wx => ∃ D Du We La : Nat, u = .pointer (some ⟨D, 0, none⟩) ∧ DeskAt wx D Du We La (.slice pa ps.length pc) ps (List.replicate ps.length false) (wts ps l) (List.replicate ps.length 0) ∧
      w.heap.size ≤ D ∧ w.heap.size ≤ Du ∧ w.heap.size ≤ We ∧ w.heap.size ≤ La ∧ We ≠ La ∧ Below w.heap.size w wx)
  case first =>
    refine anyT_start (S := fun W : World => W.cell? ⟨A, 0, none⟩ = some (.slice pa ps.length pc)) (t := 25) (by kernel_rfl) ?_
    have hb0 : Below w.heap.size w w.drew := (Below.refl _ _).drew
    have hS0 := HKA.out _ hb0
    generalize w.drew = wd at *
    refine takeS (i := 0) (v := ?_) rfl rfl (by kernel_rfl) (by kernel_rfl) (by kernel_rfl) (fun _ _ _ h => h) (by decide) (by kernel_rfl) ?_ hS0 ?_
    rotate_left
    · intro w hSw; (try dsimp only at hSw); go_simp; (try with_reducible rfl)
    simp only [List.setIfInBounds_toArray, List.set_cons_zero, List.set_cons_succ]
    refine takeS (i := 1) (v := ?_) rfl rfl (by kernel_rfl) (by kernel_rfl) (by kernel_rfl) (fun _ _ _ h => h) (by decide) (by kernel_rfl) ?_ hS0 ?_
    rotate_left
    · intro w hSw; (try dsimp only at hSw); go_simp; (try with_reducible rfl)
    simp only [List.setIfInBounds_toArray, List.set_cons_zero, List.set_cons_succ]
    refine takeS (i := 2) (v := ?_) rfl rfl (by kernel_rfl) (by kernel_rfl) (by kernel_rfl) (fun _ _ _ h => h) (by decide) (by kernel_rfl) ?_ hS0 ?_
    rotate_left
    · intro w hSw; (try dsimp only at hSw); go_simp; (try with_reducible rfl)
    simp only [List.setIfInBounds_toArray, List.set_cons_zero, List.set_cons_succ]
    refine takeS (i := 3) (v := ?_) rfl rfl (by kernel_rfl) (by kernel_rfl) (by kernel_rfl) (fun _ _ _ h => h) (by decide) (by kernel_rfl) ?_ hS0 ?_
    rotate_left
    · intro w hSw; (try dsimp only at hSw); go_simp; (try with_reducible rfl)
    simp only [List.setIfInBounds_toArray, List.set_cons_zero, List.set_cons_succ]
    refine takeS (i := 4) (v := ?_) rfl rfl (by kernel_rfl) (by kernel_rfl) (by kernel_rfl) (fun _ _ _ h => h) (by decide) (by kernel_rfl) ?_ hS0 ?_
    rotate_left
    · intro w hSw; (try dsimp only at hSw); go_simp; (try with_reducible rfl)
    simp only [List.setIfInBounds_toArray, List.set_cons_zero, List.set_cons_succ]
    refine takeS (i := 5) (v := ?_) rfl rfl (by kernel_rfl) (by kernel_rfl) (by kernel_rfl) (fun _ _ _ h => h) (by decide) (by kernel_rfl) ?_ hS0 ?_
    rotate_left
    · intro w hSw; (try dsimp only at hSw); go_simp; (try with_reducible rfl)
    simp only [List.setIfInBounds_toArray, List.set_cons_zero, List.set_cons_succ]
    refine takeS (i := 6) (v := ?_) rfl rfl (by kernel_rfl) (by kernel_rfl) (by kernel_rfl) (fun _ _ _ h => h) (by decide) (by kernel_rfl) ?_ hS0 ?_
    rotate_left
    · intro w hSw; (try dsimp only at hSw); go_simp; (try with_reducible rfl)
    simp only [List.setIfInBounds_toArray, List.set_cons_zero, List.set_cons_succ]
    refine takeS (i := 7) (v := ?_) rfl rfl (by kernel_rfl) (by kernel_rfl) (by kernel_rfl) (fun _ _ _ h => h) (by decide) (by kernel_rfl) ?_ hS0 ?_
    rotate_left
    · intro w hSw; (try dsimp only at hSw); go_simp; (try with_reducible rfl)
    simp only [List.setIfInBounds_toArray, List.set_cons_zero, List.set_cons_succ]
    refine takeS (i := 8) (v := ?_) rfl rfl (by kernel_rfl) (by kernel_rfl) (by kernel_rfl) (fun _ _ _ h => h) (by decide) (by kernel_rfl) ?_ hS0 ?_
    rotate_left
    · intro w hSw; (try dsimp only at hSw); go_simp; (try with_reducible rfl)
    simp only [List.setIfInBounds_toArray, List.set_cons_zero, List.set_cons_succ]
    refine takeS (i := 10) (v := ?_) rfl rfl (by kernel_rfl) (by kernel_rfl) (by kernel_rfl) (fun _ _ _ h => h) (by decide) (by kernel_rfl) ?_ hS0 ?_
    rotate_left
    · intro w hSw; (try dsimp only at hSw); go_simp; (try with_reducible rfl)
    simp only [List.setIfInBounds_toArray, List.set_cons_zero, List.set_cons_succ]
    refine takeS (i := 11) (v := ?_) rfl rfl (by kernel_rfl) (by kernel_rfl) (by kernel_rfl) (fun _ _ _ h => h) (by decide) (by kernel_rfl) ?_ hS0 ?_
    rotate_left
    · intro w hSw; (try dsimp only at hSw); go_simp; (try with_reducible rfl)
    simp only [List.setIfInBounds_toArray, List.set_cons_zero, List.set_cons_succ]
    refine takeS (i := 12) (v := ?_) rfl rfl (by kernel_rfl) (by kernel_rfl) (by kernel_rfl) (fun _ _ _ h => h) (by decide) (by kernel_rfl) ?_ hS0 ?_
    rotate_left
    · intro w hSw; (try dsimp only at hSw); go_simp; (try with_reducible rfl)
    simp only [List.setIfInBounds_toArray, List.set_cons_zero, List.set_cons_succ]
    refine takeS (i := 13) (v := ?_) rfl rfl (by kernel_rfl) (by kernel_rfl) (by kernel_rfl) (fun _ _ _ h => h) (by decide) (by kernel_rfl) ?_ hS0 ?_
    rotate_left
    · intro w hSw; (try dsimp only at hSw); go_simp; (try with_reducible rfl)
    simp only [List.setIfInBounds_toArray, List.set_cons_zero, List.set_cons_succ]
    refine takeS (i := 14) (v := ?_) rfl rfl (by kernel_rfl) (by kernel_rfl) (by kernel_rfl) (fun _ _ _ h => h) (by decide) (by kernel_rfl) ?_ hS0 ?_
    rotate_left
    · intro w hSw; (try dsimp only at hSw); go_simp; (try with_reducible rfl)
    simp only [List.setIfInBounds_toArray, List.set_cons_zero, List.set_cons_succ]
    refine takeS (i := 16) (v := ?_) rfl rfl (by kernel_rfl) (by kernel_rfl) (by kernel_rfl) (fun _ _ _ h => h) (by decide) (by kernel_rfl) ?_ hS0 ?_
    rotate_left
    · intro w hSw; (try dsimp only at hSw); go_simp; (try with_reducible rfl)
    simp only [List.setIfInBounds_toArray, List.set_cons_zero, List.set_cons_succ]
    refine takeS (i := 17) (v := ?_) rfl rfl (by kernel_rfl) (by kernel_rfl) (by kernel_rfl) (fun _ _ _ h => h) (by decide) (by kernel_rfl) ?_ hS0 ?_
    rotate_left
    · intro w hSw; (try dsimp only at hSw); go_simp; (try with_reducible rfl)
    simp only [List.setIfInBounds_toArray, List.set_cons_zero, List.set_cons_succ]
    refine takeS (i := 18) (v := ?_) rfl rfl (by kernel_rfl) (by kernel_rfl) (by kernel_rfl) (fun _ _ _ h => h) (by decide) (by kernel_rfl) ?_ hS0 ?_
    rotate_left
    · intro w hSw; (try dsimp only at hSw); go_simp; (try with_reducible rfl)
    simp only [List.setIfInBounds_toArray, List.set_cons_zero, List.set_cons_succ]
    refine takeS (i := 19) (v := ?_) rfl rfl (by kernel_rfl) (by kernel_rfl) (by kernel_rfl) (fun _ _ _ h => h) (by decide) (by kernel_rfl) ?_ hS0 ?_
    rotate_left
    · intro w hSw; (try dsimp only at hSw); go_simp; (try with_reducible rfl)
    simp only [List.setIfInBounds_toArray, List.set_cons_zero, List.set_cons_succ]
    refine takeS (i := 20) (v := ?_) rfl rfl (by kernel_rfl) (by kernel_rfl) (by kernel_rfl) (fun _ _ _ h => h) (by decide) (by kernel_rfl) ?_ hS0 ?_
    rotate_left
    · intro w hSw; (try dsimp only at hSw); go_simp; (try with_reducible rfl)
    simp only [List.setIfInBounds_toArray, List.set_cons_zero, List.set_cons_succ]
    refine threeT (i := 9) (j := 15) (k := 21) rfl rfl rfl (by kernel_rfl) (fun K hK => ?_) (fun K hK => ?_) (fun K hK => ?_)
    · skip
      have hrb := make_bools wd ps.length (by omega)
      have hob := madeBools wd ps.length
      have hbp1 : Below wd.heap.size wd (wd.alloc (.cells (madeCells #[.bool false] ps.length) 4)) := (Below.refl _ _).alloc (Nat.le_refl _) _
      have hbl : w.heap.size ≤ wd.heap.size := hb0.size
      generalize wd.alloc (.cells (madeCells #[.bool false] ps.length) 4) = wp1 at *
      generalize hDu : wd.heap.size = Du at hrb hob hbl
      have HRB := Lib.hid hrb
      go_simp
      clear hrb HRB
      have hb1 : Below w.heap.size w wp1 := below_up hb0 hbp1 hb0.size
      have hS1 := HKA.out _ hb1
      refine hK.out _ _ (fun _ => hS1) ?_
      clear hK
      try simp only [List.setIfInBounds_toArray, List.set_cons_zero, List.set_cons_succ, Act.put]
      refine twoT (i := 15) (j := 21) rfl rfl (by kernel_rfl) (fun K hK => ?_) (fun K hK => ?_)
      · skip
        go_simp
        refine (weights_any ps _ l _ wp1 (HP.out.below hb1) (H.out.below hb1) HPF.out HLF.out).mono ?_
        rintro e wp2 ⟨rfl, hoc, hbp2⟩
        have hcl : w.heap.size ≤ wp1.heap.size := hb1.size
        generalize hWe : wp1.heap.size = We at hoc hcl ⊢
        replace hob : BoolsB wp2 Du (List.replicate ps.length false) := Has.below hob hbp2 (Has.lt hob)
        have hb2 : Below w.heap.size w wp2 := below_up hb1 hbp2 hb1.size
        have hS2 := HKA.out _ hb2
        refine hK.out _ _ (fun _ => hS2) ?_
        clear hK
        try simp only [List.setIfInBounds_toArray, List.set_cons_zero, List.set_cons_succ, Act.put]
        refine oneT (i := 21) rfl (by kernel_rfl) (fun K hK => ?_)
        have hrn := make_ints wp2 ps.length (by omega)
        have hon := madeInts wp2 ps.length
        have hbp3 : Below wp2.heap.size wp2 (wp2.alloc (.cells (madeCells #[.int .i64 0] ps.length) 3)) := (Below.refl _ _).alloc (Nat.le_refl _) _
        have hnl : w.heap.size ≤ wp2.heap.size := hb2.size
        generalize wp2.alloc (.cells (madeCells #[.int .i64 0] ps.length) 3) = wp3 at *
        generalize hLa : wp2.heap.size = La at hrn hon hnl
        go_simp
        clear hrn
        have hwn : We ≠ La := by have := Has.lt hoc; omega
        replace hob : BoolsB wp3 Du (List.replicate ps.length false) := Has.below hob hbp3 (Has.lt hob)
        replace hoc : IntsB wp3 We (wts ps l) := Has.below hoc hbp3 (Has.lt hoc)
        have hb3 : Below w.heap.size w wp3 := below_up hb2 hbp3 hb2.size
        have hS3 := HKA.out _ hb3
        refine hK.out _ _ (fun _ => hS3) ?_
        clear hK
        try simp only [List.setIfInBounds_toArray, List.set_cons_zero, List.set_cons_succ, Act.put]
        have HB := Lib.hid hb3
        have HOB := Lib.hid hob
        have HON := Lib.hid hon
        have HOC := Lib.hid hoc
        have HWN := Lib.hid hwn
        have HL := Lib.hid (show w.heap.size ≤ Du ∧ w.heap.size ≤ We ∧ w.heap.size ≤ La from ⟨hbl, hcl, hnl⟩)
        have hSn := hS3
        refine oneT (i := 22) rfl (by kernel_rfl) (fun K hK => ?_)
        go_simp
        refine hK.out _ _ (fun _ => hSn) ?_
        clear hK
        try simp only [List.setIfInBounds_toArray, List.set_cons_zero, List.set_cons_succ, Act.put]
        have hbe : Below wp3.heap.size wp3 (wp3.alloc (.cells #[.slice pa ps.length pc, .slice (some ⟨Du, 0, none⟩) ps.length ps.length, .slice (some ⟨We, 0, none⟩) ps.length ps.length, .slice (some ⟨La, 0, none⟩) ps.length ps.length] 93)) := (Below.refl _ _).alloc (Nat.le_refl _) _
        have hbx := Has.new wp3 #[.slice pa ps.length pc, .slice (some ⟨Du, 0, none⟩) ps.length ps.length, .slice (some ⟨We, 0, none⟩) ps.length ps.length, .slice (some ⟨La, 0, none⟩) ps.length ps.length] 93
        have hbf := below_up HB.out hbe HB.out.size
        have hSf := HKA.out _ hbf
        have hle : w.heap.size ≤ wp3.heap.size := HB.out.size
        have HDK := Lib.hid (show DeskAt _ wp3.heap.size Du We La (.slice pa ps.length pc) ps (List.replicate ps.length false) (wts ps l) (List.replicate ps.length 0) from
          ⟨hbx, Has.below HOB.out hbe (Has.lt HOB.out), Has.below HOC.out hbe (Has.lt HOC.out), Has.below HON.out hbe (Has.lt HON.out), List.length_replicate, wts_length _ _, List.length_replicate⟩)
        refine oneT (i := 23) rfl (by kernel_rfl) (fun K hK => ?_)
        go_simp
        refine hK.out _ _ (fun _ => hSf) ?_
        clear hK
        try simp only [List.setIfInBounds_toArray, List.set_cons_zero, List.set_cons_succ, Act.put]
        refine oneT (i := 24) rfl (by kernel_rfl) (fun K hK => ?_)
        go_simp
        refine hK.out _ _ (fun _ => hSf) ?_
        clear hK
        try simp only [List.setIfInBounds_toArray, List.set_cons_zero, List.set_cons_succ, Act.put]
        refine doneT (by kernel_rfl) ?_ _
        try simp only [List.setIfInBounds_toArray, List.set_cons_zero, List.set_cons_succ, Act.put]
        go_wp2_with fail
        go_meet
        exact ⟨_, Du, We, La, rfl, HDK.out, hle, HL.out.1, HL.out.2.1, HL.out.2.2, HWN.out, hbf⟩
      · skip
        have hrn := make_ints wp1 ps.length (by omega)
        have hon := madeInts wp1 ps.length
        have hbp2 : Below wp1.heap.size wp1 (wp1.alloc (.cells (madeCells #[.int .i64 0] ps.length) 3)) := (Below.refl _ _).alloc (Nat.le_refl _) _
        have hnl : w.heap.size ≤ wp1.heap.size := hb1.size
        generalize wp1.alloc (.cells (madeCells #[.int .i64 0] ps.length) 3) = wp2 at *
        generalize hLa : wp1.heap.size = La at hrn hon hnl
        go_simp
        clear hrn
        replace hob : BoolsB wp2 Du (List.replicate ps.length false) := Has.below hob hbp2 (Has.lt hob)
        have hb2 : Below w.heap.size w wp2 := below_up hb1 hbp2 hb1.size
        have hS2 := HKA.out _ hb2
        refine hK.out _ _ (fun _ => hS2) ?_
        clear hK
        try simp only [List.setIfInBounds_toArray, List.set_cons_zero, List.set_cons_succ, Act.put]
        refine oneT (i := 15) rfl (by kernel_rfl) (fun K hK => ?_)
        go_simp
        refine (weights_any ps _ l _ wp2 (HP.out.below hb2) (H.out.below hb2) HPF.out HLF.out).mono ?_
        rintro e wp3 ⟨rfl, hoc, hbp3⟩
        have hcl : w.heap.size ≤ wp2.heap.size := hb2.size
        generalize hWe : wp2.heap.size = We at hoc hcl ⊢
        have hwn : We ≠ La := by have := Has.lt hon; omega
        replace hob : BoolsB wp3 Du (List.replicate ps.length false) := Has.below hob hbp3 (Has.lt hob)
        replace hon : IntsB wp3 La (List.replicate ps.length 0) := Has.below hon hbp3 (Has.lt hon)
        have hb3 : Below w.heap.size w wp3 := below_up hb2 hbp3 hb2.size
        have hS3 := HKA.out _ hb3
        refine hK.out _ _ (fun _ => hS3) ?_
        clear hK
        try simp only [List.setIfInBounds_toArray, List.set_cons_zero, List.set_cons_succ, Act.put]
        have HB := Lib.hid hb3
        have HOB := Lib.hid hob
        have HON := Lib.hid hon
        have HOC := Lib.hid hoc
        have HWN := Lib.hid hwn
        have HL := Lib.hid (show w.heap.size ≤ Du ∧ w.heap.size ≤ We ∧ w.heap.size ≤ La from ⟨hbl, hcl, hnl⟩)
        have hSn := hS3
        refine oneT (i := 22) rfl (by kernel_rfl) (fun K hK => ?_)
        go_simp
        refine hK.out _ _ (fun _ => hSn) ?_
        clear hK
        try simp only [List.setIfInBounds_toArray, List.set_cons_zero, List.set_cons_succ, Act.put]
        have hbe : Below wp3.heap.size wp3 (wp3.alloc (.cells #[.slice pa ps.length pc, .slice (some ⟨Du, 0, none⟩) ps.length ps.length, .slice (some ⟨We, 0, none⟩) ps.length ps.length, .slice (some ⟨La, 0, none⟩) ps.length ps.length] 93)) := (Below.refl _ _).alloc (Nat.le_refl _) _
        have hbx := Has.new wp3 #[.slice pa ps.length pc, .slice (some ⟨Du, 0, none⟩) ps.length ps.length, .slice (some ⟨We, 0, none⟩) ps.length ps.length, .slice (some ⟨La, 0, none⟩) ps.length ps.length] 93
        have hbf := below_up HB.out hbe HB.out.size
        have hSf := HKA.out _ hbf
        have hle : w.heap.size ≤ wp3.heap.size := HB.out.size
        have HDK := Lib.hid (show DeskAt _ wp3.heap.size Du We La (.slice pa ps.length pc) ps (List.replicate ps.length false) (wts ps l) (List.replicate ps.length 0) from
          ⟨hbx, Has.below HOB.out hbe (Has.lt HOB.out), Has.below HOC.out hbe (Has.lt HOC.out), Has.below HON.out hbe (Has.lt HON.out), List.length_replicate, wts_length _ _, List.length_replicate⟩)
        refine oneT (i := 23) rfl (by kernel_rfl) (fun K hK => ?_)
        go_simp
        refine hK.out _ _ (fun _ => hSf) ?_
        clear hK
        try simp only [List.setIfInBounds_toArray, List.set_cons_zero, List.set_cons_succ, Act.put]
        refine oneT (i := 24) rfl (by kernel_rfl) (fun K hK => ?_)
        go_simp
        refine hK.out _ _ (fun _ => hSf) ?_
        clear hK
        try simp only [List.setIfInBounds_toArray, List.set_cons_zero, List.set_cons_succ, Act.put]
        refine doneT (by kernel_rfl) ?_ _
        try simp only [List.setIfInBounds_toArray, List.set_cons_zero, List.set_cons_succ, Act.put]
        go_wp2_with fail
        go_meet
        exact ⟨_, Du, We, La, rfl, HDK.out, hle, HL.out.1, HL.out.2.1, HL.out.2.2, HWN.out, hbf⟩
    · skip
      go_simp
      refine (weights_any ps _ l _ wd (HP.out.below hb0) (H.out.below hb0) HPF.out HLF.out).mono ?_
      rintro e wp1 ⟨rfl, hoc, hbp1⟩
      have hcl : w.heap.size ≤ wd.heap.size := hb0.size
      generalize hWe : wd.heap.size = We at hoc hcl ⊢
      have hb1 : Below w.heap.size w wp1 := below_up hb0 hbp1 hb0.size
      have hS1 := HKA.out _ hb1
      refine hK.out _ _ (fun _ => hS1) ?_
      clear hK
      try simp only [List.setIfInBounds_toArray, List.set_cons_zero, List.set_cons_succ, Act.put]
      refine twoT (i := 9) (j := 21) rfl rfl (by kernel_rfl) (fun K hK => ?_) (fun K hK => ?_)
      · skip
        have hrb := make_bools wp1 ps.length (by omega)
        have hob := madeBools wp1 ps.length
        have hbp2 : Below wp1.heap.size wp1 (wp1.alloc (.cells (madeCells #[.bool false] ps.length) 4)) := (Below.refl _ _).alloc (Nat.le_refl _) _
        have hbl : w.heap.size ≤ wp1.heap.size := hb1.size
        generalize wp1.alloc (.cells (madeCells #[.bool false] ps.length) 4) = wp2 at *
        generalize hDu : wp1.heap.size = Du at hrb hob hbl
        have HRB := Lib.hid hrb
        go_simp
        clear hrb HRB
        replace hoc : IntsB wp2 We (wts ps l) := Has.below hoc hbp2 (Has.lt hoc)
        have hb2 : Below w.heap.size w wp2 := below_up hb1 hbp2 hb1.size
        have hS2 := HKA.out _ hb2
        refine hK.out _ _ (fun _ => hS2) ?_
        clear hK
        try simp only [List.setIfInBounds_toArray, List.set_cons_zero, List.set_cons_succ, Act.put]
        refine oneT (i := 21) rfl (by kernel_rfl) (fun K hK => ?_)
        have hrn := make_ints wp2 ps.length (by omega)
        have hon := madeInts wp2 ps.length
        have hbp3 : Below wp2.heap.size wp2 (wp2.alloc (.cells (madeCells #[.int .i64 0] ps.length) 3)) := (Below.refl _ _).alloc (Nat.le_refl _) _
        have hnl : w.heap.size ≤ wp2.heap.size := hb2.size
        generalize wp2.alloc (.cells (madeCells #[.int .i64 0] ps.length) 3) = wp3 at *
        generalize hLa : wp2.heap.size = La at hrn hon hnl
        go_simp
        clear hrn
        have hwn : We ≠ La := by have := Has.lt hoc; omega
        replace hob : BoolsB wp3 Du (List.replicate ps.length false) := Has.below hob hbp3 (Has.lt hob)
        replace hoc : IntsB wp3 We (wts ps l) := Has.below hoc hbp3 (Has.lt hoc)
        have hb3 : Below w.heap.size w wp3 := below_up hb2 hbp3 hb2.size
        have hS3 := HKA.out _ hb3
        refine hK.out _ _ (fun _ => hS3) ?_
        clear hK
        try simp only [List.setIfInBounds_toArray, List.set_cons_zero, List.set_cons_succ, Act.put]
        have HB := Lib.hid hb3
        have HOB := Lib.hid hob
        have HON := Lib.hid hon
        have HOC := Lib.hid hoc
        have HWN := Lib.hid hwn
        have HL := Lib.hid (show w.heap.size ≤ Du ∧ w.heap.size ≤ We ∧ w.heap.size ≤ La from ⟨hbl, hcl, hnl⟩)
        have hSn := hS3
        refine oneT (i := 22) rfl (by kernel_rfl) (fun K hK => ?_)
        go_simp
        refine hK.out _ _ (fun _ => hSn) ?_
        clear hK
        try simp only [List.setIfInBounds_toArray, List.set_cons_zero, List.set_cons_succ, Act.put]
        have hbe : Below wp3.heap.size wp3 (wp3.alloc (.cells #[.slice pa ps.length pc, .slice (some ⟨Du, 0, none⟩) ps.length ps.length, .slice (some ⟨We, 0, none⟩) ps.length ps.length, .slice (some ⟨La, 0, none⟩) ps.length ps.length] 93)) := (Below.refl _ _).alloc (Nat.le_refl _) _
        have hbx := Has.new wp3 #[.slice pa ps.length pc, .slice (some ⟨Du, 0, none⟩) ps.length ps.length, .slice (some ⟨We, 0, none⟩) ps.length ps.length, .slice (some ⟨La, 0, none⟩) ps.length ps.length] 93
        have hbf := below_up HB.out hbe HB.out.size
        have hSf := HKA.out _ hbf
        have hle : w.heap.size ≤ wp3.heap.size := HB.out.size
        have HDK := Lib.hid (show DeskAt _ wp3.heap.size Du We La (.slice pa ps.length pc) ps (List.replicate ps.length false) (wts ps l) (List.replicate ps.length 0) from
          ⟨hbx, Has.below HOB.out hbe (Has.lt HOB.out), Has.below HOC.out hbe (Has.lt HOC.out), Has.below HON.out hbe (Has.lt HON.out), List.length_replicate, wts_length _ _, List.length_replicate⟩)
        refine oneT (i := 23) rfl (by kernel_rfl) (fun K hK => ?_)
        go_simp
        refine hK.out _ _ (fun _ => hSf) ?_
        clear hK
        try simp only [List.setIfInBounds_toArray, List.set_cons_zero, List.set_cons_succ, Act.put]
        refine oneT (i := 24) rfl (by kernel_rfl) (fun K hK => ?_)
        go_simp
        refine hK.out _ _ (fun _ => hSf) ?_
        clear hK
        try simp only [List.setIfInBounds_toArray, List.set_cons_zero, List.set_cons_succ, Act.put]
        refine doneT (by kernel_rfl) ?_ _
        try simp only [List.setIfInBounds_toArray, List.set_cons_zero, List.set_cons_succ, Act.put]
        go_wp2_with fail
        go_meet
        exact ⟨_, Du, We, La, rfl, HDK.out, hle, HL.out.1, HL.out.2.1, HL.out.2.2, HWN.out, hbf⟩
      · skip
        have hrn := make_ints wp1 ps.length (by omega)
        have hon := madeInts wp1 ps.length
        have hbp2 : Below wp1.heap.size wp1 (wp1.alloc (.cells (madeCells #[.int .i64 0] ps.length) 3)) := (Below.refl _ _).alloc (Nat.le_refl _) _
        have hnl : w.heap.size ≤ wp1.heap.size := hb1.size
        generalize wp1.alloc (.cells (madeCells #[.int .i64 0] ps.length) 3) = wp2 at *
        generalize hLa : wp1.heap.size = La at hrn hon hnl
        go_simp
        clear hrn
        have hwn : We ≠ La := by have := Has.lt hoc; omega
        replace hoc : IntsB wp2 We (wts ps l) := Has.below hoc hbp2 (Has.lt hoc)
        have hb2 : Below w.heap.size w wp2 := below_up hb1 hbp2 hb1.size
        have hS2 := HKA.out _ hb2
        refine hK.out _ _ (fun _ => hS2) ?_
        clear hK
        try simp only [List.setIfInBounds_toArray, List.set_cons_zero, List.set_cons_succ, Act.put]
        refine oneT (i := 9) rfl (by kernel_rfl) (fun K hK => ?_)
        have hrb := make_bools wp2 ps.length (by omega)
        have hob := madeBools wp2 ps.length
        have hbp3 : Below wp2.heap.size wp2 (wp2.alloc (.cells (madeCells #[.bool false] ps.length) 4)) := (Below.refl _ _).alloc (Nat.le_refl _) _
        have hbl : w.heap.size ≤ wp2.heap.size := hb2.size
        generalize wp2.alloc (.cells (madeCells #[.bool false] ps.length) 4) = wp3 at *
        generalize hDu : wp2.heap.size = Du at hrb hob hbl
        have HRB := Lib.hid hrb
        go_simp
        clear hrb HRB
        replace hon : IntsB wp3 La (List.replicate ps.length 0) := Has.below hon hbp3 (Has.lt hon)
        replace hoc : IntsB wp3 We (wts ps l) := Has.below hoc hbp3 (Has.lt hoc)
        have hb3 : Below w.heap.size w wp3 := below_up hb2 hbp3 hb2.size
        have hS3 := HKA.out _ hb3
        refine hK.out _ _ (fun _ => hS3) ?_
        clear hK
        try simp only [List.setIfInBounds_toArray, List.set_cons_zero, List.set_cons_succ, Act.put]
        have HB := Lib.hid hb3
        have HOB := Lib.hid hob
        have HON := Lib.hid hon
        have HOC := Lib.hid hoc
        have HWN := Lib.hid hwn
        have HL := Lib.hid (show w.heap.size ≤ Du ∧ w.heap.size ≤ We ∧ w.heap.size ≤ La from ⟨hbl, hcl, hnl⟩)
        have hSn := hS3
        refine oneT (i := 22) rfl (by kernel_rfl) (fun K hK => ?_)
        go_simp
        refine hK.out _ _ (fun _ => hSn) ?_
        clear hK
        try simp only [List.setIfInBounds_toArray, List.set_cons_zero, List.set_cons_succ, Act.put]
        have hbe : Below wp3.heap.size wp3 (wp3.alloc (.cells #[.slice pa ps.length pc, .slice (some ⟨Du, 0, none⟩) ps.length ps.length, .slice (some ⟨We, 0, none⟩) ps.length ps.length, .slice (some ⟨La, 0, none⟩) ps.length ps.length] 93)) := (Below.refl _ _).alloc (Nat.le_refl _) _
        have hbx := Has.new wp3 #[.slice pa ps.length pc, .slice (some ⟨Du, 0, none⟩) ps.length ps.length, .slice (some ⟨We, 0, none⟩) ps.length ps.length, .slice (some ⟨La, 0, none⟩) ps.length ps.length] 93
        have hbf := below_up HB.out hbe HB.out.size
        have hSf := HKA.out _ hbf
        have hle : w.heap.size ≤ wp3.heap.size := HB.out.size
        have HDK := Lib.hid (show DeskAt _ wp3.heap.size Du We La (.slice pa ps.length pc) ps (List.replicate ps.length false) (wts ps l) (List.replicate ps.length 0) from
          ⟨hbx, Has.below HOB.out hbe (Has.lt HOB.out), Has.below HOC.out hbe (Has.lt HOC.out), Has.below HON.out hbe (Has.lt HON.out), List.length_replicate, wts_length _ _, List.length_replicate⟩)
        refine oneT (i := 23) rfl (by kernel_rfl) (fun K hK => ?_)
        go_simp
        refine hK.out _ _ (fun _ => hSf) ?_
        clear hK
        try simp only [List.setIfInBounds_toArray, List.set_cons_zero, List.set_cons_succ, Act.put]
        refine oneT (i := 24) rfl (by kernel_rfl) (fun K hK => ?_)
        go_simp
        refine hK.out _ _ (fun _ => hSf) ?_
        clear hK
        try simp only [List.setIfInBounds_toArray, List.set_cons_zero, List.set_cons_succ, Act.put]
        refine doneT (by kernel_rfl) ?_ _
        try simp only [List.setIfInBounds_toArray, List.set_cons_zero, List.set_cons_succ, Act.put]
        go_wp2_with fail
        go_meet
        exact ⟨_, Du, We, La, rfl, HDK.out, hle, HL.out.1, HL.out.2.1, HL.out.2.2, HWN.out, hbf⟩
    · skip
      have hrn := make_ints wd ps.length (by omega)
      have hon := madeInts wd ps.length
      have hbp1 : Below wd.heap.size wd (wd.alloc (.cells (madeCells #[.int .i64 0] ps.length) 3)) := (Below.refl _ _).alloc (Nat.le_refl _) _
      have hnl : w.heap.size ≤ wd.heap.size := hb0.size
      generalize wd.alloc (.cells (madeCells #[.int .i64 0] ps.length) 3) = wp1 at *
      generalize hLa : wd.heap.size = La at hrn hon hnl
      go_simp
      clear hrn
      have hb1 : Below w.heap.size w wp1 := below_up hb0 hbp1 hb0.size
      have hS1 := HKA.out _ hb1
      refine hK.out _ _ (fun _ => hS1) ?_
      clear hK
      try simp only [List.setIfInBounds_toArray, List.set_cons_zero, List.set_cons_succ, Act.put]
      refine twoT (i := 9) (j := 15) rfl rfl (by kernel_rfl) (fun K hK => ?_) (fun K hK => ?_)
      · skip
        have hrb := make_bools wp1 ps.length (by omega)
        have hob := madeBools wp1 ps.length
        have hbp2 : Below wp1.heap.size wp1 (wp1.alloc (.cells (madeCells #[.bool false] ps.length) 4)) := (Below.refl _ _).alloc (Nat.le_refl _) _
        have hbl : w.heap.size ≤ wp1.heap.size := hb1.size
        generalize wp1.alloc (.cells (madeCells #[.bool false] ps.length) 4) = wp2 at *
        generalize hDu : wp1.heap.size = Du at hrb hob hbl
        have HRB := Lib.hid hrb
        go_simp
        clear hrb HRB
        replace hon : IntsB wp2 La (List.replicate ps.length 0) := Has.below hon hbp2 (Has.lt hon)
        have hb2 : Below w.heap.size w wp2 := below_up hb1 hbp2 hb1.size
        have hS2 := HKA.out _ hb2
        refine hK.out _ _ (fun _ => hS2) ?_
        clear hK
        try simp only [List.setIfInBounds_toArray, List.set_cons_zero, List.set_cons_succ, Act.put]
        refine oneT (i := 15) rfl (by kernel_rfl) (fun K hK => ?_)
        go_simp
        refine (weights_any ps _ l _ wp2 (HP.out.below hb2) (H.out.below hb2) HPF.out HLF.out).mono ?_
        rintro e wp3 ⟨rfl, hoc, hbp3⟩
        have hcl : w.heap.size ≤ wp2.heap.size := hb2.size
        generalize hWe : wp2.heap.size = We at hoc hcl ⊢
        have hwn : We ≠ La := by have := Has.lt hon; omega
        replace hob : BoolsB wp3 Du (List.replicate ps.length false) := Has.below hob hbp3 (Has.lt hob)
        replace hon : IntsB wp3 La (List.replicate ps.length 0) := Has.below hon hbp3 (Has.lt hon)
        have hb3 : Below w.heap.size w wp3 := below_up hb2 hbp3 hb2.size
        have hS3 := HKA.out _ hb3
        refine hK.out _ _ (fun _ => hS3) ?_
        clear hK
        try simp only [List.setIfInBounds_toArray, List.set_cons_zero, List.set_cons_succ, Act.put]
        have HB := Lib.hid hb3
        have HOB := Lib.hid hob
        have HON := Lib.hid hon
        have HOC := Lib.hid hoc
        have HWN := Lib.hid hwn
        have HL := Lib.hid (show w.heap.size ≤ Du ∧ w.heap.size ≤ We ∧ w.heap.size ≤ La from ⟨hbl, hcl, hnl⟩)
        have hSn := hS3
        refine oneT (i := 22) rfl (by kernel_rfl) (fun K hK => ?_)
        go_simp
        refine hK.out _ _ (fun _ => hSn) ?_
        clear hK
        try simp only [List.setIfInBounds_toArray, List.set_cons_zero, List.set_cons_succ, Act.put]
        have hbe : Below wp3.heap.size wp3 (wp3.alloc (.cells #[.slice pa ps.length pc, .slice (some ⟨Du, 0, none⟩) ps.length ps.length, .slice (some ⟨We, 0, none⟩) ps.length ps.length, .slice (some ⟨La, 0, none⟩) ps.length ps.length] 93)) := (Below.refl _ _).alloc (Nat.le_refl _) _
        have hbx := Has.new wp3 #[.slice pa ps.length pc, .slice (some ⟨Du, 0, none⟩) ps.length ps.length, .slice (some ⟨We, 0, none⟩) ps.length ps.length, .slice (some ⟨La, 0, none⟩) ps.length ps.length] 93
        have hbf := below_up HB.out hbe HB.out.size
        have hSf := HKA.out _ hbf
        have hle : w.heap.size ≤ wp3.heap.size := HB.out.size
        have HDK := Lib.hid (show DeskAt _ wp3.heap.size Du We La (.slice pa ps.length pc) ps (List.replicate ps.length false) (wts ps l) (List.replicate ps.length 0) from
          ⟨hbx, Has.below HOB.out hbe (Has.lt HOB.out), Has.below HOC.out hbe (Has.lt HOC.out), Has.below HON.out hbe (Has.lt HON.out), List.length_replicate, wts_length _ _, List.length_replicate⟩)
        refine oneT (i := 23) rfl (by kernel_rfl) (fun K hK => ?_)
        go_simp
        refine hK.out _ _ (fun _ => hSf) ?_
        clear hK
        try simp only [List.setIfInBounds_toArray, List.set_cons_zero, List.set_cons_succ, Act.put]
        refine oneT (i := 24) rfl (by kernel_rfl) (fun K hK => ?_)
        go_simp
        refine hK.out _ _ (fun _ => hSf) ?_
        clear hK
        try simp only [List.setIfInBounds_toArray, List.set_cons_zero, List.set_cons_succ, Act.put]
        refine doneT (by kernel_rfl) ?_ _
        try simp only [List.setIfInBounds_toArray, List.set_cons_zero, List.set_cons_succ, Act.put]
        go_wp2_with fail
        go_meet
        exact ⟨_, Du, We, La, rfl, HDK.out, hle, HL.out.1, HL.out.2.1, HL.out.2.2, HWN.out, hbf⟩
      · skip
        go_simp
        refine (weights_any ps _ l _ wp1 (HP.out.below hb1) (H.out.below hb1) HPF.out HLF.out).mono ?_
        rintro e wp2 ⟨rfl, hoc, hbp2⟩
        have hcl : w.heap.size ≤ wp1.heap.size := hb1.size
        generalize hWe : wp1.heap.size = We at hoc hcl ⊢
        have hwn : We ≠ La := by have := Has.lt hon; omega
        replace hon : IntsB wp2 La (List.replicate ps.length 0) := Has.below hon hbp2 (Has.lt hon)
        have hb2 : Below w.heap.size w wp2 := below_up hb1 hbp2 hb1.size
        have hS2 := HKA.out _ hb2
        refine hK.out _ _ (fun _ => hS2) ?_
        clear hK
        try simp only [List.setIfInBounds_toArray, List.set_cons_zero, List.set_cons_succ, Act.put]
        refine oneT (i := 9) rfl (by kernel_rfl) (fun K hK => ?_)
        have hrb := make_bools wp2 ps.length (by omega)
        have hob := madeBools wp2 ps.length
        have hbp3 : Below wp2.heap.size wp2 (wp2.alloc (.cells (madeCells #[.bool false] ps.length) 4)) := (Below.refl _ _).alloc (Nat.le_refl _) _
        have hbl : w.heap.size ≤ wp2.heap.size := hb2.size
        generalize wp2.alloc (.cells (madeCells #[.bool false] ps.length) 4) = wp3 at *
        generalize hDu : wp2.heap.size = Du at hrb hob hbl
        have HRB := Lib.hid hrb
        go_simp
        clear hrb HRB
        replace hon : IntsB wp3 La (List.replicate ps.length 0) := Has.below hon hbp3 (Has.lt hon)
        replace hoc : IntsB wp3 We (wts ps l) := Has.below hoc hbp3 (Has.lt hoc)
        have hb3 : Below w.heap.size w wp3 := below_up hb2 hbp3 hb2.size
        have hS3 := HKA.out _ hb3
        refine hK.out _ _ (fun _ => hS3) ?_
        clear hK
        try simp only [List.setIfInBounds_toArray, List.set_cons_zero, List.set_cons_succ, Act.put]
        have HB := Lib.hid hb3
        have HOB := Lib.hid hob
        have HON := Lib.hid hon
        have HOC := Lib.hid hoc
        have HWN := Lib.hid hwn
        have HL := Lib.hid (show w.heap.size ≤ Du ∧ w.heap.size ≤ We ∧ w.heap.size ≤ La from ⟨hbl, hcl, hnl⟩)
        have hSn := hS3
        refine oneT (i := 22) rfl (by kernel_rfl) (fun K hK => ?_)
        go_simp
        refine hK.out _ _ (fun _ => hSn) ?_
        clear hK
        try simp only [List.setIfInBounds_toArray, List.set_cons_zero, List.set_cons_succ, Act.put]
        have hbe : Below wp3.heap.size wp3 (wp3.alloc (.cells #[.slice pa ps.length pc, .slice (some ⟨Du, 0, none⟩) ps.length ps.length, .slice (some ⟨We, 0, none⟩) ps.length ps.length, .slice (some ⟨La, 0, none⟩) ps.length ps.length] 93)) := (Below.refl _ _).alloc (Nat.le_refl _) _
        have hbx := Has.new wp3 #[.slice pa ps.length pc, .slice (some ⟨Du, 0, none⟩) ps.length ps.length, .slice (some ⟨We, 0, none⟩) ps.length ps.length, .slice (some ⟨La, 0, none⟩) ps.length ps.length] 93
        have hbf := below_up HB.out hbe HB.out.size
        have hSf := HKA.out _ hbf
        have hle : w.heap.size ≤ wp3.heap.size := HB.out.size
        have HDK := Lib.hid (show DeskAt _ wp3.heap.size Du We La (.slice pa ps.length pc) ps (List.replicate ps.length false) (wts ps l) (List.replicate ps.length 0) from
          ⟨hbx, Has.below HOB.out hbe (Has.lt HOB.out), Has.below HOC.out hbe (Has.lt HOC.out), Has.below HON.out hbe (Has.lt HON.out), List.length_replicate, wts_length _ _, List.length_replicate⟩)
        refine oneT (i := 23) rfl (by kernel_rfl) (fun K hK => ?_)
        go_simp
        refine hK.out _ _ (fun _ => hSf) ?_
        clear hK
        try simp only [List.setIfInBounds_toArray, List.set_cons_zero, List.set_cons_succ, Act.put]
        refine oneT (i := 24) rfl (by kernel_rfl) (fun K hK => ?_)
        go_simp
        refine hK.out _ _ (fun _ => hSf) ?_
        clear hK
        try simp only [List.setIfInBounds_toArray, List.set_cons_zero, List.set_cons_succ, Act.put]
        refine doneT (by kernel_rfl) ?_ _
        try simp only [List.setIfInBounds_toArray, List.set_cons_zero, List.set_cons_succ, Act.put]
        go_wp2_with fail
        go_meet
        exact ⟨_, Du, We, La, rfl, HDK.out, hle, HL.out.1, HL.out.2.1, HL.out.2.2, HWN.out, hbf⟩
  case rest =>
    obtain ⟨D, Du, We, La, rfl, hdk, hD1, hD2, hD3, hD4, hwl, hbw⟩ := hcut
    have HBW := Lib.hid hbw
    have a1 := (below_cell hbw hAl).trans (HA.out.cell 1)
    have hDul := Has.lt hdk.dus
    have hrb := make_bools wc cs.length (by omega)
    have hob := madeBools wc cs.length
    have hbp : Below wc.heap.size wc (wc.alloc (.cells (madeCells #[.bool false] cs.length) 4)) := (Below.refl _ _).alloc (Nat.le_refl _) _
    rw [mixB_zero (openF cs m)] at hob
    have hbw1 := below_up hbw hbp hbw.size
    have a1b := (below_cell hbw1 hAl).trans (HA.out.cell 1)
    have hDO : Du ≠ wc.heap.size := by omega
    have hOl : w.heap.size ≤ wc.heap.size := hbw.size
    have HD1 := Lib.hid (DeskAt.below hdk hbp (Nat.le_refl _))
    have HO1 := Lib.hid hob
    have HB1 := Lib.hid hbw1
    clear hdk hob hbw1 hbw hDul HKA
    generalize wc.alloc (.cells (madeCells #[.bool false] cs.length) 4) = w1 at *
    generalize hOp : wc.heap.size = Op at *
    clear hbp hOp HBW
    go_wp2_with fail
    go_loopw [51] (fun iv wr => ∃ i : Nat, iv = .int .i64 ((i : Nat) : Int) ∧ i ≤ cs.length ∧ AtInv w wr D Du We La Op (.slice pa ps.length pc) ps (List.replicate ps.length false) (wts ps l) (List.replicate ps.length 0) (mixB (openF cs m) cs.length i)) (fun iv _ => cs.length - (intOf iv).toNat)
    case atStart => exact ⟨0, rfl, Nat.zero_le _, HD1.out, HO1.out, HB1.out⟩
    case round =>
      obtain ⟨i, rfl, hi, hI⟩ := hrel
      have HI := Lib.hid hI
      clear hI hrb a1 a1b HD1 HO1 HB1
      by_cases hlt : i < cs.length
      · obtain ⟨b, of', cap', hv, hb, hel⟩ := Clds.at (HC.out.below HI.out.below) (by omega)
        cases hv
        obtain ⟨u1, u2, u3, e0, e1, e2, e3, hat⟩ := hel i hlt
        obtain ⟨a1, n1, rfl⟩ := SliceAt.len hat.cs
        obtain ⟨a2, n2, rfl⟩ := SliceAt.len hat.wk
        obtain ⟨a3, n3, rfl⟩ := SliceAt.len hat.sps
        obtain ⟨hof, hofe⟩ : ∃ o, o = cs[i].off := ⟨_, rfl⟩
        obtain ⟨m1, hm1⟩ : ∃ o, o = cs[i].cs.length := ⟨_, rfl⟩
        obtain ⟨m2, hm2⟩ : ∃ o, o = cs[i].wk.length := ⟨_, rfl⟩
        obtain ⟨m3, hm3⟩ : ∃ o, o = cs[i].sps.length := ⟨_, rfl⟩
        have HOP := Lib.hid (fun W hW => Open_any cs[i] _ _ _ m W (hat.below hW))
        rw [← hofe, ← hm1, ← hm2, ← hm3] at HOP
        rw [← hofe] at e0
        rw [← hm1] at e1
        rw [← hm2] at e2
        rw [← hm3] at e3
        have HFI := Lib.hid (show CkFine cs[i] ∧ momI m = 0 from ⟨HCF.out.each _ (List.getElem_mem hlt), by unfold momI; rw [if_pos hm]⟩)
        have HOF := Lib.hid (show openF cs m i = openB cs[i] m by unfold openF; simp [List.getD, hlt])
        clear hel hat hofe hm1 hm2 hm3
        obtain ⟨bx, bbl⟩ := box1 wr #[.int .i64 hof, .slice a1 m1 n1, .slice a2 m2 n2, .slice a3 m3 n3] 77
        have HBL := Lib.hid bbl
        have HX := Lib.hid bx
        have k0 := bx.cell 0
        have k1 := bx.cell 1
        have k2 := bx.cell 2
        have k3 := bx.cell 3
        go_upto_region 6 with fail
        generalize wr.alloc (.cells #[.int .i64 hof, .slice a1 m1 n1, .slice a2 m2 n2, .slice a3 m3 n3] 77) = wb at *
        clear bx bbl e0 e1 e2 e3
        go_wp2_with fail
        refine (HOP.out wb HBL.out).mono ?_
        rintro e w5 ⟨ob, ok, rfl, hk1, hk2, _, hb5⟩
        obtain rfl := hk1.2 HFI.out
        have hob := hk2 rfl
        rw [← HOF.out] at hob
        subst hob
        have hb9 := below_up HBL.out hb5 HBL.out.size
        have HI5 := Lib.hid (show AtInv w w5 D Du We La Op (.slice pa ps.length pc) ps (List.replicate ps.length false) (wts ps l) (List.replicate ps.length 0) (mixB (openF cs m) cs.length i) from ⟨HI.out.desk.below hb9 (Nat.le_refl _), Has.below HI.out.op hb9 (Has.lt HI.out.op), below_up HI.out.below hb9 HI.out.below.size⟩)
        have q1 := (HI5.out.op.cells i (by rw [mixB_length]; exact hlt)).1
        have q2 := (HI5.out.op.cells i (by rw [mixB_length]; exact hlt)).2
        generalize (mixB (openF cs m) cs.length i)[i]'(by rw [mixB_length]; exact hlt) = qq at q1
        clear hb5 hb9 hk1 hk2 HOP k0 k1 k2 k3 HBL HX HI
        go_wp2_with fail
        go_roundw
        case rel =>
          refine ⟨i + 1, by go_num, hlt, HI5.out.desk.setB HI5.out.op hDO, ?_, HI5.out.below.setCell (p := ⟨Op, i, none⟩) hOl _⟩
          rw [← mixB_next]
          exact HI5.out.op.set i _
        case measure => simp [intOf]; omega
      · obtain rfl : i = cs.length := by omega
        have HI2 := Lib.hid (show AtInv w wr D Du We La Op (.slice pa ps.length pc) ps (List.replicate ps.length false) (wts ps l) (List.replicate ps.length 0) (mixB (openF cs m) cs.length cs.length) from HI.out)
        rw [mixB_zero (dutyL ps cs m)] at HI2
        have a0 := (below_cell HI2.out.below hAl).trans (HA.out.cell 0)
        clear HI
        generalize hwr : wr = w2 at *
        clear hwr
        go_wp2_with fail
        go_loopw [71] (fun iv wr => ∃ i : Nat, iv = .int .i64 ((i : Nat) : Int) ∧ i ≤ ps.length ∧ ∃ la, AtInv w wr D Du We La Op (.slice pa ps.length pc) ps (mixB (dutyL ps cs m) ps.length i) (wts ps l) la (mixB (openF cs m) cs.length cs.length)) (fun iv _ => ps.length - (intOf iv).toNat)
        case atStart => exact ⟨0, rfl, Nat.zero_le _, _, HI2.out⟩
        case round =>
          clear a0 HI2
          obtain ⟨i, rfl, hi, la, hI⟩ := hrel
          have HI := Lib.hid hI
          clear hI
          by_cases hlt : i < ps.length
          · obtain ⟨b, of', cap', hv, hb, hel⟩ := Pers.at (HP.out.below HI.out.below) (by omega)
            cases hv
            obtain ⟨u, e0, e1, e2, e3, hsk⟩ := hel i hlt
            obtain ⟨sa, sc, rfl⟩ := SliceAt.len hsk
            obtain ⟨sn, hsn⟩ : ∃ sn, sn = (ps[i].sk).length := ⟨_, rfl⟩
            rw [← hsn] at e3
            have hc1 := (HPF.out.2.each i hlt).2.2.1
            have hc2 := HCF.out.has _ (List.getElem_mem hlt)
            obtain ⟨en, hen⟩ : ∃ en, en = ps[i] := ⟨_, rfl⟩
            rw [← hen] at e0 e1 e2 hc1 hc2
            have HDL := Lib.hid (show dutyL ps cs m i = openF cs m en.cl.toNat by unfold dutyL dutyF; simp [List.getD, hlt, ← hen])
            clear hel hsk hsn hen
            obtain ⟨x1, x2, x3, sk⟩ := en
            simp only at e0 e1 e2 hc1 hc2 HDL
            obtain ⟨c, rfl⟩ : ∃ c : Nat, x3 = (c : Int) := Int.eq_ofNat_of_zero_le hc1.1
            rw [Int.toNat_natCast] at HDL
            have hcl2 : c < cs.length := by omega
            obtain ⟨t, ht⟩ : ∃ t, openF cs m c = t := ⟨_, rfl⟩
            rw [ht] at HDL
            have HNX := Lib.hid (mixB_next (dutyL ps cs m) ps.length (i := i))
            rw [HDL.out] at HNX
            have HOC := Lib.hid (show wr.cell? ⟨Op, c, none⟩ = some (.bool t) from by
              have := (HI.out.op.cells c (by rw [mixB_length]; exact hcl2)).1
              rw [this]
              simp [mixB, hcl2, ht])
            clear ht hc1 hc2
            obtain ⟨bx, bbl⟩ := box1 wr #[.int .i64 x1, .int .i64 x2, .int .i64 ((c : Nat) : Int), .slice sa sn sc] 65
            have HIB := Lib.hid (show AtInv w _ D Du We La Op _ ps (mixB (dutyL ps cs m) ps.length i) (wts ps l) la (mixB (openF cs m) cs.length cs.length) from ⟨HI.out.desk.below bbl (Nat.le_refl _), Has.below HI.out.op bbl (Has.lt HI.out.op), below_up HI.out.below bbl HI.out.below.size⟩)
            have k2 := bx.cell 2
            have hOPl := Has.lt HI.out.op
            have oc := (below_cell bbl hOPl).trans HOC.out
            have hwz : wr.heap.size < (wr.alloc (.cells #[.int .i64 x1, .int .i64 x2, .int .i64 ((c : Nat) : Int), .slice sa sn sc] 65)).heap.size := bx.lt
            go_upto_region 11 with fail
            generalize wr.alloc (.cells #[.int .i64 x1, .int .i64 x2, .int .i64 ((c : Nat) : Int), .slice sa sn sc] 65) = wb at *
            generalize wr.heap.size = B at *
            clear bx bbl e0 e1 e2 e3 HI HOC
            have a3 : wb.cell? ⟨A, 3, none⟩ = some (.slice (some ⟨Aw, 0, none⟩) ps.length ps.length) := (below_cell HIB.out.below hAl).trans (HA.out.cell 3)
            have d1 := HIB.out.desk.box.cell 1
            have aw : wb.cell? ⟨Aw, i, none⟩ = some (.bool false) := by
              rw [below_cell HIB.out.below hAwl]
              have := (HAW.out.cells i (by rw [List.length_replicate]; exact hlt)).1
              simpa using this
            have q1 := (HIB.out.desk.dus.cells i (by rw [mixB_length]; exact hlt)).1
            generalize (mixB (dutyL ps cs m) ps.length i)[i]'(by rw [mixB_length]; exact hlt) = qq at q1
            have hDD := has_ne HIB.out.desk.box HIB.out.desk.dus (by decide)
            cases t with
            | true =>
              refine anyT_start (S := fun W : World => W.cell? ⟨A, 3, none⟩ = some (.slice (some ⟨Aw, 0, none⟩) ps.length ps.length) ∧ W.cell? ⟨D, 1, none⟩ = some (.slice (some ⟨Du, 0, none⟩) ps.length ps.length) ∧ W.cell? ⟨Op, c, none⟩ = some (.bool true) ∧ W.cell? ⟨Aw, i, none⟩ = some (.bool false) ∧ W.cell? ⟨B, 2, none⟩ = some (.int .i64 ((c : Nat) : Int))) (t := 21) (by kernel_rfl) ?_
              have hS0 : wb.drew.cell? ⟨A, 3, none⟩ = some (.slice (some ⟨Aw, 0, none⟩) ps.length ps.length) ∧ wb.drew.cell? ⟨D, 1, none⟩ = some (.slice (some ⟨Du, 0, none⟩) ps.length ps.length) ∧ wb.drew.cell? ⟨Op, c, none⟩ = some (.bool true) ∧ wb.drew.cell? ⟨Aw, i, none⟩ = some (.bool false) ∧ wb.drew.cell? ⟨B, 2, none⟩ = some (.int .i64 ((c : Nat) : Int)) := ⟨a3, d1, oc, aw, k2⟩
              have HID := Lib.hid (show AtInv w wb.drew D Du We La Op _ ps (mixB (dutyL ps cs m) ps.length i) (wts ps l) la (mixB (openF cs m) cs.length cs.length) from ⟨HIB.out.desk.drew, HIB.out.op, HIB.out.below.drew⟩)
              have q1 : wb.drew.cell? ⟨Du, i, none⟩ = some (.bool qq) := q1
              have q2 : wb.drew.frozen? ⟨Du, i, none⟩ = false := HID.out.desk.dus.fz i
              generalize wb.drew = wd at *
              refine takeT (i := 0) (v := ?_) rfl rfl (by kernel_rfl) (by kernel_rfl) (by kernel_rfl) (fun _ _ _ h => h) (by decide) (by kernel_rfl) (by kernel_rfl) ?_ hS0 ?_
              rotate_left
              · intro w hSw; (try dsimp only at hSw); go_simp; (try with_reducible rfl)
              simp only [List.setIfInBounds_toArray, List.set_cons_zero, List.set_cons_succ]
              refine takeT (i := 1) (v := ?_) rfl rfl (by kernel_rfl) (by kernel_rfl) (by kernel_rfl) (fun _ _ _ h => h) (by decide) (by kernel_rfl) (by kernel_rfl) ?_ hS0 ?_
              rotate_left
              · intro w hSw; (try dsimp only at hSw); go_simp; (try with_reducible rfl)
              simp only [List.setIfInBounds_toArray, List.set_cons_zero, List.set_cons_succ]
              refine takeT (i := 2) (v := ?_) rfl rfl (by kernel_rfl) (by kernel_rfl) (by kernel_rfl) (fun _ _ _ h => h) (by decide) (by kernel_rfl) (by kernel_rfl) ?_ hS0 ?_
              rotate_left
              · intro w hSw; (try dsimp only at hSw); go_simp; (try with_reducible rfl)
              simp only [List.setIfInBounds_toArray, List.set_cons_zero, List.set_cons_succ]
              refine takeT (i := 3) (v := ?_) rfl rfl (by kernel_rfl) (by kernel_rfl) (by kernel_rfl) (fun _ _ _ h => h) (by decide) (by kernel_rfl) (by kernel_rfl) ?_ hS0 ?_
              rotate_left
              · intro w hSw; (try dsimp only at hSw); go_simp; (try with_reducible rfl)
              simp only [List.setIfInBounds_toArray, List.set_cons_zero, List.set_cons_succ]
              refine takeT (i := 4) (v := ?_) rfl rfl (by kernel_rfl) (by kernel_rfl) (by kernel_rfl) (fun _ _ _ h => h) (by decide) (by kernel_rfl) (by kernel_rfl) ?_ hS0 ?_
              rotate_left
              · intro w hSw; (try dsimp only at hSw); go_simp; (try with_reducible rfl)
              simp only [List.setIfInBounds_toArray, List.set_cons_zero, List.set_cons_succ]
              refine takeT (i := 5) (v := ?_) rfl rfl (by kernel_rfl) (by kernel_rfl) (by kernel_rfl) (fun _ _ _ h => h) (by decide) (by kernel_rfl) (by kernel_rfl) ?_ hS0 ?_
              rotate_left
              · intro w hSw; (try dsimp only at hSw); go_simp; (try with_reducible rfl)
              simp only [List.setIfInBounds_toArray, List.set_cons_zero, List.set_cons_succ]
              refine takeT (i := 6) (v := ?_) rfl rfl (by kernel_rfl) (by kernel_rfl) (by kernel_rfl) (fun _ _ _ h => h) (by decide) (by kernel_rfl) (by kernel_rfl) ?_ hS0 ?_
              rotate_left
              · intro w hSw; (try dsimp only at hSw); go_simp; (try with_reducible rfl)
              simp only [List.setIfInBounds_toArray, List.set_cons_zero, List.set_cons_succ]
              refine takeT (i := 7) (v := ?_) rfl rfl (by kernel_rfl) (by kernel_rfl) (by kernel_rfl) (fun _ _ _ h => h) (by decide) (by kernel_rfl) (by kernel_rfl) ?_ hS0 ?_
              rotate_left
              · intro w hSw; (try dsimp only at hSw); go_simp; (try with_reducible rfl)
              simp only [List.setIfInBounds_toArray, List.set_cons_zero, List.set_cons_succ]
              refine takeT (i := 8) (v := ?_) rfl rfl (by kernel_rfl) (by kernel_rfl) (by kernel_rfl) (fun _ _ _ h => h) (by decide) (by kernel_rfl) (by kernel_rfl) ?_ hS0 ?_
              rotate_left
              · intro w hSw; (try dsimp only at hSw); go_simp; first | (with_reducible rfl) | (rw [if_pos (by omega)])
              simp only [List.setIfInBounds_toArray, List.set_cons_zero, List.set_cons_succ]
              refine takeT (i := 9) (v := ?_) rfl rfl (by kernel_rfl) (by kernel_rfl) (by kernel_rfl) (fun _ _ _ h => h) (by decide) (by kernel_rfl) (by kernel_rfl) ?_ hS0 ?_
              rotate_left
              · intro w hSw; (try dsimp only at hSw); go_simp; (try with_reducible rfl)
              simp only [List.setIfInBounds_toArray, List.set_cons_zero, List.set_cons_succ]
              refine takeT (i := 10) (v := ?_) rfl rfl (by kernel_rfl) (by kernel_rfl) (by kernel_rfl) (fun _ _ _ h => h) (by decide) (by kernel_rfl) (by kernel_rfl) ?_ hS0 ?_
              rotate_left
              · intro w hSw; (try dsimp only at hSw); go_simp; (try with_reducible rfl)
              simp only [List.setIfInBounds_toArray, List.set_cons_zero, List.set_cons_succ]
              refine takeT (i := 11) (v := ?_) rfl rfl (by kernel_rfl) (by kernel_rfl) (by kernel_rfl) (fun _ _ _ h => h) (by decide) (by kernel_rfl) (by kernel_rfl) ?_ hS0 ?_
              rotate_left
              · intro w hSw; (try dsimp only at hSw); go_simp; (try with_reducible rfl)
              simp only [List.setIfInBounds_toArray, List.set_cons_zero, List.set_cons_succ]
              refine takeT (i := 12) (v := ?_) rfl rfl (by kernel_rfl) (by kernel_rfl) (by kernel_rfl) (fun _ _ _ h => h) (by decide) (by kernel_rfl) (by kernel_rfl) ?_ hS0 ?_
              rotate_left
              · intro w hSw; (try dsimp only at hSw); go_simp; (try with_reducible rfl)
              simp only [List.setIfInBounds_toArray, List.set_cons_zero, List.set_cons_succ]
              refine takeT (i := 13) (v := ?_) rfl rfl (by kernel_rfl) (by kernel_rfl) (by kernel_rfl) (fun _ _ _ h => h) (by decide) (by kernel_rfl) (by kernel_rfl) ?_ hS0 ?_
              rotate_left
              · intro w hSw; (try dsimp only at hSw); go_simp; (try with_reducible rfl)
              simp only [List.setIfInBounds_toArray, List.set_cons_zero, List.set_cons_succ]
              refine takeT (i := 14) (v := ?_) rfl rfl (by kernel_rfl) (by kernel_rfl) (by kernel_rfl) (fun _ _ _ h => h) (by decide) (by kernel_rfl) (by kernel_rfl) ?_ hS0 ?_
              rotate_left
              · intro w hSw; (try dsimp only at hSw); go_simp; (try with_reducible rfl)
              simp only [List.setIfInBounds_toArray, List.set_cons_zero, List.set_cons_succ]
              refine takeT (i := 15) (v := ?_) rfl rfl (by kernel_rfl) (by kernel_rfl) (by kernel_rfl) (fun _ _ _ h => h) (by decide) (by kernel_rfl) (by kernel_rfl) ?_ hS0 ?_
              rotate_left
              · intro w hSw; (try dsimp only at hSw); go_simp; (try with_reducible rfl)
              simp only [List.setIfInBounds_toArray, List.set_cons_zero, List.set_cons_succ]
              refine takeT (i := 16) (v := ?_) rfl rfl (by kernel_rfl) (by kernel_rfl) (by kernel_rfl) (fun _ _ _ h => h) (by decide) (by kernel_rfl) (by kernel_rfl) ?_ hS0 ?_
              rotate_left
              · intro w hSw; (try dsimp only at hSw); go_simp; first | (with_reducible rfl) | (rw [if_pos (by omega)])
              simp only [List.setIfInBounds_toArray, List.set_cons_zero, List.set_cons_succ]
              refine takeT (i := 17) (v := ?_) rfl rfl (by kernel_rfl) (by kernel_rfl) (by kernel_rfl) (fun _ _ _ h => h) (by decide) (by kernel_rfl) (by kernel_rfl) ?_ hS0 ?_
              rotate_left
              · intro w hSw; (try dsimp only at hSw); go_simp; (try with_reducible rfl)
              simp only [List.setIfInBounds_toArray, List.set_cons_zero, List.set_cons_succ]
              refine takeT (i := 18) (v := ?_) rfl rfl (by kernel_rfl) (by kernel_rfl) (by kernel_rfl) (fun _ _ _ h => h) (by decide) (by kernel_rfl) (by kernel_rfl) ?_ hS0 ?_
              rotate_left
              · intro w hSw; (try dsimp only at hSw); go_simp; (try with_reducible rfl)
              simp only [List.setIfInBounds_toArray, List.set_cons_zero, List.set_cons_succ]
              refine takeT (i := 19) (v := ?_) rfl rfl (by kernel_rfl) (by kernel_rfl) (by kernel_rfl) (fun _ _ _ h => h) (by decide) (by kernel_rfl) (by kernel_rfl) ?_ hS0 ?_
              rotate_left
              · intro w hSw; (try dsimp only at hSw); go_simp; (try with_reducible rfl)
              simp only [List.setIfInBounds_toArray, List.set_cons_zero, List.set_cons_succ]
              refine oneT (i := 20) rfl (by kernel_rfl) (fun K hK => ?_)
              go_simp
              refine hK.out _ _ (fun _ => hS0) ?_
              clear hK
              try simp only [List.setIfInBounds_toArray, List.set_cons_zero, List.set_cons_succ, Act.put]
              refine oneT (i := 21) rfl (by kernel_rfl) (fun K hK => ?_)
              go_simp
              refine hK.out _ _ (fun q => absurd rfl q) ?_
              refine doneT (by kernel_rfl) ?_ _
              clear hK hS0 a3 d1 oc aw k2 q1 q2
              have HIX := Lib.hid (show AtInv w (wd.setCell ⟨Du, i, none⟩ (.bool true)) D Du We La Op _ ps (mixB (dutyL ps cs m) ps.length (i + 1)) (wts ps l) la (mixB (openF cs m) cs.length cs.length) from
                ⟨by rw [← HNX.out]; exact HID.out.desk.setDu i true, Has.set_other HID.out.op _ _ (Ne.symm hDO), HID.out.below.setCell (p := ⟨Du, i, none⟩) hD2 _⟩)
              generalize wd.setCell ⟨Du, i, none⟩ (.bool true) = wx at *
              have d3 := HIX.out.desk.box.cell 3
              have hll2 := HIX.out.desk.ll
              have q1 := (HIX.out.desk.las.cells i (by omega)).1
              have q2 := HIX.out.desk.las.fz i
              generalize la[i]'(by omega) = qz at q1
              have hLD := has_ne HIX.out.desk.las HIX.out.op (by decide)
              go_wp2_with fail
              go_roundw
              case rel => exact ⟨i + 1, by go_num, hlt, la.set i (-1), HIX.out.desk.setLa hwl i (-1), Has.set_other HIX.out.op _ _ (Ne.symm hLD), HIX.out.below.setCell (p := ⟨La, i, none⟩) hD4 _⟩
              case measure => simp [intOf]; omega
            | false =>
              refine anyT_start (S := fun W : World => W.cell? ⟨A, 3, none⟩ = some (.slice (some ⟨Aw, 0, none⟩) ps.length ps.length) ∧ W.cell? ⟨D, 1, none⟩ = some (.slice (some ⟨Du, 0, none⟩) ps.length ps.length) ∧ W.cell? ⟨Op, c, none⟩ = some (.bool false) ∧ W.cell? ⟨Aw, i, none⟩ = some (.bool false) ∧ W.cell? ⟨B, 2, none⟩ = some (.int .i64 ((c : Nat) : Int))) (t := 21) (by kernel_rfl) ?_
              have hS0 : wb.drew.cell? ⟨A, 3, none⟩ = some (.slice (some ⟨Aw, 0, none⟩) ps.length ps.length) ∧ wb.drew.cell? ⟨D, 1, none⟩ = some (.slice (some ⟨Du, 0, none⟩) ps.length ps.length) ∧ wb.drew.cell? ⟨Op, c, none⟩ = some (.bool false) ∧ wb.drew.cell? ⟨Aw, i, none⟩ = some (.bool false) ∧ wb.drew.cell? ⟨B, 2, none⟩ = some (.int .i64 ((c : Nat) : Int)) := ⟨a3, d1, oc, aw, k2⟩
              have HID := Lib.hid (show AtInv w wb.drew D Du We La Op _ ps (mixB (dutyL ps cs m) ps.length i) (wts ps l) la (mixB (openF cs m) cs.length cs.length) from ⟨HIB.out.desk.drew, HIB.out.op, HIB.out.below.drew⟩)
              have q1 : wb.drew.cell? ⟨Du, i, none⟩ = some (.bool qq) := q1
              have q2 : wb.drew.frozen? ⟨Du, i, none⟩ = false := HID.out.desk.dus.fz i
              generalize wb.drew = wd at *
              refine takeT (i := 0) (v := ?_) rfl rfl (by kernel_rfl) (by kernel_rfl) (by kernel_rfl) (fun _ _ _ h => h) (by decide) (by kernel_rfl) (by kernel_rfl) ?_ hS0 ?_
              rotate_left
              · intro w hSw; (try dsimp only at hSw); go_simp; (try with_reducible rfl)
              simp only [List.setIfInBounds_toArray, List.set_cons_zero, List.set_cons_succ]
              refine takeT (i := 1) (v := ?_) rfl rfl (by kernel_rfl) (by kernel_rfl) (by kernel_rfl) (fun _ _ _ h => h) (by decide) (by kernel_rfl) (by kernel_rfl) ?_ hS0 ?_
              rotate_left
              · intro w hSw; (try dsimp only at hSw); go_simp; (try with_reducible rfl)
              simp only [List.setIfInBounds_toArray, List.set_cons_zero, List.set_cons_succ]
              refine takeT (i := 2) (v := ?_) rfl rfl (by kernel_rfl) (by kernel_rfl) (by kernel_rfl) (fun _ _ _ h => h) (by decide) (by kernel_rfl) (by kernel_rfl) ?_ hS0 ?_
              rotate_left
              · intro w hSw; (try dsimp only at hSw); go_simp; (try with_reducible rfl)
              simp only [List.setIfInBounds_toArray, List.set_cons_zero, List.set_cons_succ]
              refine takeT (i := 3) (v := ?_) rfl rfl (by kernel_rfl) (by kernel_rfl) (by kernel_rfl) (fun _ _ _ h => h) (by decide) (by kernel_rfl) (by kernel_rfl) ?_ hS0 ?_
              rotate_left
              · intro w hSw; (try dsimp only at hSw); go_simp; (try with_reducible rfl)
              simp only [List.setIfInBounds_toArray, List.set_cons_zero, List.set_cons_succ]
              refine takeT (i := 4) (v := ?_) rfl rfl (by kernel_rfl) (by kernel_rfl) (by kernel_rfl) (fun _ _ _ h => h) (by decide) (by kernel_rfl) (by kernel_rfl) ?_ hS0 ?_
              rotate_left
              · intro w hSw; (try dsimp only at hSw); go_simp; (try with_reducible rfl)
              simp only [List.setIfInBounds_toArray, List.set_cons_zero, List.set_cons_succ]
              refine takeT (i := 5) (v := ?_) rfl rfl (by kernel_rfl) (by kernel_rfl) (by kernel_rfl) (fun _ _ _ h => h) (by decide) (by kernel_rfl) (by kernel_rfl) ?_ hS0 ?_
              rotate_left
              · intro w hSw; (try dsimp only at hSw); go_simp; (try with_reducible rfl)
              simp only [List.setIfInBounds_toArray, List.set_cons_zero, List.set_cons_succ]
              refine takeT (i := 6) (v := ?_) rfl rfl (by kernel_rfl) (by kernel_rfl) (by kernel_rfl) (fun _ _ _ h => h) (by decide) (by kernel_rfl) (by kernel_rfl) ?_ hS0 ?_
              rotate_left
              · intro w hSw; (try dsimp only at hSw); go_simp; (try with_reducible rfl)
              simp only [List.setIfInBounds_toArray, List.set_cons_zero, List.set_cons_succ]
              refine takeT (i := 7) (v := ?_) rfl rfl (by kernel_rfl) (by kernel_rfl) (by kernel_rfl) (fun _ _ _ h => h) (by decide) (by kernel_rfl) (by kernel_rfl) ?_ hS0 ?_
              rotate_left
              · intro w hSw; (try dsimp only at hSw); go_simp; (try with_reducible rfl)
              simp only [List.setIfInBounds_toArray, List.set_cons_zero, List.set_cons_succ]
              refine takeT (i := 8) (v := ?_) rfl rfl (by kernel_rfl) (by kernel_rfl) (by kernel_rfl) (fun _ _ _ h => h) (by decide) (by kernel_rfl) (by kernel_rfl) ?_ hS0 ?_
              rotate_left
              · intro w hSw; (try dsimp only at hSw); go_simp; first | (with_reducible rfl) | (rw [if_pos (by omega)])
              simp only [List.setIfInBounds_toArray, List.set_cons_zero, List.set_cons_succ]
              refine takeT (i := 9) (v := ?_) rfl rfl (by kernel_rfl) (by kernel_rfl) (by kernel_rfl) (fun _ _ _ h => h) (by decide) (by kernel_rfl) (by kernel_rfl) ?_ hS0 ?_
              rotate_left
              · intro w hSw; (try dsimp only at hSw); go_simp; (try with_reducible rfl)
              simp only [List.setIfInBounds_toArray, List.set_cons_zero, List.set_cons_succ]
              refine takeT (i := 10) (v := ?_) rfl rfl (by kernel_rfl) (by kernel_rfl) (by kernel_rfl) (fun _ _ _ h => h) (by decide) (by kernel_rfl) (by kernel_rfl) ?_ hS0 ?_
              rotate_left
              · intro w hSw; (try dsimp only at hSw); go_simp; (try with_reducible rfl)
              simp only [List.setIfInBounds_toArray, List.set_cons_zero, List.set_cons_succ]
              refine skipT (i := 11) rfl rfl (by kernel_rfl) (by kernel_rfl) (by kernel_rfl) (fun _ _ _ h => h) (by decide) (by kernel_rfl) (by kernel_rfl) hS0 ?_
              simp only [List.setIfInBounds_toArray, List.set_cons_zero, List.set_cons_succ]
              refine skipT (i := 12) rfl rfl (by kernel_rfl) (by kernel_rfl) (by kernel_rfl) (fun _ _ _ h => h) (by decide) (by kernel_rfl) (by kernel_rfl) hS0 ?_
              simp only [List.setIfInBounds_toArray, List.set_cons_zero, List.set_cons_succ]
              refine skipT (i := 13) rfl rfl (by kernel_rfl) (by kernel_rfl) (by kernel_rfl) (fun _ _ _ h => h) (by decide) (by kernel_rfl) (by kernel_rfl) hS0 ?_
              simp only [List.setIfInBounds_toArray, List.set_cons_zero, List.set_cons_succ]
              refine skipT (i := 14) rfl rfl (by kernel_rfl) (by kernel_rfl) (by kernel_rfl) (fun _ _ _ h => h) (by decide) (by kernel_rfl) (by kernel_rfl) hS0 ?_
              simp only [List.setIfInBounds_toArray, List.set_cons_zero, List.set_cons_succ]
              refine skipT (i := 15) rfl rfl (by kernel_rfl) (by kernel_rfl) (by kernel_rfl) (fun _ _ _ h => h) (by decide) (by kernel_rfl) (by kernel_rfl) hS0 ?_
              simp only [List.setIfInBounds_toArray, List.set_cons_zero, List.set_cons_succ]
              refine skipT (i := 16) rfl rfl (by kernel_rfl) (by kernel_rfl) (by kernel_rfl) (fun _ _ _ h => h) (by decide) (by kernel_rfl) (by kernel_rfl) hS0 ?_
              simp only [List.setIfInBounds_toArray, List.set_cons_zero, List.set_cons_succ]
              refine skipT (i := 17) rfl rfl (by kernel_rfl) (by kernel_rfl) (by kernel_rfl) (fun _ _ _ h => h) (by decide) (by kernel_rfl) (by kernel_rfl) hS0 ?_
              simp only [List.setIfInBounds_toArray, List.set_cons_zero, List.set_cons_succ]
              refine skipT (i := 18) rfl rfl (by kernel_rfl) (by kernel_rfl) (by kernel_rfl) (fun _ _ _ h => h) (by decide) (by kernel_rfl) (by kernel_rfl) hS0 ?_
              simp only [List.setIfInBounds_toArray, List.set_cons_zero, List.set_cons_succ]
              refine takeT (i := 19) (v := ?_) rfl rfl (by kernel_rfl) (by kernel_rfl) (by kernel_rfl) (fun _ _ _ h => h) (by decide) (by kernel_rfl) (by kernel_rfl) ?_ hS0 ?_
              rotate_left
              · intro w hSw; (try dsimp only at hSw); go_simp; (try with_reducible rfl)
              simp only [List.setIfInBounds_toArray, List.set_cons_zero, List.set_cons_succ]
              refine oneT (i := 20) rfl (by kernel_rfl) (fun K hK => ?_)
              go_simp
              refine hK.out _ _ (fun _ => hS0) ?_
              clear hK
              try simp only [List.setIfInBounds_toArray, List.set_cons_zero, List.set_cons_succ, Act.put]
              refine oneT (i := 21) rfl (by kernel_rfl) (fun K hK => ?_)
              go_simp
              refine hK.out _ _ (fun q => absurd rfl q) ?_
              refine doneT (by kernel_rfl) ?_ _
              clear hK hS0 a3 d1 oc aw k2 q1 q2
              have HIX := Lib.hid (show AtInv w (wd.setCell ⟨Du, i, none⟩ (.bool false)) D Du We La Op _ ps (mixB (dutyL ps cs m) ps.length (i + 1)) (wts ps l) la (mixB (openF cs m) cs.length cs.length) from
                ⟨by rw [← HNX.out]; exact HID.out.desk.setDu i false, Has.set_other HID.out.op _ _ (Ne.symm hDO), HID.out.below.setCell (p := ⟨Du, i, none⟩) hD2 _⟩)
              generalize wd.setCell ⟨Du, i, none⟩ (.bool false) = wx at *
              have d3 := HIX.out.desk.box.cell 3
              have hll2 := HIX.out.desk.ll
              have q1 := (HIX.out.desk.las.cells i (by omega)).1
              have q2 := HIX.out.desk.las.fz i
              generalize la[i]'(by omega) = qz at q1
              have hLD := has_ne HIX.out.desk.las HIX.out.op (by decide)
              go_wp2_with fail
              go_roundw
              case rel => exact ⟨i + 1, by go_num, hlt, la.set i (-1), HIX.out.desk.setLa hwl i (-1), Has.set_other HIX.out.op _ _ (Ne.symm hLD), HIX.out.below.setCell (p := ⟨La, i, none⟩) hD4 _⟩
              case measure => simp [intOf]; omega
          · obtain rfl : i = ps.length := by omega
            have HI3 := Lib.hid (show AtInv w wr D Du We La Op (.slice pa ps.length pc) ps (mixB (dutyL ps cs m) ps.length ps.length) (wts ps l) la (mixB (openF cs m) cs.length cs.length) from HI.out)
            rw [mixB_full (dutyL ps cs m), dutyL_full] at HI3
            clear HI
            generalize hwr : wr = w3 at *
            clear hwr
            go_wp2_with fail
            go_loopw [106] (fun iv wr => ∃ i : Nat, iv = .int .i64 ((i : Nat) : Int) ∧ i ≤ l.length ∧ ∃ la, AtInv w wr D Du We La Op (.slice pa ps.length pc) ps (ps.map (dutyF cs m)) (wts ps l) la (mixB (openF cs m) cs.length cs.length)) (fun iv _ => l.length - (intOf iv).toNat)
            case atStart => exact ⟨0, rfl, Nat.zero_le _, la, HI3.out⟩
            case round =>
              clear HI3
              obtain ⟨i, rfl, hi, la, hI⟩ := hrel
              have HI := Lib.hid hI
              clear hI
              by_cases hlt : i < l.length
              · obtain ⟨b, of', cap', hv, hb, hel⟩ := Hds.at (H.out.below HI.out.below) (by omega)
                cases hv
                obtain ⟨e0, e1, e2, e3⟩ := hel i hlt
                obtain ⟨n, hn, hno⟩ := hd_pos HLF.out hlt
                clear hel
                generalize hs : l[i] = s at *
                clear hs
                obtain ⟨x1, x2, x3, x4⟩ := s
                simp only at e0 e1 e2 e3 hno
                have HNO := Lib.hid hno
                clear hno
                obtain ⟨bx, bbl⟩ := box1 wr #[.int .i64 x1, .int .i64 x2, .int .i64 x3, .int .i64 x4] 33
                have HIB := Lib.hid (show AtInv w _ D Du We La Op (.slice pa ps.length pc) ps (ps.map (dutyF cs m)) (wts ps l) la (mixB (openF cs m) cs.length cs.length) from ⟨HI.out.desk.below bbl (Nat.le_refl _), Has.below HI.out.op bbl (Has.lt HI.out.op), below_up HI.out.below bbl HI.out.below.size⟩)
                have HX := Lib.hid bx
                have hBl := bx.lt
                go_upto_region 17 with fail
                generalize wr.alloc (.cells #[.int .i64 x1, .int .i64 x2, .int .i64 x3, .int .i64 x4] 33) = wb at *
                generalize wr.heap.size = B at *
                clear bx bbl e0 e1 e2 e3 HI
                have HKS := Lib.hid (fun W (hW : Below wb.heap.size wb W) => (⟨(below_cell (below_up HIB.out.below hW HIB.out.below.size) hAl).trans (HA.out.cell 0), (below_cell hW hBl).trans (HX.out.cell 1)⟩ : W.cell? ⟨A, 0, none⟩ = some (.slice pa ps.length pc) ∧ W.cell? ⟨B, 1, none⟩ = some (.int .i64 x2)))
                refine anyT_start (S := fun W : World => W.cell? ⟨A, 0, none⟩ = some (.slice pa ps.length pc) ∧ W.cell? ⟨B, 1, none⟩ = some (.int .i64 x2)) (t := 8) (by kernel_rfl) ?_
                have hb0 : Below wb.heap.size wb wb.drew := (Below.refl _ _).drew
                have hS0 := HKS.out _ hb0
                generalize wb.drew = wd at *
                refine takeS (i := 0) (v := ?_) rfl rfl (by kernel_rfl) (by kernel_rfl) (by kernel_rfl) (fun _ _ _ h => h) (by decide) (by kernel_rfl) ?_ hS0 ?_
                rotate_left
                · intro w hSw; (try dsimp only at hSw); go_simp; (try with_reducible rfl)
                simp only [List.setIfInBounds_toArray, List.set_cons_zero, List.set_cons_succ]
                refine takeS (i := 1) (v := ?_) rfl rfl (by kernel_rfl) (by kernel_rfl) (by kernel_rfl) (fun _ _ _ h => h) (by decide) (by kernel_rfl) ?_ hS0 ?_
                rotate_left
                · intro w hSw; (try dsimp only at hSw); go_simp; (try with_reducible rfl)
                simp only [List.setIfInBounds_toArray, List.set_cons_zero, List.set_cons_succ]
                refine takeS (i := 2) (v := ?_) rfl rfl (by kernel_rfl) (by kernel_rfl) (by kernel_rfl) (fun _ _ _ h => h) (by decide) (by kernel_rfl) ?_ hS0 ?_
                rotate_left
                · intro w hSw; (try dsimp only at hSw); go_simp; (try with_reducible rfl)
                simp only [List.setIfInBounds_toArray, List.set_cons_zero, List.set_cons_succ]
                refine takeS (i := 3) (v := ?_) rfl rfl (by kernel_rfl) (by kernel_rfl) (by kernel_rfl) (fun _ _ _ h => h) (by decide) (by kernel_rfl) ?_ hS0 ?_
                rotate_left
                · intro w hSw; (try dsimp only at hSw); go_simp; (try with_reducible rfl)
                simp only [List.setIfInBounds_toArray, List.set_cons_zero, List.set_cons_succ]
                refine takeS (i := 4) (v := ?_) rfl rfl (by kernel_rfl) (by kernel_rfl) (by kernel_rfl) (fun _ _ _ h => h) (by decide) (by kernel_rfl) ?_ hS0 ?_
                rotate_left
                · intro w hSw; (try dsimp only at hSw); go_simp; (try with_reducible rfl)
                simp only [List.setIfInBounds_toArray, List.set_cons_zero, List.set_cons_succ]
                refine takeS (i := 5) (v := ?_) rfl rfl (by kernel_rfl) (by kernel_rfl) (by kernel_rfl) (fun _ _ _ h => h) (by decide) (by kernel_rfl) ?_ hS0 ?_
                rotate_left
                · intro w hSw; (try dsimp only at hSw); go_simp; (try with_reducible rfl)
                simp only [List.setIfInBounds_toArray, List.set_cons_zero, List.set_cons_succ]
                refine oneT (i := 6) rfl (by kernel_rfl) (fun K hK => ?_)
                go_simp
                refine (position_any _ ps x2 wd (HP.out.below (below_up HIB.out.below hb0 HIB.out.below.size)) (by omega)).mono ?_
                rintro e w7 ⟨⟨pk, rfl, hpk⟩, hb7⟩
                obtain rfl := pos_at hpk HPF.out hn HNO.out
                have hall1 := below_up hb0 hb7 hb0.size
                have hS1 := HKS.out _ hall1
                refine hK.out _ _ (fun _ => hS1) ?_
                clear hK
                try simp only [List.setIfInBounds_toArray, List.set_cons_zero, List.set_cons_succ, Act.put]
                refine oneT (i := 7) rfl (by kernel_rfl) (fun K hK => ?_)
                go_simp
                refine hK.out _ _ (fun _ => hS1) ?_
                clear hK
                try simp only [List.setIfInBounds_toArray, List.set_cons_zero, List.set_cons_succ, Act.put]
                refine doneT (by kernel_rfl) ?_ _
                have HI7 := Lib.hid (show AtInv w w7 D Du We La Op (.slice pa ps.length pc) ps (ps.map (dutyF cs m)) (wts ps l) la (mixB (openF cs m) cs.length cs.length) from ⟨HIB.out.desk.below hall1 (Nat.le_refl _), Has.below HIB.out.op hall1 (Has.lt HIB.out.op), below_up HIB.out.below hall1 HIB.out.below.size⟩)
                have k3 := (below_cell hall1 hBl).trans (HX.out.cell 3)
                clear hS0 hS1 hb0 hb7 hall1 hpk HKS HIB HX
                go_upto_region 18 with fail
                have d3 := HI7.out.desk.box.cell 3
                have hll2 := HI7.out.desk.ll
                have q1 := (HI7.out.desk.las.cells n (by omega)).1
                obtain ⟨qz, hqz⟩ : ∃ x, x = la[n]'(by omega) := ⟨_, rfl⟩
                rw [← hqz] at q1
                clear hqz
                by_cases hmx : qz < x4
                · have hmx2 : ¬ x4 < qz := by omega
                  have hmx3 : ¬ x4 ≤ qz := by omega
                  have hmx4 : qz ≤ x4 := by omega
                  refine anyT_start (S := fun W : World => W.cell? ⟨D, 3, none⟩ = some (.slice (some ⟨La, 0, none⟩) ps.length ps.length) ∧ W.cell? ⟨La, n, none⟩ = some (.int .i64 qz) ∧ W.cell? ⟨B, 3, none⟩ = some (.int .i64 x4)) (t := 16) (by kernel_rfl) ?_
                  have hS0 : w7.drew.cell? ⟨D, 3, none⟩ = some (.slice (some ⟨La, 0, none⟩) ps.length ps.length) ∧ w7.drew.cell? ⟨La, n, none⟩ = some (.int .i64 qz) ∧ w7.drew.cell? ⟨B, 3, none⟩ = some (.int .i64 x4) := ⟨d3, q1, k3⟩
                  have HID := Lib.hid (show AtInv w w7.drew D Du We La Op (.slice pa ps.length pc) ps (ps.map (dutyF cs m)) (wts ps l) la (mixB (openF cs m) cs.length cs.length) from ⟨HI7.out.desk.drew, HI7.out.op, HI7.out.below.drew⟩)
                  have q2 : w7.drew.frozen? ⟨La, n, none⟩ = false := HID.out.desk.las.fz n
                  generalize w7.drew = wd at *
                  refine takeT (i := 0) (v := ?_) rfl rfl (by kernel_rfl) (by kernel_rfl) (by kernel_rfl) (fun _ _ _ h => h) (by decide) (by kernel_rfl) (by kernel_rfl) ?_ hS0 ?_
                  rotate_left
                  · intro w hSw; (try dsimp only at hSw); go_simp; (try with_reducible rfl)
                  simp only [List.setIfInBounds_toArray, List.set_cons_zero, List.set_cons_succ]
                  refine takeT (i := 1) (v := ?_) rfl rfl (by kernel_rfl) (by kernel_rfl) (by kernel_rfl) (fun _ _ _ h => h) (by decide) (by kernel_rfl) (by kernel_rfl) ?_ hS0 ?_
                  rotate_left
                  · intro w hSw; (try dsimp only at hSw); go_simp; (try with_reducible rfl)
                  simp only [List.setIfInBounds_toArray, List.set_cons_zero, List.set_cons_succ]
                  refine takeT (i := 2) (v := ?_) rfl rfl (by kernel_rfl) (by kernel_rfl) (by kernel_rfl) (fun _ _ _ h => h) (by decide) (by kernel_rfl) (by kernel_rfl) ?_ hS0 ?_
                  rotate_left
                  · intro w hSw; (try dsimp only at hSw); go_simp; (try with_reducible rfl)
                  simp only [List.setIfInBounds_toArray, List.set_cons_zero, List.set_cons_succ]
                  refine takeT (i := 3) (v := ?_) rfl rfl (by kernel_rfl) (by kernel_rfl) (by kernel_rfl) (fun _ _ _ h => h) (by decide) (by kernel_rfl) (by kernel_rfl) ?_ hS0 ?_
                  rotate_left
                  · intro w hSw; (try dsimp only at hSw); go_simp; (try with_reducible rfl)
                  simp only [List.setIfInBounds_toArray, List.set_cons_zero, List.set_cons_succ]
                  refine takeT (i := 4) (v := ?_) rfl rfl (by kernel_rfl) (by kernel_rfl) (by kernel_rfl) (fun _ _ _ h => h) (by decide) (by kernel_rfl) (by kernel_rfl) ?_ hS0 ?_
                  rotate_left
                  · intro w hSw; (try dsimp only at hSw); go_simp; (try with_reducible rfl)
                  simp only [List.setIfInBounds_toArray, List.set_cons_zero, List.set_cons_succ]
                  refine takeT (i := 5) (v := ?_) rfl rfl (by kernel_rfl) (by kernel_rfl) (by kernel_rfl) (fun _ _ _ h => h) (by decide) (by kernel_rfl) (by kernel_rfl) ?_ hS0 ?_
                  rotate_left
                  · intro w hSw; (try dsimp only at hSw); go_simp; (try with_reducible rfl)
                  simp only [List.setIfInBounds_toArray, List.set_cons_zero, List.set_cons_succ]
                  refine takeT (i := 6) (v := ?_) rfl rfl (by kernel_rfl) (by kernel_rfl) (by kernel_rfl) (fun _ _ _ h => h) (by decide) (by kernel_rfl) (by kernel_rfl) ?_ hS0 ?_
                  rotate_left
                  · intro w hSw; (try dsimp only at hSw); go_simp; (try with_reducible rfl)
                  simp only [List.setIfInBounds_toArray, List.set_cons_zero, List.set_cons_succ]
                  refine takeT (i := 7) (v := ?_) rfl rfl (by kernel_rfl) (by kernel_rfl) (by kernel_rfl) (fun _ _ _ h => h) (by decide) (by kernel_rfl) (by kernel_rfl) ?_ hS0 ?_
                  rotate_left
                  · intro w hSw; (try dsimp only at hSw); go_simp; (try with_reducible rfl)
                  simp only [List.setIfInBounds_toArray, List.set_cons_zero, List.set_cons_succ]
                  refine takeT (i := 8) (v := ?_) rfl rfl (by kernel_rfl) (by kernel_rfl) (by kernel_rfl) (fun _ _ _ h => h) (by decide) (by kernel_rfl) (by kernel_rfl) ?_ hS0 ?_
                  rotate_left
                  · intro w hSw; (try dsimp only at hSw); go_simp; (try with_reducible rfl)
                  simp only [List.setIfInBounds_toArray, List.set_cons_zero, List.set_cons_succ]
                  refine takeT (i := 9) (v := ?_) rfl rfl (by kernel_rfl) (by kernel_rfl) (by kernel_rfl) (fun _ _ _ h => h) (by decide) (by kernel_rfl) (by kernel_rfl) ?_ hS0 ?_
                  rotate_left
                  · intro w hSw; (try dsimp only at hSw); go_simp; (try with_reducible rfl)
                  simp only [List.setIfInBounds_toArray, List.set_cons_zero, List.set_cons_succ]
                  refine takeT (i := 10) (v := ?_) rfl rfl (by kernel_rfl) (by kernel_rfl) (by kernel_rfl) (fun _ _ _ h => h) (by decide) (by kernel_rfl) (by kernel_rfl) ?_ hS0 ?_
                  rotate_left
                  · intro w hSw; (try dsimp only at hSw); go_simp; first | (with_reducible rfl) | (rw [if_pos (by omega)])
                  simp only [List.setIfInBounds_toArray, List.set_cons_zero, List.set_cons_succ]
                  refine takeT (i := 11) (v := ?_) rfl rfl (by kernel_rfl) (by kernel_rfl) (by kernel_rfl) (fun _ _ _ h => h) (by decide) (by kernel_rfl) (by kernel_rfl) ?_ hS0 ?_
                  rotate_left
                  · intro w hSw; (try dsimp only at hSw); go_simp; (try with_reducible rfl)
                  simp only [List.setIfInBounds_toArray, List.set_cons_zero, List.set_cons_succ]
                  refine takeT (i := 12) (v := ?_) rfl rfl (by kernel_rfl) (by kernel_rfl) (by kernel_rfl) (fun _ _ _ h => h) (by decide) (by kernel_rfl) (by kernel_rfl) ?_ hS0 ?_
                  rotate_left
                  · intro w hSw; (try dsimp only at hSw); go_simp; (try with_reducible rfl)
                  simp only [List.setIfInBounds_toArray, List.set_cons_zero, List.set_cons_succ]
                  refine takeT (i := 13) (v := ?_) rfl rfl (by kernel_rfl) (by kernel_rfl) (by kernel_rfl) (fun _ _ _ h => h) (by decide) (by kernel_rfl) (by kernel_rfl) ?_ hS0 ?_
                  rotate_left
                  · intro w hSw; (try dsimp only at hSw); go_simp; (try with_reducible rfl)
                  simp only [List.setIfInBounds_toArray, List.set_cons_zero, List.set_cons_succ]
                  refine takeT (i := 14) (v := ?_) rfl rfl (by kernel_rfl) (by kernel_rfl) (by kernel_rfl) (fun _ _ _ h => h) (by decide) (by kernel_rfl) (by kernel_rfl) ?_ hS0 ?_
                  rotate_left
                  · intro w hSw; (try dsimp only at hSw); go_simp; (try with_reducible rfl)
                  simp only [List.setIfInBounds_toArray, List.set_cons_zero, List.set_cons_succ]
                  refine oneT (i := 15) rfl (by kernel_rfl) (fun K hK => ?_)
                  go_simp
                  refine hK.out _ _ (fun _ => hS0) ?_
                  clear hK
                  try simp only [List.setIfInBounds_toArray, List.set_cons_zero, List.set_cons_succ, Act.put]
                  refine oneT (i := 16) rfl (by kernel_rfl) (fun K hK => ?_)
                  go_simp
                  refine hK.out _ _ (fun q => absurd rfl q) ?_
                  refine doneT (by kernel_rfl) ?_ _
                  clear hK
                  have hLD := has_ne HID.out.desk.las HID.out.op (by decide)
                  go_wp2_with fail
                  go_roundw
                  case rel => exact ⟨i + 1, by go_num, hlt, _, HID.out.desk.setLa hwl n _, Has.set_other HID.out.op _ _ (Ne.symm hLD), HID.out.below.setCell (p := ⟨La, n, none⟩) hD4 _⟩
                  case measure => simp [intOf]; omega
                · have hmx2 : x4 ≤ qz := by omega
                  refine anyT_start (S := fun W : World => W.cell? ⟨D, 3, none⟩ = some (.slice (some ⟨La, 0, none⟩) ps.length ps.length) ∧ W.cell? ⟨La, n, none⟩ = some (.int .i64 qz) ∧ W.cell? ⟨B, 3, none⟩ = some (.int .i64 x4)) (t := 16) (by kernel_rfl) ?_
                  have hS0 : w7.drew.cell? ⟨D, 3, none⟩ = some (.slice (some ⟨La, 0, none⟩) ps.length ps.length) ∧ w7.drew.cell? ⟨La, n, none⟩ = some (.int .i64 qz) ∧ w7.drew.cell? ⟨B, 3, none⟩ = some (.int .i64 x4) := ⟨d3, q1, k3⟩
                  have HID := Lib.hid (show AtInv w w7.drew D Du We La Op (.slice pa ps.length pc) ps (ps.map (dutyF cs m)) (wts ps l) la (mixB (openF cs m) cs.length cs.length) from ⟨HI7.out.desk.drew, HI7.out.op, HI7.out.below.drew⟩)
                  have q2 : w7.drew.frozen? ⟨La, n, none⟩ = false := HID.out.desk.las.fz n
                  generalize w7.drew = wd at *
                  refine takeT (i := 0) (v := ?_) rfl rfl (by kernel_rfl) (by kernel_rfl) (by kernel_rfl) (fun _ _ _ h => h) (by decide) (by kernel_rfl) (by kernel_rfl) ?_ hS0 ?_
                  rotate_left
                  · intro w hSw; (try dsimp only at hSw); go_simp; (try with_reducible rfl)
                  simp only [List.setIfInBounds_toArray, List.set_cons_zero, List.set_cons_succ]
                  refine takeT (i := 1) (v := ?_) rfl rfl (by kernel_rfl) (by kernel_rfl) (by kernel_rfl) (fun _ _ _ h => h) (by decide) (by kernel_rfl) (by kernel_rfl) ?_ hS0 ?_
                  rotate_left
                  · intro w hSw; (try dsimp only at hSw); go_simp; (try with_reducible rfl)
                  simp only [List.setIfInBounds_toArray, List.set_cons_zero, List.set_cons_succ]
                  refine takeT (i := 2) (v := ?_) rfl rfl (by kernel_rfl) (by kernel_rfl) (by kernel_rfl) (fun _ _ _ h => h) (by decide) (by kernel_rfl) (by kernel_rfl) ?_ hS0 ?_
                  rotate_left
                  · intro w hSw; (try dsimp only at hSw); go_simp; (try with_reducible rfl)
                  simp only [List.setIfInBounds_toArray, List.set_cons_zero, List.set_cons_succ]
                  refine takeT (i := 3) (v := ?_) rfl rfl (by kernel_rfl) (by kernel_rfl) (by kernel_rfl) (fun _ _ _ h => h) (by decide) (by kernel_rfl) (by kernel_rfl) ?_ hS0 ?_
                  rotate_left
                  · intro w hSw; (try dsimp only at hSw); go_simp; (try with_reducible rfl)
                  simp only [List.setIfInBounds_toArray, List.set_cons_zero, List.set_cons_succ]
                  refine takeT (i := 4) (v := ?_) rfl rfl (by kernel_rfl) (by kernel_rfl) (by kernel_rfl) (fun _ _ _ h => h) (by decide) (by kernel_rfl) (by kernel_rfl) ?_ hS0 ?_
                  rotate_left
                  · intro w hSw; (try dsimp only at hSw); go_simp; (try with_reducible rfl)
                  simp only [List.setIfInBounds_toArray, List.set_cons_zero, List.set_cons_succ]
                  refine takeT (i := 5) (v := ?_) rfl rfl (by kernel_rfl) (by kernel_rfl) (by kernel_rfl) (fun _ _ _ h => h) (by decide) (by kernel_rfl) (by kernel_rfl) ?_ hS0 ?_
                  rotate_left
                  · intro w hSw; (try dsimp only at hSw); go_simp; (try with_reducible rfl)
                  simp only [List.setIfInBounds_toArray, List.set_cons_zero, List.set_cons_succ]
                  refine takeT (i := 6) (v := ?_) rfl rfl (by kernel_rfl) (by kernel_rfl) (by kernel_rfl) (fun _ _ _ h => h) (by decide) (by kernel_rfl) (by kernel_rfl) ?_ hS0 ?_
                  rotate_left
                  · intro w hSw; (try dsimp only at hSw); go_simp; (try with_reducible rfl)
                  simp only [List.setIfInBounds_toArray, List.set_cons_zero, List.set_cons_succ]
                  refine takeT (i := 7) (v := ?_) rfl rfl (by kernel_rfl) (by kernel_rfl) (by kernel_rfl) (fun _ _ _ h => h) (by decide) (by kernel_rfl) (by kernel_rfl) ?_ hS0 ?_
                  rotate_left
                  · intro w hSw; (try dsimp only at hSw); go_simp; (try with_reducible rfl)
                  simp only [List.setIfInBounds_toArray, List.set_cons_zero, List.set_cons_succ]
                  refine takeT (i := 8) (v := ?_) rfl rfl (by kernel_rfl) (by kernel_rfl) (by kernel_rfl) (fun _ _ _ h => h) (by decide) (by kernel_rfl) (by kernel_rfl) ?_ hS0 ?_
                  rotate_left
                  · intro w hSw; (try dsimp only at hSw); go_simp; (try with_reducible rfl)
                  simp only [List.setIfInBounds_toArray, List.set_cons_zero, List.set_cons_succ]
                  refine takeT (i := 9) (v := ?_) rfl rfl (by kernel_rfl) (by kernel_rfl) (by kernel_rfl) (fun _ _ _ h => h) (by decide) (by kernel_rfl) (by kernel_rfl) ?_ hS0 ?_
                  rotate_left
                  · intro w hSw; (try dsimp only at hSw); go_simp; (try with_reducible rfl)
                  simp only [List.setIfInBounds_toArray, List.set_cons_zero, List.set_cons_succ]
                  refine takeT (i := 10) (v := ?_) rfl rfl (by kernel_rfl) (by kernel_rfl) (by kernel_rfl) (fun _ _ _ h => h) (by decide) (by kernel_rfl) (by kernel_rfl) ?_ hS0 ?_
                  rotate_left
                  · intro w hSw; (try dsimp only at hSw); go_simp; first | (with_reducible rfl) | (rw [if_pos (by omega)])
                  simp only [List.setIfInBounds_toArray, List.set_cons_zero, List.set_cons_succ]
                  refine takeT (i := 11) (v := ?_) rfl rfl (by kernel_rfl) (by kernel_rfl) (by kernel_rfl) (fun _ _ _ h => h) (by decide) (by kernel_rfl) (by kernel_rfl) ?_ hS0 ?_
                  rotate_left
                  · intro w hSw; (try dsimp only at hSw); go_simp; (try with_reducible rfl)
                  simp only [List.setIfInBounds_toArray, List.set_cons_zero, List.set_cons_succ]
                  refine takeT (i := 12) (v := ?_) rfl rfl (by kernel_rfl) (by kernel_rfl) (by kernel_rfl) (fun _ _ _ h => h) (by decide) (by kernel_rfl) (by kernel_rfl) ?_ hS0 ?_
                  rotate_left
                  · intro w hSw; (try dsimp only at hSw); go_simp; (try with_reducible rfl)
                  simp only [List.setIfInBounds_toArray, List.set_cons_zero, List.set_cons_succ]
                  refine takeT (i := 13) (v := ?_) rfl rfl (by kernel_rfl) (by kernel_rfl) (by kernel_rfl) (fun _ _ _ h => h) (by decide) (by kernel_rfl) (by kernel_rfl) ?_ hS0 ?_
                  rotate_left
                  · intro w hSw; (try dsimp only at hSw); go_simp; (try with_reducible rfl)
                  simp only [List.setIfInBounds_toArray, List.set_cons_zero, List.set_cons_succ]
                  refine takeT (i := 14) (v := ?_) rfl rfl (by kernel_rfl) (by kernel_rfl) (by kernel_rfl) (fun _ _ _ h => h) (by decide) (by kernel_rfl) (by kernel_rfl) ?_ hS0 ?_
                  rotate_left
                  · intro w hSw; (try dsimp only at hSw); go_simp; (try with_reducible rfl)
                  simp only [List.setIfInBounds_toArray, List.set_cons_zero, List.set_cons_succ]
                  refine oneT (i := 15) rfl (by kernel_rfl) (fun K hK => ?_)
                  go_simp
                  refine hK.out _ _ (fun _ => hS0) ?_
                  clear hK
                  try simp only [List.setIfInBounds_toArray, List.set_cons_zero, List.set_cons_succ, Act.put]
                  refine oneT (i := 16) rfl (by kernel_rfl) (fun K hK => ?_)
                  go_simp
                  refine hK.out _ _ (fun q => absurd rfl q) ?_
                  refine doneT (by kernel_rfl) ?_ _
                  clear hK
                  have hLD := has_ne HID.out.desk.las HID.out.op (by decide)
                  go_wp2_with fail
                  go_roundw
                  case rel => exact ⟨i + 1, by go_num, hlt, _, HID.out.desk.setLa hwl n _, Has.set_other HID.out.op _ _ (Ne.symm hLD), HID.out.below.setCell (p := ⟨La, n, none⟩) hD4 _⟩
                  case measure => simp [intOf]; omega
              · obtain rfl : i = l.length := by omega
                have HIF := Lib.hid (show AtInv w wr D Du We La Op _ ps _ _ la _ from HI.out)
                clear HI
                go_wp2_with fail
                go_ret
                exact ⟨D, Du, We, La, la, rfl, HIF.out.desk, hD1, hD2, hD3, hD4, hwl, HIF.out.below⟩
end Go.Proofs.YtemikhnkjligdaaGreatDoor
