/- The walks of keeper.choose and of its function of a clock. -/
import Derived.Test.YtllcgcnebofdoaaGreatDoorQPoChk3
namespace Go.Proofs.YtllcgcnebofdoaaGreatDoor
open Go.RowKit

/-- what choose's function of a clock holds by -/
structure JChs (w0 : World) (Kp Kb Ab Lb : Nat) (vp vl vk : Value) (t lev : Int) (w : World) : Prop where
  kp : Has w Kp #[vp, vl, .int .i64 lev, vk] 67
  kb : Has w Kb #[.pointer (some ⟨Kp, 0, none⟩)] 64
  ab : Has w Ab #[.int .i64 t] 3
  lb : Has w Lb #[.int .i64 lev] 3
  below : Below w0.heap.size w0 w
theorem JChs.keep {w0 w w' : World} {Kp Kb Ab Lb B : Nat} {vp vl vk : Value} {t lev : Int} (h : JChs w0 Kp Kb Ab Lb vp vl vk t lev w) (hb : Below B w w') (hk : KeepsR w w') (hB : w0.heap.size ≤ B) : JChs w0 Kp Kb Ab Lb vp vl vk t lev w' :=
  ⟨h.kp.keepsR hk (by decide) (by decide), h.kb.keepsR hk (by decide) (by decide), h.ab.keepsR hk (by decide) (by decide), h.lb.keepsR hk (by decide) (by decide), h.below.trans (hb.mono hB)⟩
theorem JChs.to {w0 w w' : World} {Kp Kb Ab Lb : Nat} {vp vl vk : Value} {t lev : Int} (h : JChs w0 Kp Kb Ab Lb vp vl vk t lev w) (hb : Below w.heap.size w w') : JChs w0 Kp Kb Ab Lb vp vl vk t lev w' :=
  ⟨h.kp.below hb h.kp.lt, h.kb.below hb h.kb.lt, h.ab.below hb h.ab.lt, h.lb.below hb h.lb.lt, below_up h.below hb h.below.size⟩
theorem RunPost.from {w wc w' : World} {B b : Nat} {v : Value} {r : RunD} {e : Ending} (h1 : One2 w wc b v) (h : RunPost wc B b v r e w') : RunPost w B b v r e w' := by
  obtain ⟨hu, v', hm, h2, hf⟩ := h
  exact ⟨hu, v', hm, h1.trans h2 (Fr.refl _ _), (Fr.refl w v).trans hf h1.size⟩
theorem RunPost.then {w wc w' : World} {B b : Nat} {v v1 : Value} {r : RunD} {e : Ending} (h1 : One2 w wc b v) (hf1 : Fr w v v1) (h : RunPost wc B b v1 r e w') : RunPost w B b v r e w' := by
  obtain ⟨hu, v', hm, h2, hf⟩ := h
  exact ⟨hu, v', hm, h1.trans h2 hf1, hf1.trans hf h1.size⟩
theorem has_ne {w : World} {b c : Nat} {cs ds : Array Value} {t u : TypeId} (h : Has w b cs t) (k : Has w c ds u) (hne : t ≠ u) : b ≠ c := by
  rintro rfl
  have h' : w.heap[b]? = some (.cells cs t (0, 0)) := h
  have k' : w.heap[b]? = some (.cells ds u (0, 0)) := k
  rw [h'] at k'
  cases k'
  exact hne rfl
/-- a clock's target, minutes and level are stored -/
theorem RM.setT {w : World} {B b : Nat} {v : Value} {r : RunD} (h : RM w B b v r) (g : TgtD) (lev : Int) :
    RM (((((w.setCell ⟨b, 7, none⟩ (.int .i64 g.1)).setCell ⟨b, 8, none⟩ (.int .i64 g.2.1)).setCell ⟨b, 9, none⟩ (.int .i64 g.2.2)).setCell ⟨b, 2, none⟩ (.int .i64 g.2.1)).setCell ⟨b, 1, none⟩ (.int .i64 lev)) B b v (Go.Proofs.YtllcgcnebofdoaaGreatDoor.setT g lev r) := by
  refine ⟨((((h.box.set 7 (.int .i64 g.1)).set 8 (.int .i64 g.2.1)).set 9 (.int .i64 g.2.2)).set 2 (.int .i64 g.2.1)).set 1 (.int .i64 lev), ?_, h.le⟩
  exact ownsRow_setCell_other (a := ⟨b, 1, none⟩) (ownsRow_setCell_other (a := ⟨b, 2, none⟩) (ownsRow_setCell_other (a := ⟨b, 9, none⟩) (ownsRow_setCell_other (a := ⟨b, 8, none⟩) (ownsRow_setCell_other (a := ⟨b, 7, none⟩) h.ps h.apart _) h.apart _) h.apart _) h.apart _) h.apart _
theorem One2.setT (w : World) (b : Nat) (v : Value) (g : TgtD) (lev : Int) :
    One2 w (((((w.setCell ⟨b, 7, none⟩ (.int .i64 g.1)).setCell ⟨b, 8, none⟩ (.int .i64 g.2.1)).setCell ⟨b, 9, none⟩ (.int .i64 g.2.2)).setCell ⟨b, 2, none⟩ (.int .i64 g.2.1)).setCell ⟨b, 1, none⟩ (.int .i64 lev)) b v :=
  (One2.set w b 7 _ _).trans ((One2.set _ b 8 _ _).trans ((One2.set _ b 9 _ _).trans ((One2.set _ b 2 _ _).trans (One2.set _ b 1 _ _) (Fr.refl _ _)) (Fr.refl _ _)) (Fr.refl _ _)) (Fr.refl _ _)
def chsRest (t lev : Int) (g : TgtD) (r : RunD) : RunD := if movedB g r then onF t (setT g lev (cutF t r)) else setT g lev r
def tgtA (g : TgtD) : Array Value := #[.int .i64 g.1, .int .i64 g.2.1, .int .i64 g.2.2]
theorem tgtV_agg (o : Option TgtD) : tgtV o = .agg (tgtA (o.getD (0, 0, 0))) := by cases o <;> rfl
theorem tgt_cells (o : Option TgtD) : (tgtV o).cells = tgtA (o.getD (0, 0, 0)) := by cases o <;> rfl

set_option maxRecDepth 100000 in
set_option maxHeartbeats 8000000 in
theorem chs_show (p : PolD) (w0 : World) (Kp Kb Ab Lb B b : Nat) (vp vl vk v : Value) (t lev : Int) (r : RunD) (w : World) (hJ : JChs w0 Kp Kb Ab Lb vp vl vk t lev w) (hP : PolAt w0 vp vl p) (hO : PolOk p) (h1 : -1 ≤ lev) (h2 : lev < (p.levs.length : Int))
    (h : RM w B b v r) (hr : RunOk r) (hl : r.c.ps.length ≤ 1000000) (hB : B ≤ w.heap.size) (hB0 : w0.heap.size ≤ B) :
    Calls Tryz.prog 79 #[.pointer (some ⟨b, 0, none⟩), .pointer (some ⟨Kb, 0, none⟩), .pointer (some ⟨Ab, 0, none⟩), .pointer (some ⟨Lb, 0, none⟩)] w (RunPost w B b v (chsF p t lev r)) := by
  have HJ := Lib.hid hJ
  have HM := Lib.hid h
  have q0 := hJ.kb.cell 0
  have k0 : w.cell? ⟨b, 0, none⟩ = some (.int .i64 r.c.kind) := h.box.cell 0
  have HTG := Lib.hid (fun W (hK : JChs w0 Kp Kb Ab Lb vp vl vk t lev W) => target_any p lev r.c.kind vp vl vk Kp W hK.kp (hP.below hK.below) hO h1 h2)
  have HEN := Lib.hid (fun W (v' : Value) (hm : RM W B b v' r) => end_any B b v' r t 2 W hm hr hl)
  have HCU := Lib.hid (fun W (v' : Value) (hm : RM W B b v' r) => cut_any B b v' r t W hm hr hl)
  have HFS := Lib.hid (show chsF p t lev r = match tgtOf p lev r.c.kind with | none => endF' t 2 r | some g => chsRest t lev g r from rfl)
  have HCL := Lib.hid (cutF_ok t hr)
  clear hJ h hP hO h1 h2 hr
  generalize tgtOf p lev r.c.kind = o at *
  generalize chsF p t lev r = r' at *
  go_enter Tryz.func79, Tryz.ntmps79
  go_upto_region 0 with fail
  go_cut [5, 6] (fun dv bv wx => ∃ D, dv = .pointer (some ⟨D, 0, none⟩) ∧ bv = .bool o.isSome ∧ Has wx D (tgtA (o.getD (0, 0, 0))) 72 ∧ Below w.heap.size w wx)
  case first =>
    generalize hgo : o.getD (0, 0, 0) = g at *
    obtain ⟨g1, g2, g3⟩ := g
    have HV := Lib.hid (show tgtV o = .agg #[.int .i64 g1, .int .i64 g2, .int .i64 g3] by rw [tgtV_agg, hgo]; rfl)
    clear hgo
    rw [HV.out] at HTG
    generalize o.isSome = bo at *
    clear HEN HCU HFS HCL hl
    have hbd := (Below.refl w.heap.size w).drew
    have HJD := Lib.hid (HJ.out.to hbd)
    have HBD := Lib.hid hbd
    have hS0 : (fun W : World => W.cell? ⟨Kb, 0, none⟩ = some (.pointer (some ⟨Kp, 0, none⟩)) ∧ W.cell? ⟨b, 0, none⟩ = some (.int .i64 r.c.kind)) w.drew := ⟨q0, k0⟩
    have hKb : Kb < w.drew.heap.size := HJD.out.kb.lt
    have hbb : b < w.drew.heap.size := HM.out.box.lt
    refine anyT_start (S := fun W : World => W.cell? ⟨Kb, 0, none⟩ = some (.pointer (some ⟨Kp, 0, none⟩)) ∧ W.cell? ⟨b, 0, none⟩ = some (.int .i64 r.c.kind)) (t := 13) (by kernel_rfl) ?_
    have hKw : Kb < w.heap.size := HJ.out.kb.lt
    have hbw : b < w.heap.size := HM.out.box.lt
    clear hbd q0 k0 HJ HM
    generalize w.drew = wd at *
    refine takeS (i := 0) (v := ?_) rfl rfl (by kernel_rfl) (by kernel_rfl) (by kernel_rfl) (fun _ _ _ h => h) (by decide) (by kernel_rfl) ?_ hS0 ?_
    rotate_left
    · intro w hSw; (try dsimp only at hSw); go_simp; (try with_reducible rfl)
    simp only [List.setIfInBounds_toArray, List.set_cons_zero, List.set_cons_succ]
    refine takeS (i := 1) (v := ?_) rfl rfl (by kernel_rfl) (by kernel_rfl) (by kernel_rfl) (fun _ _ _ h => h) (by decide) (by kernel_rfl) ?_ hS0 ?_
    rotate_left
    · intro w hSw; (try dsimp only at hSw); go_simp; (try with_reducible rfl)
    simp only [List.setIfInBounds_toArray, List.set_cons_zero, List.set_cons_succ]
    refine takeS (i := 2) (v := ?_) rfl rfl (by kernel_rfl) (by kernel_rfl) (by kernel_rfl) (fun _ _ _ h => h) (by decide) (by kernel_rfl) ?_ hS0 ?_
    rotate_left
    · intro w hSw; (try dsimp only at hSw); go_simp; (try with_reducible rfl)
    simp only [List.setIfInBounds_toArray, List.set_cons_zero, List.set_cons_succ]
    refine takeS (i := 3) (v := ?_) rfl rfl (by kernel_rfl) (by kernel_rfl) (by kernel_rfl) (fun _ _ _ h => h) (by decide) (by kernel_rfl) ?_ hS0 ?_
    rotate_left
    · intro w hSw; (try dsimp only at hSw); go_simp; (try with_reducible rfl)
    simp only [List.setIfInBounds_toArray, List.set_cons_zero, List.set_cons_succ]
    refine takeS (i := 4) (v := ?_) rfl rfl (by kernel_rfl) (by kernel_rfl) (by kernel_rfl) (fun _ _ _ h => h) (by decide) (by kernel_rfl) ?_ hS0 ?_
    rotate_left
    · intro w hSw; (try dsimp only at hSw); go_simp; (try with_reducible rfl)
    simp only [List.setIfInBounds_toArray, List.set_cons_zero, List.set_cons_succ]
    refine takeS (i := 5) (v := ?_) rfl rfl (by kernel_rfl) (by kernel_rfl) (by kernel_rfl) (fun _ _ _ h => h) (by decide) (by kernel_rfl) ?_ hS0 ?_
    rotate_left
    · intro w hSw; (try dsimp only at hSw); go_simp; (try with_reducible rfl)
    simp only [List.setIfInBounds_toArray, List.set_cons_zero, List.set_cons_succ]
    refine twoT (i := 6) (j := 10) rfl rfl (by kernel_rfl) ?_ ?_
    · intro K hK
      go_simp
      refine (HTG.out wd HJD.out).mono ?_
      rintro e we ⟨rfl, hbe⟩
      have HBE := Lib.hid (below_up' HBD.out hbe)
      have hS1 : (fun W : World => W.cell? ⟨Kb, 0, none⟩ = some (.pointer (some ⟨Kp, 0, none⟩)) ∧ W.cell? ⟨b, 0, none⟩ = some (.int .i64 r.c.kind)) we := ⟨(below_cell hbe hKb).trans hS0.1, (below_cell hbe hbb).trans hS0.2⟩
      refine hK.out _ _ (fun _ => hS1) ?_
      clear hK hbe HTG
      try simp only [List.setIfInBounds_toArray, List.set_cons_zero, List.set_cons_succ, Act.put]
      refine takeS (i := 7) (v := ?_) rfl rfl (by kernel_rfl) (by kernel_rfl) (by kernel_rfl) (fun _ _ _ h => h) (by decide) (by kernel_rfl) ?_ hS1 ?_
      rotate_left
      · intro w hSw; (try dsimp only at hSw); go_simp; (try with_reducible rfl)
      simp only [List.setIfInBounds_toArray, List.set_cons_zero, List.set_cons_succ]
      refine takeS (i := 8) (v := ?_) rfl rfl (by kernel_rfl) (by kernel_rfl) (by kernel_rfl) (fun _ _ _ h => h) (by decide) (by kernel_rfl) ?_ hS1 ?_
      rotate_left
      · intro w hSw; (try dsimp only at hSw); go_simp; (try with_reducible rfl)
      simp only [List.setIfInBounds_toArray, List.set_cons_zero, List.set_cons_succ]
      refine takeS (i := 9) (v := ?_) rfl rfl (by kernel_rfl) (by kernel_rfl) (by kernel_rfl) (fun _ _ _ h => h) (by decide) (by kernel_rfl) ?_ hS1 ?_
      rotate_left
      · intro w hSw; (try dsimp only at hSw); go_simp; (try with_reducible rfl)
      simp only [List.setIfInBounds_toArray, List.set_cons_zero, List.set_cons_succ]
      refine oneT (i := 10) rfl (by kernel_rfl) (fun K hK => ?_)
      go_simp
      obtain ⟨bx, bbl⟩ := box1 we #[.int .i64 0, .int .i64 0, .int .i64 0] 72
      have HB9 := Lib.hid (below_up' HBE.out bbl)
      have hKb2 : Kb < we.heap.size := by have := HBE.out.size; have := HBD.out.size; exact Nat.lt_of_lt_of_le hKw HBE.out.size
      have hbb2 : b < we.heap.size := Nat.lt_of_lt_of_le hbw HBE.out.size
      have hS2 : (fun W : World => W.cell? ⟨Kb, 0, none⟩ = some (.pointer (some ⟨Kp, 0, none⟩)) ∧ W.cell? ⟨b, 0, none⟩ = some (.int .i64 r.c.kind)) (we.alloc (.cells #[.int .i64 0, .int .i64 0, .int .i64 0] 72)) := ⟨(below_cell bbl hKb2).trans hS1.1, (below_cell bbl hbb2).trans hS1.2⟩
      have d0 := bx.cell 0
      have d1 := bx.cell 1
      have d2 := bx.cell 2
      have e0 := bx.fz 0
      have e1 := bx.fz 1
      have e2 := bx.fz 2
      have HX9 := Lib.hid (show Has ((((we.alloc (.cells #[.int .i64 0, .int .i64 0, .int .i64 0] 72)).setCell ⟨we.heap.size, 0, none⟩ (.int .i64 g1)).setCell ⟨we.heap.size, 1, none⟩ (.int .i64 g2)).setCell ⟨we.heap.size, 2, none⟩ (.int .i64 g3)) we.heap.size #[.int .i64 g1, .int .i64 g2, .int .i64 g3] 72 from ((bx.set 0 (.int .i64 g1)).set 1 (.int .i64 g2)).set 2 (.int .i64 g3))
      have HBA := Lib.hid (below_up' HBE.out (box1 we #[.int .i64 g1, .int .i64 g2, .int .i64 g3] 72).2)
      clear bx bbl
      refine hK.out _ _ (fun _ => hS2) ?_
      clear hK
      try simp only [List.setIfInBounds_toArray, List.set_cons_zero, List.set_cons_succ, Act.put]
      have hb2 := (box1 we #[.int .i64 g1, .int .i64 g2, .int .i64 g3] 72).2
      have hS3 : (fun W : World => W.cell? ⟨Kb, 0, none⟩ = some (.pointer (some ⟨Kp, 0, none⟩)) ∧ W.cell? ⟨b, 0, none⟩ = some (.int .i64 r.c.kind)) (we.alloc (.cells #[.int .i64 g1, .int .i64 g2, .int .i64 g3] 72)) := ⟨(below_cell hb2 hKb2).trans hS1.1, (below_cell hb2 hbb2).trans hS1.2⟩
      refine oneT (i := 11) rfl (by kernel_rfl) (fun K hK => ?_)
      go_simp
      refine hK.out _ _ (fun _ => hS3) ?_
      clear hK
      try simp only [List.setIfInBounds_toArray, List.set_cons_zero, List.set_cons_succ, Act.put]
      refine oneT (i := 12) rfl (by kernel_rfl) (fun K hK => ?_)
      go_simp
      refine hK.out _ _ (fun _ => hS3) ?_
      refine doneT (by kernel_rfl) ?_ _
      go_wp2_with fail
      go_meet
      exact ⟨_, rfl, rfl, Has.new _ _ _, HBA.out⟩
    · intro K hK
      go_simp
      obtain ⟨bx, bbl⟩ := box1 wd #[.int .i64 0, .int .i64 0, .int .i64 0] 72
      have HBE := Lib.hid (below_up' HBD.out bbl)
      have HJE := Lib.hid (HJD.out.to bbl)
      have hS1 : (fun W : World => W.cell? ⟨Kb, 0, none⟩ = some (.pointer (some ⟨Kp, 0, none⟩)) ∧ W.cell? ⟨b, 0, none⟩ = some (.int .i64 r.c.kind)) (wd.alloc (.cells #[.int .i64 0, .int .i64 0, .int .i64 0] 72)) := ⟨(below_cell bbl hKb).trans hS0.1, (below_cell bbl hbb).trans hS0.2⟩
      have HBX := Lib.hid bx
      have hDlt := bx.lt
      have hDk : wd.heap.size ≠ Kb := by omega
      have hDb : wd.heap.size ≠ b := by omega
      have hwd : w.heap.size ≤ wd.heap.size := HBD.out.size
      refine hK.out _ _ (fun _ => hS1) ?_
      clear hK bx bbl
      try simp only [List.setIfInBounds_toArray, List.set_cons_zero, List.set_cons_succ, Act.put]
      generalize wd.alloc (.cells #[.int .i64 0, .int .i64 0, .int .i64 0] 72) = we at *
      generalize wd.heap.size = D at *
      refine oneT (i := 6) rfl (by kernel_rfl) (fun K hK => ?_)
      go_simp
      refine (HTG.out we HJE.out).mono ?_
      rintro e wf ⟨rfl, hbf⟩
      have HB9 := Lib.hid (below_up' HBE.out hbf)
      have hKb2 : Kb < we.heap.size := Nat.lt_of_lt_of_le hKw HBE.out.size
      have hbb2 : b < we.heap.size := Nat.lt_of_lt_of_le hbw HBE.out.size
      have hS2 : (fun W : World => W.cell? ⟨Kb, 0, none⟩ = some (.pointer (some ⟨Kp, 0, none⟩)) ∧ W.cell? ⟨b, 0, none⟩ = some (.int .i64 r.c.kind)) wf := ⟨(below_cell hbf hKb2).trans hS1.1, (below_cell hbf hbb2).trans hS1.2⟩
      have bx := HBX.out.below hbf hDlt
      clear hbf HTG
      refine hK.out _ _ (fun _ => hS2) ?_
      clear hK
      try simp only [List.setIfInBounds_toArray, List.set_cons_zero, List.set_cons_succ, Act.put]
      refine takeS (i := 7) (v := ?_) rfl rfl (by kernel_rfl) (by kernel_rfl) (by kernel_rfl) (fun _ _ _ h => h) (by decide) (by kernel_rfl) ?_ hS2 ?_
      rotate_left
      · intro w hSw; (try dsimp only at hSw); go_simp; (try with_reducible rfl)
      simp only [List.setIfInBounds_toArray, List.set_cons_zero, List.set_cons_succ]
      refine takeS (i := 8) (v := ?_) rfl rfl (by kernel_rfl) (by kernel_rfl) (by kernel_rfl) (fun _ _ _ h => h) (by decide) (by kernel_rfl) ?_ hS2 ?_
      rotate_left
      · intro w hSw; (try dsimp only at hSw); go_simp; (try with_reducible rfl)
      simp only [List.setIfInBounds_toArray, List.set_cons_zero, List.set_cons_succ]
      refine takeS (i := 9) (v := ?_) rfl rfl (by kernel_rfl) (by kernel_rfl) (by kernel_rfl) (fun _ _ _ h => h) (by decide) (by kernel_rfl) ?_ hS2 ?_
      rotate_left
      · intro w hSw; (try dsimp only at hSw); go_simp; (try with_reducible rfl)
      simp only [List.setIfInBounds_toArray, List.set_cons_zero, List.set_cons_succ]
      have d0 := bx.cell 0
      have d1 := bx.cell 1
      have d2 := bx.cell 2
      have e0 := bx.fz 0
      have e1 := bx.fz 1
      have e2 := bx.fz 2
      have HX9 := Lib.hid (show Has (((wf.setCell ⟨D, 0, none⟩ (.int .i64 g1)).setCell ⟨D, 1, none⟩ (.int .i64 g2)).setCell ⟨D, 2, none⟩ (.int .i64 g3)) D #[.int .i64 g1, .int .i64 g2, .int .i64 g3] 72 from ((bx.set 0 (.int .i64 g1)).set 1 (.int .i64 g2)).set 2 (.int .i64 g3))
      have hS3 : (fun W : World => W.cell? ⟨Kb, 0, none⟩ = some (.pointer (some ⟨Kp, 0, none⟩)) ∧ W.cell? ⟨b, 0, none⟩ = some (.int .i64 r.c.kind)) (((wf.setCell ⟨D, 0, none⟩ (.int .i64 g1)).setCell ⟨D, 1, none⟩ (.int .i64 g2)).setCell ⟨D, 2, none⟩ (.int .i64 g3)) := by
        constructor
        · rw [set_block hDk, set_block hDk, set_block hDk]; exact hS2.1
        · rw [set_block hDb, set_block hDb, set_block hDb]; exact hS2.2
      have HBZ := Lib.hid (((HB9.out.setCell (p := ⟨D, 0, none⟩) hwd (.int .i64 g1)).setCell (p := ⟨D, 1, none⟩) hwd (.int .i64 g2)).setCell (p := ⟨D, 2, none⟩) hwd (.int .i64 g3))
      clear bx
      refine oneT (i := 11) rfl (by kernel_rfl) (fun K hK => ?_)
      go_simp
      refine hK.out _ _ (fun _ => hS3) ?_
      clear hK
      try simp only [List.setIfInBounds_toArray, List.set_cons_zero, List.set_cons_succ, Act.put]
      refine oneT (i := 12) rfl (by kernel_rfl) (fun K hK => ?_)
      go_simp
      refine hK.out _ _ (fun _ => hS3) ?_
      refine doneT (by kernel_rfl) ?_ _
      go_wp2_with fail
      go_meet
      exact ⟨_, rfl, rfl, HX9.out, HBZ.out⟩
  case rest =>
    obtain ⟨D, rfl, rfl, hD, hbw⟩ := hcut
    have HMC := Lib.hid (HM.out.below hbw)
    have HJC := Lib.hid (HJ.out.to hbw)
    have HNC := Lib.hid (One2.of_below (b := b) (v := v) hbw)
    have hBc : B ≤ wc.heap.size := Nat.le_trans hB hbw.size
    have a0 := HJC.out.ab.cell 0
    clear q0 k0 hbw HM HJ HTG
    cases o with
    | none =>
      simp only at HFS
      clear HCU hD
      go_wp2_with fail
      refine (HEN.out wc v HMC.out).mono ?_
      rintro e w3 hrest
      have HZ := Lib.hid (hrest.from HNC.out)
      obtain ⟨u, rfl⟩ := hrest.1
      clear hrest
      go_wp2_with fail
      go_end0
      rw [HFS.out]
      exact ⟨⟨_, rfl⟩, HZ.out.2⟩
    | some g =>
      simp only at HFS
      have HD := Lib.hid (show Has wc D (tgtA g) 72 from hD)
      obtain ⟨g1, g2, g3⟩ := g
      have d0 : wc.cell? ⟨D, 0, none⟩ = some (.int .i64 g1) := HD.out.cell 0
      have d1 : wc.cell? ⟨D, 1, none⟩ = some (.int .i64 g2) := HD.out.cell 1
      have d2 : wc.cell? ⟨D, 2, none⟩ = some (.int .i64 g3) := HD.out.cell 2
      have k7 : wc.cell? ⟨b, 7, none⟩ = some (.int .i64 r.tgt.1) := HMC.out.box.cell 7
      have k8 : wc.cell? ⟨b, 8, none⟩ = some (.int .i64 r.tgt.2.1) := HMC.out.box.cell 8
      have k9 : wc.cell? ⟨b, 9, none⟩ = some (.int .i64 r.tgt.2.2) := HMC.out.box.cell 9
      have k10 : wc.cell? ⟨b, 10, none⟩ = some (.bool r.goes) := HMC.out.box.cell 10
      clear hD HEN
      unfold chsRest at HFS
      have HMV := Lib.hid (show movedB (g1, g2, g3) r = (r.goes && !decide ((g1, g2, g3) = r.tgt) && !decide (g3 = r.tgt.2.2)) from rfl)
      generalize movedB (g1, g2, g3) r = mv at *
      go_upto_region 3 with fail
      go_cut [7] (fun v7 wx => v7 = .bool mv ∧ Below wc.heap.size wc wx)
      case first =>
        clear HFS HCU HCL hl HJC HMC HNC a0
        generalize r.goes = rg at *
        generalize r.tgt = rt at *
        obtain ⟨t1, t2, t3⟩ := rt
        simp only at k7 k8 k9 HMV
        cases rg with
        | false =>
          go_quiet (fail)
          go_wp2_with fail
          go_meet
          exact ⟨by rw [HMV.out]; rfl, drewN_below (Below.refl _ _) nq⟩
        | true =>
          by_cases e3 : g3 = t3
          · subst e3
            have hmv : mv = false := by rw [HMV.out]; simp
            subst hmv
            by_cases e1 : g1 = t1
            · subst e1
              by_cases e2 : g2 = t2
              · subst e2
                go_quiet (fail)
                go_wp2_with fail
                go_meet
                exact ⟨rfl, drewN_below (Below.refl _ _) nq⟩
              · go_quiet (fail)
                go_wp2_with fail
                go_meet
                exact ⟨rfl, drewN_below (Below.refl _ _) nq⟩
            · go_quiet (fail)
              go_wp2_with fail
              go_meet
              exact ⟨rfl, drewN_below (Below.refl _ _) nq⟩
          · have hmv : mv = true := by
              rw [HMV.out]
              simp [e3]
            subst hmv
            have q3 : (g3 == t3) = false := by simpa using e3
            have q4 : (g3 != t3) = true := by simpa using e3
            by_cases e1 : g1 = t1
            · subst e1
              by_cases e2 : g2 = t2
              · subst e2
                go_quiet (fail)
                go_wp2_with fail
                go_meet
                exact ⟨rfl, drewN_below (Below.refl _ _) nq⟩
              · go_quiet (fail)
                go_wp2_with fail
                go_meet
                exact ⟨rfl, drewN_below (Below.refl _ _) nq⟩
            · go_quiet (fail)
              go_wp2_with fail
              go_meet
              exact ⟨rfl, drewN_below (Below.refl _ _) nq⟩
      case rest =>
        obtain ⟨rfl, hbw⟩ := hcut
        rename World => wr
        have HMR := Lib.hid (HMC.out.below hbw)
        have HJR := Lib.hid (HJC.out.to hbw)
        have HNR := Lib.hid (HNC.out.trans (One2.of_below (b := b) (v := v) hbw) (Fr.refl _ _))
        have HDR := Lib.hid (HD.out.below hbw HD.out.lt)
        have hBr : B ≤ wr.heap.size := Nat.le_trans hBc hbw.size
        have a0 := HJR.out.ab.cell 0
        clear d0 d1 d2 k7 k8 k9 k10 hbw HMC HJC HNC HD HMV
        cases mv with
        | false =>
          rw [if_neg (by decide)] at HFS
          clear HCU HCL
          go_upto_region 6 with fail
          have hbd := (Below.refl wr.heap.size wr).drew
          have HMD := Lib.hid (HMR.out.below hbd)
          have HJD := Lib.hid (HJR.out.to hbd)
          have HDD := Lib.hid (HDR.out.below hbd HDR.out.lt)
          have HND := Lib.hid (One2.of_below (b := b) (v := v) hbd)
          have hDb : b ≠ D := has_ne HMD.out.box HDD.out (by decide)
          have hLb : b ≠ Lb := has_ne HMD.out.box HJD.out.lb (by decide)
          have hAb : b ≠ Ab := has_ne HMD.out.box HJD.out.ab (by decide)
          have hS0 : (fun W : World => W.cell? ⟨D, 0, none⟩ = some (.int .i64 g1) ∧ W.cell? ⟨D, 1, none⟩ = some (.int .i64 g2) ∧ W.cell? ⟨D, 2, none⟩ = some (.int .i64 g3) ∧ W.cell? ⟨Lb, 0, none⟩ = some (.int .i64 lev)) wr.drew := ⟨HDD.out.cell 0, HDD.out.cell 1, HDD.out.cell 2, HJD.out.lb.cell 0⟩
          have HSS := Lib.hid (fun (W : World) (j : Nat) (u : Value) (h : (fun W : World => W.cell? ⟨D, 0, none⟩ = some (.int .i64 g1) ∧ W.cell? ⟨D, 1, none⟩ = some (.int .i64 g2) ∧ W.cell? ⟨D, 2, none⟩ = some (.int .i64 g3) ∧ W.cell? ⟨Lb, 0, none⟩ = some (.int .i64 lev)) W) => (⟨(set_block hDb).trans h.1, (set_block hDb).trans h.2.1, (set_block hDb).trans h.2.2.1, (set_block hLb).trans h.2.2.2⟩ : (fun W : World => W.cell? ⟨D, 0, none⟩ = some (.int .i64 g1) ∧ W.cell? ⟨D, 1, none⟩ = some (.int .i64 g2) ∧ W.cell? ⟨D, 2, none⟩ = some (.int .i64 g3) ∧ W.cell? ⟨Lb, 0, none⟩ = some (.int .i64 lev)) (W.setCell ⟨b, j, none⟩ u)))
          refine anyT_start (S := fun W : World => W.cell? ⟨D, 0, none⟩ = some (.int .i64 g1) ∧ W.cell? ⟨D, 1, none⟩ = some (.int .i64 g2) ∧ W.cell? ⟨D, 2, none⟩ = some (.int .i64 g3) ∧ W.cell? ⟨Lb, 0, none⟩ = some (.int .i64 lev)) (t := 18) (by kernel_rfl) ?_
          have hBd : B ≤ wr.drew.heap.size := by have := HMD.out.le; have := HMD.out.box.lt; omega
          clear hbd HMR HJR HDR
          generalize wr.drew = wd at *
          have k1 := HMD.out.box.cell 1
          have k2 := HMD.out.box.cell 2
          have k7 := HMD.out.box.cell 7
          have k8 := HMD.out.box.cell 8
          have k9 := HMD.out.box.cell 9
          have f1 := HMD.out.box.fz 1
          have f2 := HMD.out.box.fz 2
          have f7 := HMD.out.box.fz 7
          have f8 := HMD.out.box.fz 8
          have f9 := HMD.out.box.fz 9
          unfold runV at k1 k2 k7 k8 k9
          refine takeS (i := 0) (v := ?_) rfl rfl (by kernel_rfl) (by kernel_rfl) (by kernel_rfl) (fun _ _ _ h => h) (by decide) (by kernel_rfl) ?_ hS0 ?_
          rotate_left
          · intro w hSw; (try dsimp only at hSw); go_simp; (try with_reducible rfl)
          simp only [List.setIfInBounds_toArray, List.set_cons_zero, List.set_cons_succ]
          refine takeS (i := 1) (v := ?_) rfl rfl (by kernel_rfl) (by kernel_rfl) (by kernel_rfl) (fun _ _ _ h => h) (by decide) (by kernel_rfl) ?_ hS0 ?_
          rotate_left
          · intro w hSw; (try dsimp only at hSw); go_simp; (try with_reducible rfl)
          simp only [List.setIfInBounds_toArray, List.set_cons_zero, List.set_cons_succ]
          refine takeS (i := 2) (v := ?_) rfl rfl (by kernel_rfl) (by kernel_rfl) (by kernel_rfl) (fun _ _ _ h => h) (by decide) (by kernel_rfl) ?_ hS0 ?_
          rotate_left
          · intro w hSw; (try dsimp only at hSw); go_simp; (try with_reducible rfl)
          simp only [List.setIfInBounds_toArray, List.set_cons_zero, List.set_cons_succ]
          refine takeS (i := 3) (v := ?_) rfl rfl (by kernel_rfl) (by kernel_rfl) (by kernel_rfl) (fun _ _ _ h => h) (by decide) (by kernel_rfl) ?_ hS0 ?_
          rotate_left
          · intro w hSw; (try dsimp only at hSw); go_simp; (try with_reducible rfl)
          simp only [List.setIfInBounds_toArray, List.set_cons_zero, List.set_cons_succ]
          refine takeS (i := 4) (v := ?_) rfl rfl (by kernel_rfl) (by kernel_rfl) (by kernel_rfl) (fun _ _ _ h => h) (by decide) (by kernel_rfl) ?_ hS0 ?_
          rotate_left
          · intro w hSw; (try dsimp only at hSw); go_simp; (try with_reducible rfl)
          simp only [List.setIfInBounds_toArray, List.set_cons_zero, List.set_cons_succ]
          refine takeS (i := 5) (v := ?_) rfl rfl (by kernel_rfl) (by kernel_rfl) (by kernel_rfl) (fun _ _ _ h => h) (by decide) (by kernel_rfl) ?_ hS0 ?_
          rotate_left
          · intro w hSw; (try dsimp only at hSw); go_simp; (try with_reducible rfl)
          simp only [List.setIfInBounds_toArray, List.set_cons_zero, List.set_cons_succ]
          refine takeS (i := 6) (v := ?_) rfl rfl (by kernel_rfl) (by kernel_rfl) (by kernel_rfl) (fun _ _ _ h => h) (by decide) (by kernel_rfl) ?_ hS0 ?_
          rotate_left
          · intro w hSw; (try dsimp only at hSw); go_simp; (try with_reducible rfl)
          simp only [List.setIfInBounds_toArray, List.set_cons_zero, List.set_cons_succ]
          refine takeS (i := 7) (v := ?_) rfl rfl (by kernel_rfl) (by kernel_rfl) (by kernel_rfl) (fun _ _ _ h => h) (by decide) (by kernel_rfl) ?_ hS0 ?_
          rotate_left
          · intro w hSw; (try dsimp only at hSw); go_simp; (try with_reducible rfl)
          simp only [List.setIfInBounds_toArray, List.set_cons_zero, List.set_cons_succ]
          refine takeS (i := 8) (v := ?_) rfl rfl (by kernel_rfl) (by kernel_rfl) (by kernel_rfl) (fun _ _ _ h => h) (by decide) (by kernel_rfl) ?_ hS0 ?_
          rotate_left
          · intro w hSw; (try dsimp only at hSw); go_simp; (try with_reducible rfl)
          simp only [List.setIfInBounds_toArray, List.set_cons_zero, List.set_cons_succ]
          have hS1 := HSS.out _ 9 (.int .i64 g3) (HSS.out _ 8 (.int .i64 g2) (HSS.out _ 7 (.int .i64 g1) hS0))
          refine oneT (i := 9) rfl (by kernel_rfl) (fun K hK => ?_)
          go_simp
          refine hK.out _ _ (fun _ => hS1) ?_
          clear hK
          try simp only [List.setIfInBounds_toArray, List.set_cons_zero, List.set_cons_succ, Act.put]
          refine oneT (i := 10) rfl (by kernel_rfl) (fun K hK => ?_)
          go_simp
          refine hK.out _ _ (fun _ => hS1) ?_
          clear hK
          try simp only [List.setIfInBounds_toArray, List.set_cons_zero, List.set_cons_succ, Act.put]
          refine oneT (i := 11) rfl (by kernel_rfl) (fun K hK => ?_)
          go_simp
          refine hK.out _ _ (fun _ => hS1) ?_
          clear hK
          try simp only [List.setIfInBounds_toArray, List.set_cons_zero, List.set_cons_succ, Act.put]
          refine oneT (i := 12) rfl (by kernel_rfl) (fun K hK => ?_)
          go_simp
          refine hK.out _ _ (fun _ => hS1) ?_
          clear hK
          try simp only [List.setIfInBounds_toArray, List.set_cons_zero, List.set_cons_succ, Act.put]
          have hS2 := HSS.out _ 2 (.int .i64 g2) hS1
          refine oneT (i := 13) rfl (by kernel_rfl) (fun K hK => ?_)
          go_simp
          refine hK.out _ _ (fun _ => hS2) ?_
          clear hK
          try simp only [List.setIfInBounds_toArray, List.set_cons_zero, List.set_cons_succ, Act.put]
          refine oneT (i := 14) rfl (by kernel_rfl) (fun K hK => ?_)
          go_simp
          refine hK.out _ _ (fun _ => hS2) ?_
          clear hK
          try simp only [List.setIfInBounds_toArray, List.set_cons_zero, List.set_cons_succ, Act.put]
          refine oneT (i := 15) rfl (by kernel_rfl) (fun K hK => ?_)
          go_simp
          refine hK.out _ _ (fun _ => hS2) ?_
          clear hK
          try simp only [List.setIfInBounds_toArray, List.set_cons_zero, List.set_cons_succ, Act.put]
          refine oneT (i := 16) rfl (by kernel_rfl) (fun K hK => ?_)
          go_simp
          refine hK.out _ _ (fun _ => hS2) ?_
          clear hK
          try simp only [List.setIfInBounds_toArray, List.set_cons_zero, List.set_cons_succ, Act.put]
          have hS3 := HSS.out _ 1 (.int .i64 lev) hS2
          refine oneT (i := 17) rfl (by kernel_rfl) (fun K hK => ?_)
          go_simp
          refine hK.out _ _ (fun _ => hS3) ?_
          refine doneT (by kernel_rfl) ?_ _
          have HM6 := Lib.hid (HMD.out.setT (g1, g2, g3) lev)
          have HN6 := Lib.hid (HND.out.trans (One2.setT wd b v (g1, g2, g3) lev) (Fr.refl _ _))
          simp only at HM6 HN6
          clear hS0 hS1 hS2 hS3 k1 k2 k7 k8 k9 f1 f2 f7 f8 f9 HMD HJD HDD HND HSS
          go_wp2_with fail
          go_end0
          rw [HFS.out]
          exact ⟨⟨_, rfl⟩, v, HM6.out, HNR.out.trans HN6.out (Fr.refl _ _), Fr.refl _ _⟩
        | true =>
          rw [if_pos rfl] at HFS
          go_wp2_with fail
          refine (HCU.out wr v HMR.out).mono ?_
          rintro e wk ⟨⟨u, rfl⟩, v1, hm1, h1, hf1⟩
          have HNK := Lib.hid (HNR.out.trans h1 (Fr.refl _ _))
          have HFK := Lib.hid (show Fr w v v1 from (Fr.refl w v).trans hf1 HNR.out.size)
          have hkr := h1.keepsR HMR.out
          have HJK := Lib.hid (HJR.out.keep (h1.below HMR.out hBr) hkr hB0)
          have HDK := Lib.hid (HDR.out.keepsR hkr (by decide) (by decide))
          have HMK := Lib.hid hm1
          have hBk : B ≤ wk.heap.size := Nat.le_trans hBr h1.size
          have HON := Lib.hid (fun W (hm : RM W B b v1 (setT (g1, g2, g3) lev (cutF t r))) (hBW : B ≤ W.heap.size) => on_any B b v1 (setT (g1, g2, g3) lev (cutF t r)) t W hm (Nat.le_trans HCL.out.2.1 hl) hBW)
          clear hm1 h1 hf1 hkr a0 HMR HJR HNR HDR HCU HCL
          generalize cutF t r = r1 at *
          go_upto_region 6 with fail
          have hbd := (Below.refl wk.heap.size wk).drew
          have HMD := Lib.hid (HMK.out.below hbd)
          have HJD := Lib.hid (HJK.out.to hbd)
          have HDD := Lib.hid (HDK.out.below hbd HDK.out.lt)
          have HND := Lib.hid (One2.of_below (b := b) (v := v1) hbd)
          have hDb : b ≠ D := has_ne HMD.out.box HDD.out (by decide)
          have hLb : b ≠ Lb := has_ne HMD.out.box HJD.out.lb (by decide)
          have hAb : b ≠ Ab := has_ne HMD.out.box HJD.out.ab (by decide)
          have hS0 : (fun W : World => W.cell? ⟨D, 0, none⟩ = some (.int .i64 g1) ∧ W.cell? ⟨D, 1, none⟩ = some (.int .i64 g2) ∧ W.cell? ⟨D, 2, none⟩ = some (.int .i64 g3) ∧ W.cell? ⟨Lb, 0, none⟩ = some (.int .i64 lev)) wk.drew := ⟨HDD.out.cell 0, HDD.out.cell 1, HDD.out.cell 2, HJD.out.lb.cell 0⟩
          have HSS := Lib.hid (fun (W : World) (j : Nat) (u : Value) (h : (fun W : World => W.cell? ⟨D, 0, none⟩ = some (.int .i64 g1) ∧ W.cell? ⟨D, 1, none⟩ = some (.int .i64 g2) ∧ W.cell? ⟨D, 2, none⟩ = some (.int .i64 g3) ∧ W.cell? ⟨Lb, 0, none⟩ = some (.int .i64 lev)) W) => (⟨(set_block hDb).trans h.1, (set_block hDb).trans h.2.1, (set_block hDb).trans h.2.2.1, (set_block hLb).trans h.2.2.2⟩ : (fun W : World => W.cell? ⟨D, 0, none⟩ = some (.int .i64 g1) ∧ W.cell? ⟨D, 1, none⟩ = some (.int .i64 g2) ∧ W.cell? ⟨D, 2, none⟩ = some (.int .i64 g3) ∧ W.cell? ⟨Lb, 0, none⟩ = some (.int .i64 lev)) (W.setCell ⟨b, j, none⟩ u)))
          refine anyT_start (S := fun W : World => W.cell? ⟨D, 0, none⟩ = some (.int .i64 g1) ∧ W.cell? ⟨D, 1, none⟩ = some (.int .i64 g2) ∧ W.cell? ⟨D, 2, none⟩ = some (.int .i64 g3) ∧ W.cell? ⟨Lb, 0, none⟩ = some (.int .i64 lev)) (t := 18) (by kernel_rfl) ?_
          have hBd : B ≤ wk.drew.heap.size := by have := HMD.out.le; have := HMD.out.box.lt; omega
          clear hbd HMK HJK HDK
          generalize wk.drew = wd at *
          have k1 := HMD.out.box.cell 1
          have k2 := HMD.out.box.cell 2
          have k7 := HMD.out.box.cell 7
          have k8 := HMD.out.box.cell 8
          have k9 := HMD.out.box.cell 9
          have f1 := HMD.out.box.fz 1
          have f2 := HMD.out.box.fz 2
          have f7 := HMD.out.box.fz 7
          have f8 := HMD.out.box.fz 8
          have f9 := HMD.out.box.fz 9
          unfold runV at k1 k2 k7 k8 k9
          refine takeS (i := 0) (v := ?_) rfl rfl (by kernel_rfl) (by kernel_rfl) (by kernel_rfl) (fun _ _ _ h => h) (by decide) (by kernel_rfl) ?_ hS0 ?_
          rotate_left
          · intro w hSw; (try dsimp only at hSw); go_simp; (try with_reducible rfl)
          simp only [List.setIfInBounds_toArray, List.set_cons_zero, List.set_cons_succ]
          refine takeS (i := 1) (v := ?_) rfl rfl (by kernel_rfl) (by kernel_rfl) (by kernel_rfl) (fun _ _ _ h => h) (by decide) (by kernel_rfl) ?_ hS0 ?_
          rotate_left
          · intro w hSw; (try dsimp only at hSw); go_simp; (try with_reducible rfl)
          simp only [List.setIfInBounds_toArray, List.set_cons_zero, List.set_cons_succ]
          refine takeS (i := 2) (v := ?_) rfl rfl (by kernel_rfl) (by kernel_rfl) (by kernel_rfl) (fun _ _ _ h => h) (by decide) (by kernel_rfl) ?_ hS0 ?_
          rotate_left
          · intro w hSw; (try dsimp only at hSw); go_simp; (try with_reducible rfl)
          simp only [List.setIfInBounds_toArray, List.set_cons_zero, List.set_cons_succ]
          refine takeS (i := 3) (v := ?_) rfl rfl (by kernel_rfl) (by kernel_rfl) (by kernel_rfl) (fun _ _ _ h => h) (by decide) (by kernel_rfl) ?_ hS0 ?_
          rotate_left
          · intro w hSw; (try dsimp only at hSw); go_simp; (try with_reducible rfl)
          simp only [List.setIfInBounds_toArray, List.set_cons_zero, List.set_cons_succ]
          refine takeS (i := 4) (v := ?_) rfl rfl (by kernel_rfl) (by kernel_rfl) (by kernel_rfl) (fun _ _ _ h => h) (by decide) (by kernel_rfl) ?_ hS0 ?_
          rotate_left
          · intro w hSw; (try dsimp only at hSw); go_simp; (try with_reducible rfl)
          simp only [List.setIfInBounds_toArray, List.set_cons_zero, List.set_cons_succ]
          refine takeS (i := 5) (v := ?_) rfl rfl (by kernel_rfl) (by kernel_rfl) (by kernel_rfl) (fun _ _ _ h => h) (by decide) (by kernel_rfl) ?_ hS0 ?_
          rotate_left
          · intro w hSw; (try dsimp only at hSw); go_simp; (try with_reducible rfl)
          simp only [List.setIfInBounds_toArray, List.set_cons_zero, List.set_cons_succ]
          refine takeS (i := 6) (v := ?_) rfl rfl (by kernel_rfl) (by kernel_rfl) (by kernel_rfl) (fun _ _ _ h => h) (by decide) (by kernel_rfl) ?_ hS0 ?_
          rotate_left
          · intro w hSw; (try dsimp only at hSw); go_simp; (try with_reducible rfl)
          simp only [List.setIfInBounds_toArray, List.set_cons_zero, List.set_cons_succ]
          refine takeS (i := 7) (v := ?_) rfl rfl (by kernel_rfl) (by kernel_rfl) (by kernel_rfl) (fun _ _ _ h => h) (by decide) (by kernel_rfl) ?_ hS0 ?_
          rotate_left
          · intro w hSw; (try dsimp only at hSw); go_simp; (try with_reducible rfl)
          simp only [List.setIfInBounds_toArray, List.set_cons_zero, List.set_cons_succ]
          refine takeS (i := 8) (v := ?_) rfl rfl (by kernel_rfl) (by kernel_rfl) (by kernel_rfl) (fun _ _ _ h => h) (by decide) (by kernel_rfl) ?_ hS0 ?_
          rotate_left
          · intro w hSw; (try dsimp only at hSw); go_simp; (try with_reducible rfl)
          simp only [List.setIfInBounds_toArray, List.set_cons_zero, List.set_cons_succ]
          have hS1 := HSS.out _ 9 (.int .i64 g3) (HSS.out _ 8 (.int .i64 g2) (HSS.out _ 7 (.int .i64 g1) hS0))
          refine oneT (i := 9) rfl (by kernel_rfl) (fun K hK => ?_)
          go_simp
          refine hK.out _ _ (fun _ => hS1) ?_
          clear hK
          try simp only [List.setIfInBounds_toArray, List.set_cons_zero, List.set_cons_succ, Act.put]
          refine oneT (i := 10) rfl (by kernel_rfl) (fun K hK => ?_)
          go_simp
          refine hK.out _ _ (fun _ => hS1) ?_
          clear hK
          try simp only [List.setIfInBounds_toArray, List.set_cons_zero, List.set_cons_succ, Act.put]
          refine oneT (i := 11) rfl (by kernel_rfl) (fun K hK => ?_)
          go_simp
          refine hK.out _ _ (fun _ => hS1) ?_
          clear hK
          try simp only [List.setIfInBounds_toArray, List.set_cons_zero, List.set_cons_succ, Act.put]
          refine oneT (i := 12) rfl (by kernel_rfl) (fun K hK => ?_)
          go_simp
          refine hK.out _ _ (fun _ => hS1) ?_
          clear hK
          try simp only [List.setIfInBounds_toArray, List.set_cons_zero, List.set_cons_succ, Act.put]
          have hS2 := HSS.out _ 2 (.int .i64 g2) hS1
          refine oneT (i := 13) rfl (by kernel_rfl) (fun K hK => ?_)
          go_simp
          refine hK.out _ _ (fun _ => hS2) ?_
          clear hK
          try simp only [List.setIfInBounds_toArray, List.set_cons_zero, List.set_cons_succ, Act.put]
          refine oneT (i := 14) rfl (by kernel_rfl) (fun K hK => ?_)
          go_simp
          refine hK.out _ _ (fun _ => hS2) ?_
          clear hK
          try simp only [List.setIfInBounds_toArray, List.set_cons_zero, List.set_cons_succ, Act.put]
          refine oneT (i := 15) rfl (by kernel_rfl) (fun K hK => ?_)
          go_simp
          refine hK.out _ _ (fun _ => hS2) ?_
          clear hK
          try simp only [List.setIfInBounds_toArray, List.set_cons_zero, List.set_cons_succ, Act.put]
          refine oneT (i := 16) rfl (by kernel_rfl) (fun K hK => ?_)
          go_simp
          refine hK.out _ _ (fun _ => hS2) ?_
          clear hK
          try simp only [List.setIfInBounds_toArray, List.set_cons_zero, List.set_cons_succ, Act.put]
          have hS3 := HSS.out _ 1 (.int .i64 lev) hS2
          refine oneT (i := 17) rfl (by kernel_rfl) (fun K hK => ?_)
          go_simp
          refine hK.out _ _ (fun _ => hS3) ?_
          refine doneT (by kernel_rfl) ?_ _
          have HM6 := Lib.hid (HMD.out.setT (g1, g2, g3) lev)
          have HN6 := Lib.hid (HND.out.trans (One2.setT wd b v1 (g1, g2, g3) lev) (Fr.refl _ _))
          simp only at HM6 HN6
          have HAB := Lib.hid (show (((((wd.setCell ⟨b, 7, none⟩ (.int .i64 g1)).setCell ⟨b, 8, none⟩ (.int .i64 g2)).setCell ⟨b, 9, none⟩ (.int .i64 g3)).setCell ⟨b, 2, none⟩ (.int .i64 g2)).setCell ⟨b, 1, none⟩ (.int .i64 lev)).cell? ⟨Ab, 0, none⟩ = some (.int .i64 t) by
            rw [set_block hAb, set_block hAb, set_block hAb, set_block hAb, set_block hAb]
            exact HJD.out.ab.cell 0)
          have HB6 := Lib.hid (show B ≤ (((((wd.setCell ⟨b, 7, none⟩ (.int .i64 g1)).setCell ⟨b, 8, none⟩ (.int .i64 g2)).setCell ⟨b, 9, none⟩ (.int .i64 g3)).setCell ⟨b, 2, none⟩ (.int .i64 g2)).setCell ⟨b, 1, none⟩ (.int .i64 lev)).heap.size by
            simp only [World.size_setCell]
            exact hBd)
          clear hS0 hS1 hS2 hS3 k1 k2 k7 k8 k9 f1 f2 f7 f8 f9 HMD HJD HDD HND HSS
          generalize ((((wd.setCell ⟨b, 7, none⟩ (.int .i64 g1)).setCell ⟨b, 8, none⟩ (.int .i64 g2)).setCell ⟨b, 9, none⟩ (.int .i64 g3)).setCell ⟨b, 2, none⟩ (.int .i64 g2)).setCell ⟨b, 1, none⟩ (.int .i64 lev) = wz at *
          have a0 : wz.cell? ⟨Ab, 0, none⟩ = some (.int .i64 t) := HAB.out
          have HOW := Lib.hid (HON.out wz HM6.out HB6.out)
          clear HON
          go_wp2_with fail
          refine HOW.out.mono ?_
          rintro e w9 hrest
          have HZ := Lib.hid (hrest.then (HNK.out.trans HN6.out HFK.out) HFK.out)
          obtain ⟨u, rfl⟩ := hrest.1
          clear hrest
          go_wp2_with fail
          go_end0
          rw [HFS.out]
          exact ⟨⟨_, rfl⟩, HZ.out.2⟩
end Go.Proofs.YtllcgcnebofdoaaGreatDoor
