/- The walks of keeper.target and keeper.begin, and of the three functions that each is called with. -/
import Derived.Test.YtllcgcnebofdoaaGreatDoorCkEach
import Derived.Test.YtllcgcnebofdoaaGreatDoorPoChk3
import Derived.Test.YtllcgcnebofdoaaGreatDoorPoTxt
namespace Go.Proofs.YtllcgcnebofdoaaGreatDoor
open Go.RowKit

theorem results_cell_tmp_row {P : Program} {fn : Func} {p u : Tmp} {ty : TypeId} (h : fn.results = #[.cell p ty, .tmp u]) (tmps : Array Value) (w : World) (g : Nat) (t : TypeId) (cs : Array Value) (fr : Nat × Nat) (d : TypeDesc)
    (hp : tmps.getD p undef = .pointer (some ⟨g, 0, none⟩)) (hg : w.heap[g]? = some (.cells cs t fr))
    (hu : P.underlying ty = some d) (hd : (match d with | .struct _ | .array _ _ => true | _ => false) = true) (hi : (P.info? ty).map (·.size) = some cs.size) :
    (results fn tmps).run P w = .ok (.tuple #[.agg cs, tmps.getD u undef]) w := by
  rw [results_cell_tmp h, hp]
  simp [asAddr, run_loadVar_row w g t ty cs fr d hg hu hd hi]
theorem infoTgt : (Tryz.prog.info? 72).map (·.size) = some 3 := by kernel_rfl
def tgtV : Option TgtD → Value
  | none => .agg #[.int .i64 0, .int .i64 0, .int .i64 0]
  | some t => .agg #[.int .i64 t.1, .int .i64 t.2.1, .int .i64 t.2.2]
theorem find_next {kind : Int} {l : List TgtD} {i : Nat} (hi : i < l.length) : tgtFind kind (l.drop i) = if l[i].1 = kind then some l[i] else tgtFind kind (l.drop (i + 1)) := by
  rw [List.drop_eq_getElem_cons hi]
  rfl
structure TgI (w wr : World) (kind : Int) (l : List TgtD) (i : Nat) : Prop where
  le : i ≤ l.length
  find : tgtFind kind (l.drop i) = tgtFind kind l
  box : Has wr w.heap.size #[.int .i64 0, .int .i64 0, .int .i64 0] 72
  below : Below w.heap.size w wr
set_option maxRecDepth 100000 in
set_option maxHeartbeats 4000000 in
theorem target_any (p : PolD) (lev kind : Int) (vp vl vk : Value) (K : Nat) (w : World) (hK : Has w K #[vp, vl, .int .i64 lev, vk] 67) (hP : PolAt w vp vl p) (hO : PolOk p) (h1 : -1 ≤ lev) (h2 : lev < (p.levs.length : Int)) :
    Calls Tryz.prog 80 #[.pointer (some ⟨K, 0, none⟩), .int .i64 kind] w fun e w' => e = .returned (.tuple #[tgtV (tgtOf p lev kind), .bool (tgtOf p lev kind).isSome]) ∧ Below w.heap.size w w' := by
  have hbx := box1 w #[.int .i64 0, .int .i64 0, .int .i64 0] 72
  have HX := Lib.hid hbx.1
  have HB := Lib.hid hbx.2
  have HP := Lib.hid hP
  have k2 := (hK.below hbx.2 hK.lt).cell 2
  have k1 := (hK.below hbx.2 hK.lt).cell 1
  have HFIN := Lib.hid (fun (wz : World) (hX : Has wz w.heap.size #[.int .i64 0, .int .i64 0, .int .i64 0] 72) (hB : Below w.heap.size w wz) (a0 a1 a2 : Value) =>
    (⟨((hX.set 0 a0).set 1 a1).set 2 a2, ((hB.setCell (p := ⟨w.heap.size, 0, none⟩) (Nat.le_refl _) a0).setCell (p := ⟨w.heap.size, 1, none⟩) (Nat.le_refl _) a1).setCell (p := ⟨w.heap.size, 2, none⟩) (Nat.le_refl _) a2⟩ :
      Has (((wz.setCell ⟨w.heap.size, 0, none⟩ a0).setCell ⟨w.heap.size, 1, none⟩ a1).setCell ⟨w.heap.size, 2, none⟩ a2) w.heap.size #[a0, a1, a2] 72 ∧
      Below w.heap.size w (((wz.setCell ⟨w.heap.size, 0, none⟩ a0).setCell ⟨w.heap.size, 1, none⟩ a1).setCell ⟨w.heap.size, 2, none⟩ a2)))
  have hKw : K < w.heap.size := hK.lt
  clear hK hP hbx
  go_enter Tryz.func80, Tryz.ntmps80
  go_upto_region 1 with fail
  generalize w.alloc (.cells #[.int .i64 0, .int .i64 0, .int .i64 0] 72) = w2 at *
  by_cases hneg : lev < 0
  · have q : decide (lev < 0) = true := decide_eq_true hneg
    have HT := Lib.hid (show tgtOf p lev kind = none by unfold tgtOf; rw [if_pos hneg])
    have x0 := HX.out.cell 0
    have x1 := HX.out.cell 1
    have x2 := HX.out.cell 2
    have y0 := HX.out.fz 0
    have y1 := HX.out.fz 1
    have y2 := HX.out.fz 2
    have HF := Lib.hid (HFIN.out w2 HX.out HB.out (.int .i64 0) (.int .i64 0) (.int .i64 0))
    clear HFIN
    go_wp2_with fail
    try simp only [Exit.inBlock, Exit.then]
    refine bodyPost_ret (results_cell_tmp_row rfl _ _ w.heap.size _ _ (0, 0) _ rfl HF.out.1 Tryz.underlying72 rfl infoTgt) rfl ?_
    exact ⟨by rw [HT.out]; rfl, HF.out.2⟩
  · have q : decide (lev < 0) = false := decide_eq_false hneg
    obtain ⟨m, rfl⟩ := Int.eq_ofNat_of_zero_le (by omega : 0 ≤ lev)
    have hm : m < p.levs.length := by omega
    have hl20 : p.levs.length ≤ 20 := hO.few
    obtain ⟨b, of', cap', hvl, hb, hel⟩ := Levs.at HP.out.levs (by omega)
    subst hvl
    obtain ⟨vt, vg, ⟨-, -, e2⟩, -, -, hg⟩ := hel m hm
    obtain ⟨ga, gc, rfl⟩ := SliceAt.len hg
    have c2 := (below_cell HB.out hb).trans e2
    have hlo := (hO.levs.each _ (List.getElem_mem hm)).2
    have hg3 := tgt_few hlo.tgts
    have HT := Lib.hid (show tgtOf p (m : Int) kind = tgtFind kind p.levs[m].tgts by
      unfold tgtOf
      rw [if_neg (by omega), show ((m : Nat) : Int).toNat = m from rfl]
      simp [List.getD, hm])
    have HG := Lib.hid hg
    have hmI : (m : Int) < (p.levs.length : Int) := by omega
    have hwm : IntKind.i64.wrap (m : Int) = (m : Int) := IntWalk.i64_in _ (by omega)
    clear e2 hel hg hlo hneg h1 h2
    generalize p.levs[m].tgts = l at *
    go_upto_region 3 with fail
    go_quiet (fail)
    have hbq := drewN_below (Below.refl w2.heap.size w2) nq
    have HI0 := Lib.hid (show TgI w (w2.drewN nq) kind l 0 from ⟨Nat.zero_le _, rfl, HX.out.below hbq HX.out.lt, below_up HB.out hbq HB.out.size⟩)
    clear hbq k1 k2 c2 HX HB
    generalize w2.drewN nq = w3 at *
    go_wp2_with fail
    go_loopw [27] (fun iv wr => ∃ i : Nat, iv = .int .i64 ((i : Nat) : Int) ∧ TgI w wr kind l i) (fun iv _ => l.length - (intOf iv).toNat)
    case atStart => exact ⟨0, rfl, HI0.out⟩
    case round =>
      obtain ⟨i, rfl, hI⟩ := hrel
      have HI := Lib.hid hI
      have hi := hI.le
      clear hI HI0
      by_cases hlt : i < l.length
      · obtain ⟨tb, to', tcp, hv, htb, htcp, htl⟩ := Tgts.at HG.out (show 0 < l.length by omega)
        cases hv
        obtain ⟨e0, e1, e2⟩ := htl i hlt
        have c0 := (below_cell HI.out.below htb).trans e0
        have c1 := (below_cell HI.out.below htb).trans e1
        have c2 := (below_cell HI.out.below htb).trans e2
        have HN := Lib.hid (HI.out.find.symm.trans (find_next (kind := kind) hlt))
        clear e0 e1 e2 htl
        generalize l[i] = t at *
        obtain ⟨t1, t2, t3⟩ := t
        simp only at c0 c1 c2 HN
        go_upto_region 6 with fail
        obtain ⟨bx, bbl⟩ := box1 wr #[.int .i64 t1, .int .i64 t2, .int .i64 t3] 72
        have HB4 := Lib.hid (below_up HI.out.below bbl HI.out.below.size)
        have HX4 := Lib.hid (HI.out.box.below bbl HI.out.box.lt)
        have m0 := bx.cell 0
        have m1 := bx.cell 1
        have m2 := bx.cell 2
        have hDw : w.heap.size < wr.heap.size := HI.out.box.lt
        clear bx bbl c0 c1 c2
        generalize wr.alloc (.cells #[.int .i64 t1, .int .i64 t2, .int .i64 t3] 72) = wb at *
        generalize wr.heap.size = D at *
        by_cases hk : t1 = kind
        · subst hk
          rw [if_pos rfl] at HN
          have x0 := HX4.out.cell 0
          have x1 := HX4.out.cell 1
          have x2 := HX4.out.cell 2
          have y0 := HX4.out.fz 0
          have y1 := HX4.out.fz 1
          have y2 := HX4.out.fz 2
          have HF := Lib.hid (HFIN.out wb HX4.out HB4.out (.int .i64 t1) (.int .i64 t2) (.int .i64 t3))
          clear HFIN
          go_wp2_with fail
          try simp only [Exit.inBlock, Exit.then]
          refine bodyPost_ret (results_cell_tmp_row rfl _ _ w.heap.size _ _ (0, 0) _ rfl HF.out.1 Tryz.underlying72 rfl infoTgt) rfl ?_
          exact ⟨by rw [HT.out, HN.out]; rfl, HF.out.2⟩
        · rw [if_neg hk] at HN
          have qk : (t1 == kind) = false := by simpa using hk
          have qk2 : decide (t1 = kind) = false := decide_eq_false hk
          have HIN := Lib.hid (show TgI w wb kind l (i + 1) from ⟨hlt, HN.out.symm, HX4.out, HB4.out⟩)
          clear hk HN
          go_wp2_with fail
          go_roundw
          case rel => exact ⟨i + 1, by go_num, HIN.out⟩
          case measure => simp [intOf]; omega
      · obtain rfl : i = l.length := by omega
        have hfd := HI.out.find
        rw [List.drop_length] at hfd
        have HFD := Lib.hid (show tgtFind kind l = none from hfd.symm)
        have x0 := HI.out.box.cell 0
        have x1 := HI.out.box.cell 1
        have x2 := HI.out.box.cell 2
        have y0 := HI.out.box.fz 0
        have y1 := HI.out.box.fz 1
        have y2 := HI.out.box.fz 2
        have HF := Lib.hid (HFIN.out wr HI.out.box HI.out.below (.int .i64 0) (.int .i64 0) (.int .i64 0))
        clear HFIN hfd
        go_wp2_with fail
        try simp only [Exit.inBlock, Exit.then]
        refine bodyPost_ret (results_cell_tmp_row rfl _ _ w.heap.size _ _ (0, 0) _ rfl HF.out.1 Tryz.underlying72 rfl infoTgt) rfl ?_
        exact ⟨by rw [HT.out, HFD.out]; rfl, HF.out.2⟩
end Go.Proofs.YtllcgcnebofdoaaGreatDoor
