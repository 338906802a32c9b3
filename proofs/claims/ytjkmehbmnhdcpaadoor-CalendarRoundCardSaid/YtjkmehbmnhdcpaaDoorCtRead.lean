/- The walk of cal.ReadCalendar on a calendar's own text. -/
import Derived.Test.YtjkmehbmnhdcpaaDoorCtTake
namespace Go.Proofs.YtjkmehbmnhdcpaaDoor
open Go.RowKit

theorem results_cell_tmps_row {P : Program} {fn : Func} {p u v : Tmp} {ty : TypeId} (h : fn.results = #[.cell p ty, .tmp u, .tmp v]) (tmps : Array Value) (w : World) (g : Nat) (t : TypeId) (cs : Array Value) (fr : Nat × Nat) (d : TypeDesc)
    (hp : tmps.getD p undef = .pointer (some ⟨g, 0, none⟩)) (hg : w.heap[g]? = some (.cells cs t fr))
    (hu : P.underlying ty = some d) (hd : (match d with | .struct _ | .array _ _ => true | _ => false) = true) (hi : (P.info? ty).map (·.size) = some cs.size) :
    (results fn tmps).run P w = .ok (.tuple #[.agg cs, tmps.getD u undef, tmps.getD v undef]) w := by
  have hp' : tmps[p]?.getD undef = .pointer (some ⟨g, 0, none⟩) := by simpa using hp
  simp [results, h, Sem.run_bind, Result.andThen, hp', asAddr, run_loadVar_row w g t ty cs fr d hg hu hd hi]
theorem infoCal : (Tryd.prog.info? 28).map (·.size) = some 4 := by kernel_rfl
theorem SliceAt.map {α β : Type} {sz : Nat} {R : World → List Value → α → Prop} {R' : World → List Value → β → Prop} {w : World} {v : Value} {l : List α} (f : α → β) (h : SliceAt sz R w v l) (hR : ∀ cs, ∀ x ∈ l, R w cs x → R' w cs (f x)) : SliceAt sz R' w v (l.map f) := by
  rcases h with ⟨a, cap, rfl, rfl⟩ | ⟨b, off, cap, rfl, hcp, hb, h⟩
  · exact .inl ⟨a, cap, rfl, rfl⟩
  · refine .inr ⟨b, off, cap, by rw [List.length_map], by rw [List.length_map]; exact hcp, hb, fun i hi => ?_⟩
    rw [List.length_map] at hi
    obtain ⟨cs, h1, h2⟩ := h i hi
    refine ⟨cs, h1, ?_⟩
    rw [List.getElem_map]
    exact hR cs _ (List.getElem_mem hi) h2
theorem RdAt.cal {w : World} {B C : Nat} {d : CalD} {lg : List Gt} {vc vk vs : Value} (h : RdAt w B C d lg vc vk vs) : CalAt w vc vk vs d := by
  refine ⟨slice_of_owns encCh h.cs (fun _ _ => rfl) (fun _ _ => rfl), slice_of_owns encSf h.wk (fun _ _ => rfl) (fun _ _ => rfl), ?_⟩
  rw [← h.gs]
  have hs : SliceAt 2 (fun _ cs (x : Gt) => cs = encGt x) w vs lg := slice_of_owns encGt h.sp (fun _ _ => rfl) (fun _ _ => rfl)
  exact SliceAt.map (R' := spcR) (fun x : Gt => (x.1, x.2.2)) hs (fun cs x hx e => ⟨x.2.1, e, slice_of_owns encSf (h.each x hx) (fun _ _ => rfl) (fun _ _ => rfl)⟩)
theorem RdAt.set {w : World} {B C X i : Nat} {v : Value} {cells : Array Value} {d : CalD} {lg : List Gt} {vc vk vs : Value} (h : RdAt w B C d lg vc vk vs) (hX : Has w X cells 28) (hne : C ≠ X) : RdAt (w.setCell ⟨X, i, none⟩ v) B C d lg vc vk vs :=
  ⟨h.box.set_other i v hne, owns_kept_has h.cs hX (by decide) (grownBy_set _ _ _ _), owns_kept_has h.wk hX (by decide) (grownBy_set _ _ _ _), owns_kept_has h.sp hX (by decide) (grownBy_set _ _ _ _), h.gs, fun x hx => owns_kept_has (h.each x hx) hX (by decide) (grownBy_set _ _ _ _), h.le⟩

/-- what the reader keeps, with the lines that are left -/
structure RcInv (w wx : World) (c : CalD) (ls : List Ln) (k : Int) (j : Nat) (d : CalD) (lg : List Gt) (vc vk vs : Value) : Prop where
  ok : LnsOk k ls
  sum : ls.foldl pushL d = c
  len : j + ls.length = (calLns c).length
  no : k ≤ 2 → d.sps = []
  l1 : d.cs.length ≤ j
  l2 : d.wk.length ≤ j
  l3 : d.sps.length ≤ j
  rd : RdAt wx (w.heap.size + 1) (w.heap.size + 1) d lg vc vk vs
  res : Has wx w.heap.size #[.int .i64 0, .slice none 0 0, .slice none 0 0, .slice none 0 0] 28
  below : Below w.heap.size w wx
theorem push_lens (d : CalD) (x : Ln) : (pushL d x).cs.length ≤ d.cs.length + 1 ∧ (pushL d x).wk.length ≤ d.wk.length + 1 ∧ (pushL d x).sps.length ≤ d.sps.length + 1 ∧ (x.1 ≤ 2 → (pushL d x).sps = d.sps) := by
  unfold pushL
  obtain ⟨k, ns⟩ := x
  dsimp only
  split <;> simp
theorem RcInv.next {w wx w2 w' : World} {c d : CalD} {x : Ln} {r : List Ln} {k : Int} {j : Nat} {lg : List Gt} {vc vk vs : Value} {e : Ending} (h : RcInv w wx c (x :: r) k j d lg vc vk vs) (hb : Below wx.heap.size wx w2)
    (hp : TakePost (w.heap.size + 1) (w.heap.size + 1) x.1 x.2 d w2 e w') : e = .returned (.tuple #[.int .i64 (x.1 : Nat), .bool true]) ∧ ∃ lg' vc' vk' vs', RcInv w w' c r (x.1 : Nat) (j + 1) (pushL d x) lg' vc' vk' vs' := by
  obtain ⟨he, h1, h2, lg', vc', vk', vs', h3⟩ := hp
  obtain ⟨g1, g2, g3, g4⟩ := push_lens d x
  have hok := h.ok.1
  have a1 := h.l1; have a2 := h.l2; have a3 := h.l3
  have hlen := h.len
  rw [List.length_cons] at hlen
  have hs := h.below.size
  have hres2 := h.res.below hb h.res.lt
  refine ⟨he, lg', vc', vk', vs', h.ok.2, h.sum, by omega, fun hk => ?_, by omega, by omega, by omega, h3, hres2.below h1 (Nat.lt_succ_self _), ?_⟩
  · rw [g4 (by omega)]
    have := hok.le
    exact h.no (by omega)
  · exact (below_up h.below hb hs).trans (h1.mono (Nat.le_succ _))
theorem RcInv.lgs {w wx : World} {c d : CalD} {ls : List Ln} {k : Int} {j : Nat} {lg : List Gt} {vc vk vs : Value} (h : RcInv w wx c ls k j d lg vc vk vs) : lg.length ≤ j ∧ (k ≤ 2 → lg = []) := by
  have e := congrArg List.length h.rd.gs
  rw [List.length_map] at e
  refine ⟨by have := h.l3; omega, fun hk => ?_⟩
  have := h.no hk
  rw [this] at e
  exact List.eq_nil_of_length_eq_zero e
theorem text_cons_some (x : Ln) (r : List Ln) : (bs (textL (x :: r))).toList.isEmpty = false := by
  rw [ByteArray.toList_eq, bs_data]
  have e2 : textL (x :: r) = (lineL x.1 x.2 ++ [10]) ++ textL r := by unfold textL; rw [List.flatMap_cons]
  rw [e2]
  simp
theorem text_nil_none : (bs (textL [])).toList.isEmpty = true := by
  rw [ByteArray.toList_eq, bs_data]
  rfl
theorem boxes2 (w : World) (cs ds : Array Value) (t t' : TypeId) : Has ((w.alloc (.cells cs t)).alloc (.cells ds t')) w.heap.size cs t ∧ Has ((w.alloc (.cells cs t)).alloc (.cells ds t')) (w.heap.size + 1) ds t' ∧ Below w.heap.size w ((w.alloc (.cells cs t)).alloc (.cells ds t')) := by
  refine ⟨(Has.new _ _ _).alloc _, ?_, ((Below.refl _ _).alloc (Nat.le_refl _) _).alloc (by simp) _⟩
  have := Has.new (w.alloc (.cells cs t)) ds t'
  simpa using this
def RcPost (c : CalD) (w : World) (e : Ending) (w' : World) : Prop :=
  ∃ vcs vwk vsp, e = .returned (.tuple #[.agg #[.int .i64 c.off, vcs, vwk, vsp], .int .i64 0, .int .i64 0]) ∧ CalAt w' vcs vwk vsp c ∧ Below w.heap.size w w'
set_option maxRecDepth 100000 in
set_option maxHeartbeats 4000000 in
theorem ReadCalendar_ok (c : CalD) (w : World) (hF : CkFine c) (hl : (textL (calLns c)).length ≤ 20000) (hE : Env w) :
    Calls Tryd.prog 6 #[.string (bs (textL (calLns c)))] w (RcPost c w) := by
  have HF := Lib.hid hF
  have HE := Lib.hid hE
  have hN : (calLns c).length ≤ 400 := by
    have h1 := hF.fine.zone.len
    have h2 := hF.wl
    have h3 := hF.sl
    rw [cal_len]
    omega
  have hN1 : 1 ≤ (calLns c).length := by rw [cal_len]; omega
  have hbx := boxes2 w #[.int .i64 0, .slice none 0 0, .slice none 0 0, .slice none 0 0] #[.int .i64 0, .slice none 0 0, .slice none 0 0, .slice none 0 0] 28 28
  have HI := Lib.hid (show RcInv w ((w.alloc (.cells #[.int .i64 0, .slice none 0 0, .slice none 0 0, .slice none 0 0] 28)).alloc (.cells #[.int .i64 0, .slice none 0 0, .slice none 0 0, .slice none 0 0] 28)) c (calLns c) (-1) 0 ⟨0, [], [], []⟩ [] (.slice none 0 0) (.slice none 0 0) (.slice none 0 0) from
    ⟨lns_cal hF.fine, push_all c (fine_dated hF.fine), by omega, fun _ => rfl, by simp, by simp, by simp, ⟨hbx.2.1, World.ownsRow_nil _ _ _ _, World.ownsRow_nil _ _ _ _, World.ownsRow_nil _ _ _ _, rfl, (fun x hx => by cases hx), Nat.le_refl _⟩, hbx.1, hbx.2.2⟩)
  have q0 : decide (20000 < ((bs (textL (calLns c))).size : Int)) = false := by rw [bs_size]; simp; omega
  have q1 : decide (20000 < (bs (textL (calLns c))).size) = false := by rw [bs_size]; simp; omega
  have HLN := Lib.hid hl
  clear hF hE hbx hl
  go_enter Tryd.func6, Tryd.ntmps6
  go_wp2_with fail
  go_loopw [0, 6, 7] (fun tv kv jv wx => ∃ ls k j d lg vc vk vs, tv = .string (bs (textL ls)) ∧ kv = .int .i64 k ∧ jv = .int .i64 ((j : Nat) : Int) ∧ RcInv w wx c ls k j d lg vc vk vs ∧ (textL ls).length ≤ 20000) (fun _ _ jv _ => 400 - (intOf jv).toNat)
  case atStart => exact ⟨_, _, 0, _, _, _, _, _, rfl, rfl, rfl, HI.out, HLN.out⟩
  case round =>
    obtain ⟨ls, k, j, d, lg, vc, vk, vs, rfl, rfl, rfl, hI, hlen⟩ := hrel
    cases ls with
    | nil =>
      have hj : 1 ≤ j := by have := hI.len; rw [List.length_nil] at this; omega
      obtain rfl : d = c := hI.sum
      have HR := Lib.hid hI
      have htn := text_nil_none
      have hj0 : ((j : Int) == 0) = false := by simp; omega
      have hCC := fun wx hx => CheckCalendar_any d vc vk vs wx hx
      have k0 := HR.out.rd.box.cell 0
      have k1 := HR.out.rd.box.cell 1
      have k2 := HR.out.rd.box.cell 2
      have k3 := HR.out.rd.box.cell 3
      clear hI hlen HI HLN q0 q1
      generalize bs (textL []) = T at *
      go_wp2_with fail
      refine (hCC wr HR.out.rd.cal).mono ?_
      rintro e w3 ⟨⟨cd, rfl, hcd⟩, hb3⟩
      obtain rfl : cd = 0 := hcd.2 HF.out
      have HR3 := Lib.hid (HR.out.rd.below hb3)
      have HS3 := Lib.hid (HR.out.res.below hb3 HR.out.res.lt)
      have HB3 := Lib.hid (below_up HR.out.below hb3 HR.out.below.size)
      have k0 := HR3.out.box.cell 0
      have k1 := HR3.out.box.cell 1
      have k2 := HR3.out.box.cell 2
      have k3 := HR3.out.box.cell 3
      obtain ⟨ac, cc, rfl⟩ := owns_slice HR3.out.cs
      obtain ⟨ak, ck, rfl⟩ := owns_slice HR3.out.wk
      obtain ⟨asp, csp, rfl⟩ := owns_slice HR3.out.sp
      have r0 := HS3.out.cell 0
      have r1 := HS3.out.cell 1
      have r2 := HS3.out.cell 2
      have r3 := HS3.out.cell 3
      have f0 := HS3.out.fz 0
      have f1 := HS3.out.fz 1
      have f2 := HS3.out.fz 2
      have f3 := HS3.out.fz 3
      have HZ := Lib.hid (show Has _ w.heap.size #[.int .i64 d.off, .slice ac d.cs.length cc, .slice ak d.wk.length ck, .slice asp lg.length csp] 28 from (((HS3.out.set 0 (.int .i64 d.off)).set 1 (.slice ac d.cs.length cc)).set 2 (.slice ak d.wk.length ck)).set 3 (.slice asp lg.length csp))
      have HQ := Lib.hid ((((HR3.out.set (i := 0) (v := .int .i64 d.off) HS3.out (by omega)).set (i := 1) (v := .slice ac d.cs.length cc) (HS3.out.set 0 (.int .i64 d.off)) (by omega)).set (i := 2) (v := .slice ak d.wk.length ck) ((HS3.out.set 0 (.int .i64 d.off)).set 1 (.slice ac d.cs.length cc)) (by omega)).set (i := 3) (v := .slice asp lg.length csp) (((HS3.out.set 0 (.int .i64 d.off)).set 1 (.slice ac d.cs.length cc)).set 2 (.slice ak d.wk.length ck)) (by omega)).cal
      have HBZ := Lib.hid ((((HB3.out.setCell (p := ⟨w.heap.size, 0, none⟩) (Nat.le_refl _) (.int .i64 d.off)).setCell (p := ⟨w.heap.size, 1, none⟩) (Nat.le_refl _) (.slice ac d.cs.length cc)).setCell (p := ⟨w.heap.size, 2, none⟩) (Nat.le_refl _) (.slice ak d.wk.length ck)).setCell (p := ⟨w.heap.size, 3, none⟩) (Nat.le_refl _) (.slice asp lg.length csp))
      clear hcd hb3 hCC HR HR3 HS3 HB3
      go_wp2_with fail
      try simp only [Exit.inBlock, Exit.then]
      refine bodyPost_ret (results_cell_tmps_row rfl _ _ w.heap.size _ _ (0, 0) _ rfl HZ.out Tryd.underlying28 rfl infoCal) rfl ?_
      exact ⟨_, _, _, rfl, HQ.out, HBZ.out⟩
    | cons x r =>
      have HR := Lib.hid hI
      have hj : j + r.length + 1 = (calLns c).length := by have := hI.len; rw [List.length_cons] at this; omega
      have htn := text_cons_some x r
      have hr20 : (textL r).length ≤ 20000 := by
        have e2 : textL (x :: r) = (lineL x.1 x.2 ++ [10]) ++ textL r := by unfold textL; rw [List.flatMap_cons]
        rw [e2] at hlen
        simp at hlen
        omega
      have HR20 := Lib.hid hr20
      have HCU := Lib.hid (fun W hW => cut_any (textL (x :: r)) 10 (by omega) W hW)
      rw [cut_line x r] at HCU
      obtain ⟨k', ns⟩ := x
      have hlg := hI.lgs
      have HTK := Lib.hid (fun W (hb : Below wr.heap.size wr W) => take_any k' ns k d lg (w.heap.size + 1) (w.heap.size + 1) vc vk vs W (hI.rd.below hb) hI.ok.1 (fun hk => hlg.2 (by have := hI.ok.1.le; simp only at this; omega)) (by have := hI.l1; omega) (by have := hI.l2; omega) (by omega) (HE.out.below (below_up hI.below hb hI.below.size)) (Nat.le_trans (Nat.le_of_lt hI.rd.box.lt) hb.size))
      clear hI hlen hlg HI HLN q0 q1 hr20
      generalize bs (textL ((k', ns) :: r)) = T at *
      simp only at HCU
      generalize hTr : bs (textL r) = Tr at *
      generalize bs (lineL k' ns) = L at *
      go_wp2_with fail
      refine (HCU.out wr (HE.out.below HR.out.below)).mono ?_
      rintro e w3 ⟨rfl, hb3⟩
      have HT3 := Lib.hid (HTK.out w3 hb3)
      have HB3 := Lib.hid hb3
      clear hb3 HTK HCU
      go_wp2_with fail
      refine HT3.out.mono ?_
      intro e w4 hp
      obtain ⟨rfl, lg', vc', vk', vs', hR4⟩ := HR.out.next HB3.out hp
      have HR4 := Lib.hid hR4
      clear hR4 hp HT3 HB3
      go_wp2_with fail
      go_roundw
      case rel => exact ⟨_, _, _, _, _, _, _, _, by rw [← hTr], rfl, by go_num, HR4.out, HR20.out⟩
      case measure => simp [intOf]; omega
end Go.Proofs.YtjkmehbmnhdcpaaDoor
