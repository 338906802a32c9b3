/- The walk of route.assigner.assign. -/
import Derived.Test.YtemikhnkjligdaaGreatDoorQRfSrt
import Derived.Test.YtemikhnkjligdaaGreatDoorQRfNds
import Derived.Deep.AppendLies
namespace Go.Proofs.YtemikhnkjligdaaGreatDoor
open Go Go.RowKit

/-- where the blocks of a round lie -/
structure Loc (w : World) (BO D Du We La Tk : Nat) : Prop where
  d : w.heap.size ≤ D ∧ D < BO
  du : w.heap.size ≤ Du ∧ Du < BO
  we : w.heap.size ≤ We ∧ We < BO
  la : w.heap.size ≤ La ∧ La < BO
  tk : w.heap.size ≤ Tk ∧ Tk < BO
  ne1 : We ≠ La
  ne2 : Du ≠ Tk
structure Mid (w wr : World) (BO D Du We La Tk : Nat) (vp vord vo : Value) (ps : List PerD) (du tkl : List Bool) (we la : List Int) (os : List Nat) (out : List HdD) : Prop where
  desk : DeskAt wr D Du We La vp ps du we la
  tks : BoolsB wr Tk tkl
  own : wr.ownsRow w.heap.size 33 4 vo out.length (hdCells out)
  ord : wr.ownsRow BO 3 1 vord os.length (os.map fun i => .int .i64 ((i : Nat) : Int))
  below : Below w.heap.size w wr
section
variable {w wr : World} {BO D Du We La Tk : Nat} {vp vord vo : Value} {ps : List PerD} {du tkl : List Bool} {we la : List Int} {os : List Nat} {out : List HdD}
theorem Mid.to (h : Mid w wr BO D Du We La Tk vp vord vo ps du tkl we la os out) {w' : World} (hb : Below wr.heap.size wr w') : Mid w w' BO D Du We La Tk vp vord vo ps du tkl we la os out :=
  ⟨h.desk.below hb (Nat.le_refl _), Has.below h.tks hb (Has.lt h.tks), owns_below h.own hb, owns_below h.ord hb, below_up h.below hb h.below.size⟩
theorem Mid.setTk (h : Mid w wr BO D Du We La Tk vp vord vo ps du tkl we la os out) (L : Loc w BO D Du We La Tk) (k : Nat) (x : Bool) : Mid w (wr.setCell ⟨Tk, k, none⟩ (.bool x)) BO D Du We La Tk vp vord vo ps du (tkl.set k x) we la os out :=
  ⟨h.desk.setB h.tks L.ne2, h.tks.set k x, owns_kept_has h.own h.tks (by decide) (grownBy_set _ _ _ _), owns_set h.ord L.tk.2, h.below.setCell (p := ⟨Tk, k, none⟩) L.tk.1 _⟩
theorem Mid.setWe (h : Mid w wr BO D Du We La Tk vp vord vo ps du tkl we la os out) (L : Loc w BO D Du We La Tk) (k : Nat) (x : Int) : Mid w (wr.setCell ⟨We, k, none⟩ (.int .i64 x)) BO D Du We La Tk vp vord vo ps du tkl (we.set k x) la os out :=
  ⟨h.desk.setWe L.ne1 k x, Has.set_other h.tks _ _ (has_ne h.tks h.desk.wes (by decide)), owns_kept_has h.own h.desk.wes (by decide) (grownBy_set _ _ _ _), owns_set h.ord L.we.2, h.below.setCell (p := ⟨We, k, none⟩) L.we.1 _⟩
theorem Mid.setLa (h : Mid w wr BO D Du We La Tk vp vord vo ps du tkl we la os out) (L : Loc w BO D Du We La Tk) (k : Nat) (x : Int) : Mid w (wr.setCell ⟨La, k, none⟩ (.int .i64 x)) BO D Du We La Tk vp vord vo ps du tkl we (la.set k x) os out :=
  ⟨h.desk.setLa L.ne1 k x, Has.set_other h.tks _ _ (has_ne h.tks h.desk.las (by decide)), owns_kept_has h.own h.desk.las (by decide) (grownBy_set _ _ _ _), owns_set h.ord L.la.2, h.below.setCell (p := ⟨La, k, none⟩) L.la.1 _⟩
theorem Mid.app (h : Mid w wr BO D Du We La Tk vp vord vo ps du tkl we la os out) (x : HdD) {w8 : World} {g c : Nat} (ho : w8.ownsRow w.heap.size 33 4 (.slice (some ⟨g, 0, none⟩) (out.length + 1) c) (out.length + 1) (hdCells out ++ hdC x))
    (hg : (wr.alloc (.cells (hdC x).toArray 33)).grownBy w8 vo.ownBlock) : Mid w w8 BO D Du We La Tk vp vord (.slice (some ⟨g, 0, none⟩) (out.length + 1) c) ps du tkl we la os (out ++ [x]) := by
  have hb : Below wr.heap.size wr (wr.alloc (.cells (hdC x).toArray 33)) := (Below.refl _ _).alloc (Nat.le_refl _) _
  have h2 := h.to hb
  refine ⟨⟨Has.kept_own h2.desk.box h2.own (by decide) hg, Has.kept_own h2.desk.dus h2.own (by decide) hg, Has.kept_own h2.desk.wes h2.own (by decide) hg, Has.kept_own h2.desk.las h2.own (by decide) hg, h2.desk.ld, h2.desk.lw, h2.desk.ll⟩, Has.kept_own h2.tks h2.own (by decide) hg, ?_, owns_kept_own h2.ord h2.own (by decide) hg, h2.below.grown hg h2.below.size (fun k hk => (h2.own.lt k hk).1)⟩
  rw [List.length_append, List.length_singleton]
  unfold hdCells at *
  rw [List.flatMap_append]
  simpa using ho
end
/-- what is left over, while it is gathered -/
structure Lf (w wr : World) (Tk : Nat) (vo vl : Value) (ws : List WkD) (tk : Nat → Bool) (out : List HdD) (lg : List Wv) (k : Nat) : Prop where
  sel : lg.map (·.1) = ((List.range k).filter fun j => !tk j).map (wk ws)
  row : wr.ownsRow w.heap.size 38 6 vl lg.length (lg.flatMap encWv)
  each : ∀ x ∈ lg, wr.ownsRow w.heap.size 96 2 x.2 x.1.needs.length (x.1.needs.flatMap encSk)
  tks : BoolsB wr Tk (tkL tk ws.length)
  own : wr.ownsRow w.heap.size 33 4 vo out.length (hdCells out)
  below : Below w.heap.size w wr
theorem Lf.to {w wr w' : World} {Tk : Nat} {vo vl : Value} {ws : List WkD} {tk : Nat → Bool} {out : List HdD} {lg : List Wv} {k : Nat} (h : Lf w wr Tk vo vl ws tk out lg k) (hb : Below wr.heap.size wr w') : Lf w w' Tk vo vl ws tk out lg k :=
  ⟨h.sel, owns_below h.row hb, fun x hx => owns_below (h.each x hx) hb, Has.below h.tks hb (Has.lt h.tks), owns_below h.own hb, below_up h.below hb h.below.size⟩
/-- a store into a new block of work -/
theorem Lf.set {w wr : World} {Tk : Nat} {vo vl : Value} {ws : List WkD} {tk : Nat → Bool} {out : List HdD} {lg : List Wv} {k : Nat} (h : Lf w wr Tk vo vl ws tk out lg k) {c i : Nat} {u : Value} {cs : Array Value} (hc : Has wr c cs 38) (hw : w.heap.size ≤ c) (hne : ∀ g, vl.ownBlock = some g → g ≠ c) : Lf w (wr.setCell ⟨c, i, none⟩ u) Tk vo vl ws tk out lg k :=
  ⟨h.sel, owns_set_ne h.row hne, fun x hx => owns_kept_has (h.each x hx) hc (by decide) (grownBy_set _ _ _ _), Has.set_other h.tks _ _ (has_ne h.tks hc (by decide)), owns_kept_has h.own hc (by decide) (grownBy_set _ _ _ _), h.below.setCell (p := ⟨c, i, none⟩) hw _⟩
theorem sk_bytes {l : List Skl} (h : SkFine l) : ∀ s ∈ l, s.1.size ≤ 9223372036854775807 := fun s hs => by
  have := (nm_size (h.2.mem hs).1).2
  omega
def AsgPost (can : List HdD → WkD → PerD → Prop) (ps : List PerD) (m : Int) (held : List HdD) (ws : List WkD) (w : World) (e : Ending) (w' : World) : Prop :=
  ∃ out left vo vl, e = .returned (.tuple #[vo, vl]) ∧ Hds w' vo out ∧ Wks w' vl left ∧ Asgn can ps m held ws out left ∧ Below w.heap.size w w'
set_option maxRecDepth 100000 in
set_option maxHeartbeats 4000000 in
theorem assign_any (ps : List PerD) (vp : Value) (cs : List CalD) (vc vs : Value) (steps : List StD) (A Aw : Nat) (l : List HdD) (v : Value) (ws : List WkD) (vw : Value) (m : Int) (w : World) (hA : Has w A #[vp, vc, vs, .slice (some ⟨Aw, 0, none⟩) ps.length ps.length] 56) (hAw : BoolsB w Aw (List.replicate ps.length false))
    (hp : Pers w vp ps) (hc : Clds w vc cs) (h : Hds w v l) (hws : Wks w vw ws) (hst : Sts w vs steps) (hpf : PpFine ps) (hcf : ClFine ps cs) (hlf : HdFine ps l) (hwf : WkFine SkFine ws) (hsf : StFine steps) (hm : 0 ≤ m ∧ m ≤ 3000000) :
    Calls Tryz.prog 19 #[.pointer (some ⟨A, 0, none⟩), v, vw, .int .i64 m] w (AsgPost (canF (dutyF cs m) (needsF steps m) ableF ps) ps m l ws w) := by
  obtain ⟨pa, pc, rfl⟩ := SliceAt.len hp
  obtain ⟨ca, cc, rfl⟩ := SliceAt.len hc
  obtain ⟨a, cap, rfl⟩ := SliceAt.len h
  obtain ⟨wa, wcp, rfl⟩ := SliceAt.len hws
  obtain ⟨sa, sc, rfl⟩ := SliceAt.len hst
  have hpl := hpf.1
  have hll := hlf.1
  have hwl := hwf.few
  have HP := Lib.hid hp
  have HW := Lib.hid hws
  have HS := Lib.hid hst
  have HPF := Lib.hid hpf
  have HLF := Lib.hid hlf
  have HWF := Lib.hid hwf
  have HSF := Lib.hid hsf
  have HA := Lib.hid hA
  have hAl := hA.lt
  have HAT := Lib.hid (at_any ps _ cs _ _ A Aw l _ m w hA hAw rfl hp hc h hpf hcf hlf hm)
  obtain ⟨can, hcan⟩ : ∃ can, can = canF (dutyF cs m) (needsF steps m) ableF ps := ⟨_, rfl⟩
  have HCAN := Lib.hid hcan
  rw [← hcan]
  obtain ⟨duL, hduL⟩ : ∃ d, d = ps.map (dutyF cs m) := ⟨_, rfl⟩
  have HDU := Lib.hid hduL
  rw [← hduL] at HAT
  clear hp hc h hws hst hpf hcf hlf hwf hsf hA hAw hcan hduL
  go_enter Tryz.func19, Tryz.ntmps19
  go_wp2_with fail
  refine HAT.out.mono ?_
  rintro e w1 ⟨D, Du, We, La, la0, rfl, hdk, hD1, hD2, hD3, hD4, hne, hb1⟩
  have hrb := make_bools w1 ws.length (by omega)
  have hob := madeBools w1 ws.length
  rw [tkL_none] at hob
  have hbp : Below w1.heap.size w1 (w1.alloc (.cells (madeCells #[.bool false] ws.length) 4)) := (Below.refl _ _).alloc (Nat.le_refl _) _
  have hb2 := below_up hb1 hbp hb1.size
  have hTl : w.heap.size ≤ w1.heap.size := hb1.size
  have hx1 := hdk.box.lt
  have hx2 := Has.lt hdk.dus
  have hx3 := Has.lt hdk.wes
  have hx4 := Has.lt hdk.las
  have hdk2 := hdk.below hbp (Nat.le_refl _)
  have hzb := Has.lt hob
  generalize w1.alloc (.cells (madeCells #[.bool false] ws.length) 4) = w2 at *
  have hor := order_any ws _ w2 (HW.out.below hb2) hwl
  have HOR := Lib.hid hor
  have HDK2 := Lib.hid hdk2
  have HOB := Lib.hid hob
  have HB2 := Lib.hid hb2
  have HL := Lib.hid (show Loc w (w2.heap.size + 1) D Du We La w1.heap.size from ⟨by omega, by omega, by omega, by omega, by omega, hne, by omega⟩)
  generalize w1.heap.size = Tk at *
  clear hdk hdk2 hob hb2 hb1 hbp hor hx1 hx2 hx3 hx4 HAT
  go_wp2_with fail
  refine HOR.out.mono ?_
  rintro e w3 ⟨os, vord, rfl, hperm, hord, hb3⟩
  obtain ⟨oa, oc, rfl⟩ := owns_slice hord
  have hos : os.length ≤ 200 := by rw [hperm.length_eq, List.length_range]; exact hwl
  generalize hBO : w2.heap.size + 1 = BO at *
  have HM0 := Lib.hid (show Mid w w3 BO D Du We La Tk (.slice pa ps.length pc) (.slice oa os.length oc) (.slice none 0 0) ps duL (tkL (fun _ => false) ws.length) (wts ps (l ++ [])) la0 os [] from
    ⟨by rw [List.append_nil]; exact HDK2.out.below hb3 (Nat.le_refl _), Has.below HOB.out hb3 (Has.lt HOB.out), ⟨rfl, .inl ⟨rfl, rfl⟩⟩, hord, below_up HB2.out hb3 HB2.out.size⟩)
  have HPM := Lib.hid hperm
  clear hord hb3 hperm HDK2 HOB HB2 HOR hrb hBO
  go_wp2_with fail
  go_loopw [12, 30] (fun ov iv wr => ∃ j : Nat, iv = .int .i64 ((j : Nat) : Int) ∧ j ≤ os.length ∧ ∃ tk out la, AsAt can ps m l ws (os.take j) tk out ∧ Mid w wr BO D Du We La Tk (.slice pa ps.length pc) (.slice oa os.length oc) ov ps duL (tkL tk ws.length) (wts ps (l ++ out)) la os out) (fun _ iv _ => os.length - (intOf iv).toNat)
  case atStart => exact ⟨0, rfl, Nat.zero_le _, fun _ => false, [], la0, by rw [List.take_zero]; exact AsAt.nil _ _ _ _ _, HM0.out⟩
  case round =>
    clear HM0
    obtain ⟨j, rfl, hj, tk, out, la, hat, hI⟩ := hrel
    have HAT := Lib.hid hat
    have HI := Lib.hid hI
    have hown := hI.own
    have hlo := out_len hat
    rw [List.length_take] at hlo
    obtain ⟨ua, uc, rfl⟩ := owns_slice hown
    clear hI hat hown
    by_cases hlt : j < os.length
    · obtain ⟨g, rfl, hgB⟩ : ∃ g, oa = some ⟨g, 0, none⟩ ∧ BO ≤ g := by
        rcases HI.out.ord.2 with ⟨_, q⟩ | ⟨g, _, _, hv, hg, _⟩
        · omega
        · cases hv
          exact ⟨g, rfl, hg⟩
      obtain ⟨hk, hkn⟩ := ord_at HPM.out hlt
      have c0 : wr.cell? ⟨g, j, none⟩ = some (.int .i64 ((os[j] : Nat) : Int)) := by
        have := HI.out.ord.cells (g := g) rfl j (.int .i64 ((os[j] : Nat) : Int)) (by rw [List.getElem?_map, List.getElem?_eq_getElem hlt]; rfl)
        have e : (⟨g, 0, none⟩ : Addr).add j = ⟨g, j, none⟩ := by unfold Addr.add; split <;> simp_all
        rw [e] at this
        exact this
      have HTK := Lib.hid (show os.take (j + 1) = os.take j ++ [os[j]] from List.take_succ_eq_append_getElem hlt)
      generalize hkk : os[j] = k at *
      have HKN := Lib.hid hkn
      clear hkn hkk
      obtain ⟨bk, off, cap', hv, hbk, hel⟩ := Wks.at (HW.out.below HI.out.below) (by omega)
      cases hv
      obtain ⟨u, e0, e1, e2, e3, e4, e5, hsk⟩ := hel k hk
      obtain ⟨ka, kc, rfl⟩ := SliceAt.len hsk
      have HSK := Lib.hid hsk
      have hwo := HWF.out.one _ (List.getElem_mem hk)
      have HWK := Lib.hid (show wk ws k = ws[k] from wk_at hk)
      clear hel hsk
      generalize hwk : ws[k] = x at *
      clear hwk
      obtain ⟨x1, x2, x3, x4, x5, sk⟩ := x
      simp only at e0 e1 e2 e3 e4 e5 hwo HSK
      have HWO := Lib.hid hwo
      have hwei := hwo.2.1
      clear hwo
      obtain ⟨bx, bbl⟩ := box1 wr #[.int .i64 x1, .int .i64 x2, .int .i64 x3, .int .i64 x4, .int .i64 x5, .slice ka sk.length kc] 38
      have HX := Lib.hid bx
      have hBl := bx.lt
      have HIB := Lib.hid (HI.out.to bbl)
      have HSB := Lib.hid (HSK.out.below bbl)
      go_upto_region 8 with fail
      generalize wr.alloc (.cells #[.int .i64 x1, .int .i64 x2, .int .i64 x3, .int .i64 x4, .int .i64 x5, .slice ka sk.length kc] 38) = wb at *
      generalize wr.heap.size = B at *
      clear bx bbl e0 e1 e2 e3 e4 e5 c0 HI HSK
      have HKS := Lib.hid (fun W (hW : Below wb.heap.size wb W) => (⟨(below_cell hW hBl).trans (HX.out.cell 0), (below_cell hW hBl).trans (HX.out.cell 1), (below_cell hW hBl).trans (HX.out.cell 2), (below_cell hW hBl).trans (HX.out.cell 3), (below_cell hW hBl).trans (HX.out.cell 4), (below_cell hW hBl).trans (HX.out.cell 5), (below_cell (below_up HIB.out.below hW HIB.out.below.size) hAl).trans (HA.out.cell 2)⟩ :
        W.cell? ⟨B, 0, none⟩ = some (.int .i64 x1) ∧ W.cell? ⟨B, 1, none⟩ = some (.int .i64 x2) ∧ W.cell? ⟨B, 2, none⟩ = some (.int .i64 x3) ∧ W.cell? ⟨B, 3, none⟩ = some (.int .i64 x4) ∧ W.cell? ⟨B, 4, none⟩ = some (.int .i64 x5) ∧ W.cell? ⟨B, 5, none⟩ = some (.slice ka sk.length kc) ∧ W.cell? ⟨A, 2, none⟩ = some (.slice sa steps.length sc)))
      refine anyT_start (S := fun W : World => W.cell? ⟨B, 0, none⟩ = some (.int .i64 x1) ∧ W.cell? ⟨B, 1, none⟩ = some (.int .i64 x2) ∧ W.cell? ⟨B, 2, none⟩ = some (.int .i64 x3) ∧ W.cell? ⟨B, 3, none⟩ = some (.int .i64 x4) ∧ W.cell? ⟨B, 4, none⟩ = some (.int .i64 x5) ∧ W.cell? ⟨B, 5, none⟩ = some (.slice ka sk.length kc) ∧ W.cell? ⟨A, 2, none⟩ = some (.slice sa steps.length sc)) (t := 11) (by kernel_rfl) ?_
      have hb0 : Below wb.heap.size wb wb.drew := (Below.refl _ _).drew
      have hS0 := HKS.out _ hb0
      generalize wb.drew = wd at *
      refine takeS (i := 0) (v := ?_) rfl rfl (by kernel_rfl) (by kernel_rfl) (by kernel_rfl) (fun _ _ _ h => h) (by decide) (by kernel_rfl) ?_ hS0 ?_
      rotate_left
      · intro w hSw; (try dsimp only at hSw); go_simp; (try with_reducible rfl)
      simp only [List.setIfInBounds_toArray, List.set_cons_zero, List.set_cons_succ]
      refine takeS (i := 1) (v := ?_) rfl rfl (by kernel_rfl) (by kernel_rfl) (by kernel_rfl) (fun _ _ _ h => h) (by decide) (by kernel_rfl) ?_ hS0 ?_
      rotate_left
      · intro w hSw; (try dsimp only at hSw); go_simp; (try with_reducible rfl)
      simp only [List.setIfInBounds_toArray, List.set_cons_zero, List.set_cons_succ]
      refine takeS (i := 2) (v := ?_) rfl rfl (by kernel_rfl) (by kernel_rfl) (by kernel_rfl) (fun _ _ _ h => h) (by decide) (by kernel_rfl) ?_ hS0 ?_
      rotate_left
      · intro w hSw; (try dsimp only at hSw); go_simp; (try with_reducible rfl)
      simp only [List.setIfInBounds_toArray, List.set_cons_zero, List.set_cons_succ]
      refine takeS (i := 3) (v := ?_) rfl rfl (by kernel_rfl) (by kernel_rfl) (by kernel_rfl) (fun _ _ _ h => h) (by decide) (by kernel_rfl) ?_ hS0 ?_
      rotate_left
      · intro w hSw; (try dsimp only at hSw); go_simp; (try with_reducible rfl)
      simp only [List.setIfInBounds_toArray, List.set_cons_zero, List.set_cons_succ]
      refine takeS (i := 4) (v := ?_) rfl rfl (by kernel_rfl) (by kernel_rfl) (by kernel_rfl) (fun _ _ _ h => h) (by decide) (by kernel_rfl) ?_ hS0 ?_
      rotate_left
      · intro w hSw; (try dsimp only at hSw); go_simp; (try with_reducible rfl)
      simp only [List.setIfInBounds_toArray, List.set_cons_zero, List.set_cons_succ]
      refine takeS (i := 5) (v := ?_) rfl rfl (by kernel_rfl) (by kernel_rfl) (by kernel_rfl) (fun _ _ _ h => h) (by decide) (by kernel_rfl) ?_ hS0 ?_
      rotate_left
      · intro w hSw; (try dsimp only at hSw); go_simp; (try with_reducible rfl)
      simp only [List.setIfInBounds_toArray, List.set_cons_zero, List.set_cons_succ]
      refine takeS (i := 6) (v := ?_) rfl rfl (by kernel_rfl) (by kernel_rfl) (by kernel_rfl) (fun _ _ _ h => h) (by decide) (by kernel_rfl) ?_ hS0 ?_
      rotate_left
      · intro w hSw; (try dsimp only at hSw); go_simp; (try with_reducible rfl)
      simp only [List.setIfInBounds_toArray, List.set_cons_zero, List.set_cons_succ]
      refine takeS (i := 7) (v := ?_) rfl rfl (by kernel_rfl) (by kernel_rfl) (by kernel_rfl) (fun _ _ _ h => h) (by decide) (by kernel_rfl) ?_ hS0 ?_
      rotate_left
      · intro w hSw; (try dsimp only at hSw); go_simp; (try with_reducible rfl)
      simp only [List.setIfInBounds_toArray, List.set_cons_zero, List.set_cons_succ]
      refine oneT (i := 8) rfl (by kernel_rfl) (fun K hK => ?_)
      go_simp
      refine (needsAt_any ⟨x1, x2, x3, x4, x5, sk⟩ _ steps _ m wd (HSB.out.below hb0) HWO.out.2.2.2.2.2 (HS.out.below (below_up HIB.out.below hb0 HIB.out.below.size)) HSF.out hm HWO.out.2.2.2.1).mono ?_
      rintro e w5 ⟨vr, rfl, hvr, hb5⟩
      obtain ⟨ra, rc, rfl⟩ := SliceAt.len hvr
      have hall1 := below_up hb0 hb5 hb0.size
      have hS1 := HKS.out _ hall1
      have hnl : (needsF steps m ⟨x1, x2, x3, x4, x5, sk⟩).length ≤ 12 := Nat.le_trans (needsF_length _ _ _) HWO.out.2.2.2.2.2.1
      refine hK.out _ _ (fun _ => hS1) ?_
      clear hK
      try simp only [List.setIfInBounds_toArray, List.set_cons_zero, List.set_cons_succ, Act.put]
      refine oneT (i := 9) rfl (by kernel_rfl) (fun K hK => ?_)
      go_simp
      refine (choose_any ps _ D Du We La duL (wts ps (l ++ out)) la ⟨x1, x2, x3, x4, x5, sk⟩ _ _ (needsF steps m ⟨x1, x2, x3, x4, x5, sk⟩) w5 (HIB.out.to hall1).desk (HP.out.below (below_up HIB.out.below hall1 HIB.out.below.size)) HPF.out
        (wts_bound (fun x hx => by
          rcases List.mem_append.1 hx with q | q
          · exact (HLF.out.2.mem q).2.2.1
          · exact (HAT.out.good x q).2.1) (by rw [List.length_append]; omega)) hvr hnl (HSB.out.below hall1)).mono ?_
      rintro e w6 ⟨⟨pk, rfl, hpk⟩, hb6⟩
      have hall2 := below_up hall1 hb6 hall1.size
      have hS2 := HKS.out _ hall2
      have HPK := Lib.hid hpk
      refine hK.out _ _ (fun _ => hS2) ?_
      clear hK
      try simp only [List.setIfInBounds_toArray, List.set_cons_zero, List.set_cons_succ, Act.put]
      refine oneT (i := 10) rfl (by kernel_rfl) (fun K hK => ?_)
      go_simp
      refine hK.out _ _ (fun _ => hS2) ?_
      clear hK
      try simp only [List.setIfInBounds_toArray, List.set_cons_zero, List.set_cons_succ, Act.put]
      refine doneT (by kernel_rfl) ?_ _
      try simp only [List.setIfInBounds_toArray, List.set_cons_zero, List.set_cons_succ, Act.put]
      have HI6 := Lib.hid (HIB.out.to hall2)
      have HX6 := Lib.hid (HX.out.below hall2 hBl)
      clear hS0 hS1 hS2 hb0 hb5 hb6 hall1 hall2 hvr hnl hpk HKS HIB HX HSB
      by_cases hneg : pk < 0
      · have q1 : decide (pk < 0) = true := decide_eq_true hneg
        have HSKP := Lib.hid (show AsAt can ps m l ws (os.take (j + 1)) tk out from by
          rw [HTK.out]
          refine HAT.out.skip HKN.out ?_
          rw [HWK.out, HCAN.out]
          refine no_can (fun i hi => ?_)
          have hpk := HPK.out
          rw [HDU.out] at hpk
          rcases hpk with ⟨_, h⟩ | ⟨i', _, e, _⟩
          · exact h i hi
          · omega)
        go_wp2_with fail
        go_roundw
        case rel => exact ⟨j + 1, by go_num, hlt, tk, out, la, HSKP.out, HI6.out⟩
        case measure => simp [intOf]; omega
      · have q1 : decide (pk < 0) = false := decide_eq_false hneg
        obtain ⟨i, hi, hpe, hoki⟩ : ∃ i, i < ps.length ∧ pk = ((i : Nat) : Int) ∧ okF ps duL (wts ps (l ++ out)) (needsF steps m ⟨x1, x2, x3, x4, x5, sk⟩) x2 i = true := by
          rcases HPK.out with ⟨h, _⟩ | h
          · omega
          · exact h
        subst hpe
        have HCI := Lib.hid (show can (l ++ out) ⟨x1, x2, x3, x4, x5, sk⟩ ps[i] from by
          rw [HCAN.out]
          have h := hoki
          rw [HDU.out] at h
          exact (okF_at (nd := needsF steps m) (w := ⟨x1, x2, x3, x4, x5, sk⟩) hi).1 h)
        clear hoki hneg HPK
        have t1 := (HI6.out.tks.cells k (by rw [tkL_length]; exact hk)).1
        have t2 := HI6.out.tks.fz k
        generalize (tkL tk ws.length)[k]'(by rw [tkL_length]; exact hk) = tq at t1
        go_upto_region 11 with fail
        have HI7 := Lib.hid (HI6.out.setTk HL.out k true)
        rw [tkL_set] at HI7
        have HX7 := Lib.hid (Has.set_other HX6.out k (.bool true) (has_ne HX6.out HI6.out.tks (by decide)))
        generalize w6.setCell ⟨Tk, k, none⟩ (.bool true) = w7 at *
        clear t1 t2 HI6 HX6
        have d2 := HI7.out.desk.box.cell 2
        have g1 := (HI7.out.desk.wes.cells i (by rw [wts_length]; exact hi)).1
        rw [wts_at hi] at g1
        have k1 := HX7.out.cell 1
        have hbd := wtN_bound (l ++ out) ps[i].no (fun x hx => by
          rcases List.mem_append.1 hx with q | q
          · exact (HLF.out.2.mem q).2.2.1
          · exact (HAT.out.good x q).2.1)
        rw [List.length_append] at hbd
        have HWN := Lib.hid (wts_one (pp_rise HPF.out) (l ++ out) ⟨x1, ps[i].no, x2, m⟩ hi rfl)
        simp only at HWN
        generalize wtN (l ++ out) ps[i].no = y at *
        have r1 : IntKind.i64.wrap (y + x2) = y + x2 := IntWalk.i64_in _ (by omega)
        obtain ⟨z, hz⟩ : ∃ z, z = y + x2 := ⟨_, rfl⟩
        rw [← hz] at r1 HWN
        have HW64 := Lib.hid (show wrap64 (y + x2) = z by unfold wrap64; omega)
        have HI64 := Lib.hid (show IntKind.i64.wrap (y + x2) = z by rw [hz]; exact IntWalk.i64_in _ (by omega))
        clear hbd hz
        refine anyT_start (S := fun W : World => W.cell? ⟨D, 2, none⟩ = some (.slice (some ⟨We, 0, none⟩) ps.length ps.length) ∧ W.cell? ⟨We, i, none⟩ = some (.int .i64 y) ∧ W.cell? ⟨B, 1, none⟩ = some (.int .i64 x2)) (t := 11) (by kernel_rfl) ?_
        have hS0 : w7.drew.cell? ⟨D, 2, none⟩ = some (.slice (some ⟨We, 0, none⟩) ps.length ps.length) ∧ w7.drew.cell? ⟨We, i, none⟩ = some (.int .i64 y) ∧ w7.drew.cell? ⟨B, 1, none⟩ = some (.int .i64 x2) := ⟨d2, g1, k1⟩
        have HID := Lib.hid (HI7.out.to (Below.refl _ _).drew)
        have HXD := Lib.hid (HX7.out.below (Below.refl w7.heap.size w7).drew HX7.out.lt)
        have f1 : w7.drew.frozen? ⟨We, i, none⟩ = false := HID.out.desk.wes.fz i
        generalize w7.drew = wd2 at *
        refine takeT (i := 0) (v := ?_) rfl rfl (by kernel_rfl) (by kernel_rfl) (by kernel_rfl) (fun _ _ _ h => h) (by decide) (by kernel_rfl) (by kernel_rfl) ?_ hS0 ?_
        rotate_left
        · intro w hSw; (try dsimp only at hSw); go_simp; (try with_reducible rfl)
        simp only [List.setIfInBounds_toArray, List.set_cons_zero, List.set_cons_succ]
        refine takeT (i := 1) (v := ?_) rfl rfl (by kernel_rfl) (by kernel_rfl) (by kernel_rfl) (fun _ _ _ h => h) (by decide) (by kernel_rfl) (by kernel_rfl) ?_ hS0 ?_
        rotate_left
        · intro w hSw; (try dsimp only at hSw); go_simp; (try with_reducible rfl)
        simp only [List.setIfInBounds_toArray, List.set_cons_zero, List.set_cons_succ]
        refine takeT (i := 2) (v := ?_) rfl rfl (by kernel_rfl) (by kernel_rfl) (by kernel_rfl) (fun _ _ _ h => h) (by decide) (by kernel_rfl) (by kernel_rfl) ?_ hS0 ?_
        rotate_left
        · intro w hSw; (try dsimp only at hSw); go_simp; (try with_reducible rfl)
        simp only [List.setIfInBounds_toArray, List.set_cons_zero, List.set_cons_succ]
        refine takeT (i := 3) (v := ?_) rfl rfl (by kernel_rfl) (by kernel_rfl) (by kernel_rfl) (fun _ _ _ h => h) (by decide) (by kernel_rfl) (by kernel_rfl) ?_ hS0 ?_
        rotate_left
        · intro w hSw; (try dsimp only at hSw); go_simp; (try with_reducible rfl)
        simp only [List.setIfInBounds_toArray, List.set_cons_zero, List.set_cons_succ]
        refine takeT (i := 4) (v := ?_) rfl rfl (by kernel_rfl) (by kernel_rfl) (by kernel_rfl) (fun _ _ _ h => h) (by decide) (by kernel_rfl) (by kernel_rfl) ?_ hS0 ?_
        rotate_left
        · intro w hSw; (try dsimp only at hSw); go_simp; (try with_reducible rfl)
        simp only [List.setIfInBounds_toArray, List.set_cons_zero, List.set_cons_succ]
        refine takeT (i := 5) (v := ?_) rfl rfl (by kernel_rfl) (by kernel_rfl) (by kernel_rfl) (fun _ _ _ h => h) (by decide) (by kernel_rfl) (by kernel_rfl) ?_ hS0 ?_
        rotate_left
        · intro w hSw; (try dsimp only at hSw); go_simp; first | (with_reducible rfl) | (rw [if_pos (by omega)])
        simp only [List.setIfInBounds_toArray, List.set_cons_zero, List.set_cons_succ]
        refine takeT (i := 6) (v := ?_) rfl rfl (by kernel_rfl) (by kernel_rfl) (by kernel_rfl) (fun _ _ _ h => h) (by decide) (by kernel_rfl) (by kernel_rfl) ?_ hS0 ?_
        rotate_left
        · intro w hSw; (try dsimp only at hSw); go_simp; (try with_reducible rfl)
        simp only [List.setIfInBounds_toArray, List.set_cons_zero, List.set_cons_succ]
        refine takeT (i := 7) (v := ?_) rfl rfl (by kernel_rfl) (by kernel_rfl) (by kernel_rfl) (fun _ _ _ h => h) (by decide) (by kernel_rfl) (by kernel_rfl) ?_ hS0 ?_
        rotate_left
        · intro w hSw; (try dsimp only at hSw); go_simp; (try with_reducible rfl)
        simp only [List.setIfInBounds_toArray, List.set_cons_zero, List.set_cons_succ]
        refine takeT (i := 8) (v := ?_) rfl rfl (by kernel_rfl) (by kernel_rfl) (by kernel_rfl) (fun _ _ _ h => h) (by decide) (by kernel_rfl) (by kernel_rfl) ?_ hS0 ?_
        rotate_left
        · intro w hSw; (try dsimp only at hSw); go_simp; (try with_reducible rfl)
        simp only [List.setIfInBounds_toArray, List.set_cons_zero, List.set_cons_succ]
        refine takeT (i := 9) (v := ?_) rfl rfl (by kernel_rfl) (by kernel_rfl) (by kernel_rfl) (fun _ _ _ h => h) (by decide) (by kernel_rfl) (by kernel_rfl) ?_ hS0 ?_
        rotate_left
        · intro w hSw; (try dsimp only at hSw); go_simp; (try with_reducible rfl)
        simp only [List.setIfInBounds_toArray, List.set_cons_zero, List.set_cons_succ]
        refine oneT (i := 10) rfl (by kernel_rfl) (fun K hK => ?_)
        go_simp
        refine hK.out _ _ (fun _ => hS0) ?_
        clear hK
        try simp only [List.setIfInBounds_toArray, List.set_cons_zero, List.set_cons_succ, Act.put]
        refine oneT (i := 11) rfl (by kernel_rfl) (fun K hK => ?_)
        go_simp
        refine hK.out _ _ (fun q => absurd rfl q) ?_
        refine doneT (by kernel_rfl) ?_ _
        clear hK hS0 d2 g1 k1 f1 HI7 HX7
        try rw [HW64.out]
        try rw [HI64.out]
        have HI8 := Lib.hid (HID.out.setWe HL.out i z)
        have HX8 := Lib.hid (Has.set_other HXD.out i (.int .i64 z) (has_ne HXD.out HID.out.desk.wes (by decide)))
        go_upto_region 12 with fail
        generalize wd2.setCell ⟨We, i, none⟩ (.int .i64 z) = w8 at *
        clear HID HXD r1 HW64
        have d3 := HI8.out.desk.box.cell 3
        have hll2 := HI8.out.desk.ll
        have g1 := (HI8.out.desk.las.cells i (by omega)).1
        obtain ⟨qz, hqz⟩ : ∃ x, x = la[i]'(by omega) := ⟨_, rfl⟩
        rw [← hqz] at g1
        clear hqz
        refine anyT_start (S := fun W : World => W.cell? ⟨D, 3, none⟩ = some (.slice (some ⟨La, 0, none⟩) ps.length ps.length) ∧ W.cell? ⟨La, i, none⟩ = some (.int .i64 qz)) (t := 15) (by kernel_rfl) ?_
        have hS0 : w8.drew.cell? ⟨D, 3, none⟩ = some (.slice (some ⟨La, 0, none⟩) ps.length ps.length) ∧ w8.drew.cell? ⟨La, i, none⟩ = some (.int .i64 qz) := ⟨d3, g1⟩
        have HID := Lib.hid (HI8.out.to (Below.refl _ _).drew)
        have HXD := Lib.hid (HX8.out.below (Below.refl w8.heap.size w8).drew HX8.out.lt)
        have f1 : w8.drew.frozen? ⟨La, i, none⟩ = false := HID.out.desk.las.fz i
        generalize w8.drew = wd3 at *
        refine takeT (i := 0) (v := ?_) rfl rfl (by kernel_rfl) (by kernel_rfl) (by kernel_rfl) (fun _ _ _ h => h) (by decide) (by kernel_rfl) (by kernel_rfl) ?_ hS0 ?_
        rotate_left
        · intro w hSw; (try dsimp only at hSw); go_simp; (try with_reducible rfl)
        simp only [List.setIfInBounds_toArray, List.set_cons_zero, List.set_cons_succ]
        refine takeT (i := 1) (v := ?_) rfl rfl (by kernel_rfl) (by kernel_rfl) (by kernel_rfl) (fun _ _ _ h => h) (by decide) (by kernel_rfl) (by kernel_rfl) ?_ hS0 ?_
        rotate_left
        · intro w hSw; (try dsimp only at hSw); go_simp; (try with_reducible rfl)
        simp only [List.setIfInBounds_toArray, List.set_cons_zero, List.set_cons_succ]
        refine takeT (i := 2) (v := ?_) rfl rfl (by kernel_rfl) (by kernel_rfl) (by kernel_rfl) (fun _ _ _ h => h) (by decide) (by kernel_rfl) (by kernel_rfl) ?_ hS0 ?_
        rotate_left
        · intro w hSw; (try dsimp only at hSw); go_simp; (try with_reducible rfl)
        simp only [List.setIfInBounds_toArray, List.set_cons_zero, List.set_cons_succ]
        refine takeT (i := 3) (v := ?_) rfl rfl (by kernel_rfl) (by kernel_rfl) (by kernel_rfl) (fun _ _ _ h => h) (by decide) (by kernel_rfl) (by kernel_rfl) ?_ hS0 ?_
        rotate_left
        · intro w hSw; (try dsimp only at hSw); go_simp; (try with_reducible rfl)
        simp only [List.setIfInBounds_toArray, List.set_cons_zero, List.set_cons_succ]
        refine takeT (i := 4) (v := ?_) rfl rfl (by kernel_rfl) (by kernel_rfl) (by kernel_rfl) (fun _ _ _ h => h) (by decide) (by kernel_rfl) (by kernel_rfl) ?_ hS0 ?_
        rotate_left
        · intro w hSw; (try dsimp only at hSw); go_simp; (try with_reducible rfl)
        simp only [List.setIfInBounds_toArray, List.set_cons_zero, List.set_cons_succ]
        refine takeT (i := 5) (v := ?_) rfl rfl (by kernel_rfl) (by kernel_rfl) (by kernel_rfl) (fun _ _ _ h => h) (by decide) (by kernel_rfl) (by kernel_rfl) ?_ hS0 ?_
        rotate_left
        · intro w hSw; (try dsimp only at hSw); go_simp; (try with_reducible rfl)
        simp only [List.setIfInBounds_toArray, List.set_cons_zero, List.set_cons_succ]
        refine takeT (i := 6) (v := ?_) rfl rfl (by kernel_rfl) (by kernel_rfl) (by kernel_rfl) (fun _ _ _ h => h) (by decide) (by kernel_rfl) (by kernel_rfl) ?_ hS0 ?_
        rotate_left
        · intro w hSw; (try dsimp only at hSw); go_simp; (try with_reducible rfl)
        simp only [List.setIfInBounds_toArray, List.set_cons_zero, List.set_cons_succ]
        refine takeT (i := 7) (v := ?_) rfl rfl (by kernel_rfl) (by kernel_rfl) (by kernel_rfl) (fun _ _ _ h => h) (by decide) (by kernel_rfl) (by kernel_rfl) ?_ hS0 ?_
        rotate_left
        · intro w hSw; (try dsimp only at hSw); go_simp; (try with_reducible rfl)
        simp only [List.setIfInBounds_toArray, List.set_cons_zero, List.set_cons_succ]
        refine takeT (i := 8) (v := ?_) rfl rfl (by kernel_rfl) (by kernel_rfl) (by kernel_rfl) (fun _ _ _ h => h) (by decide) (by kernel_rfl) (by kernel_rfl) ?_ hS0 ?_
        rotate_left
        · intro w hSw; (try dsimp only at hSw); go_simp; (try with_reducible rfl)
        simp only [List.setIfInBounds_toArray, List.set_cons_zero, List.set_cons_succ]
        refine takeT (i := 9) (v := ?_) rfl rfl (by kernel_rfl) (by kernel_rfl) (by kernel_rfl) (fun _ _ _ h => h) (by decide) (by kernel_rfl) (by kernel_rfl) ?_ hS0 ?_
        rotate_left
        · intro w hSw; (try dsimp only at hSw); go_simp; (try with_reducible rfl)
        simp only [List.setIfInBounds_toArray, List.set_cons_zero, List.set_cons_succ]
        refine takeT (i := 10) (v := ?_) rfl rfl (by kernel_rfl) (by kernel_rfl) (by kernel_rfl) (fun _ _ _ h => h) (by decide) (by kernel_rfl) (by kernel_rfl) ?_ hS0 ?_
        rotate_left
        · intro w hSw; (try dsimp only at hSw); go_simp; first | (with_reducible rfl) | (rw [if_pos (by omega)])
        simp only [List.setIfInBounds_toArray, List.set_cons_zero, List.set_cons_succ]
        refine takeT (i := 11) (v := ?_) rfl rfl (by kernel_rfl) (by kernel_rfl) (by kernel_rfl) (fun _ _ _ h => h) (by decide) (by kernel_rfl) (by kernel_rfl) ?_ hS0 ?_
        rotate_left
        · intro w hSw; (try dsimp only at hSw); go_simp; (try with_reducible rfl)
        simp only [List.setIfInBounds_toArray, List.set_cons_zero, List.set_cons_succ]
        refine takeT (i := 12) (v := ?_) rfl rfl (by kernel_rfl) (by kernel_rfl) (by kernel_rfl) (fun _ _ _ h => h) (by decide) (by kernel_rfl) (by kernel_rfl) ?_ hS0 ?_
        rotate_left
        · intro w hSw; (try dsimp only at hSw); go_simp; (try with_reducible rfl)
        simp only [List.setIfInBounds_toArray, List.set_cons_zero, List.set_cons_succ]
        refine takeT (i := 13) (v := ?_) rfl rfl (by kernel_rfl) (by kernel_rfl) (by kernel_rfl) (fun _ _ _ h => h) (by decide) (by kernel_rfl) (by kernel_rfl) ?_ hS0 ?_
        rotate_left
        · intro w hSw; (try dsimp only at hSw); go_simp; (try with_reducible rfl)
        simp only [List.setIfInBounds_toArray, List.set_cons_zero, List.set_cons_succ]
        refine oneT (i := 14) rfl (by kernel_rfl) (fun K hK => ?_)
        go_simp
        refine hK.out _ _ (fun _ => hS0) ?_
        clear hK
        try simp only [List.setIfInBounds_toArray, List.set_cons_zero, List.set_cons_succ, Act.put]
        refine oneT (i := 15) rfl (by kernel_rfl) (fun K hK => ?_)
        go_simp
        refine hK.out _ _ (fun q => absurd rfl q) ?_
        refine doneT (by kernel_rfl) ?_ _
        clear hK hS0 d3 g1 f1 HI8 HX8
        have HI9 := Lib.hid (HID.out.setLa HL.out i (max qz m))
        have HX9 := Lib.hid (Has.set_other HXD.out i (.int .i64 (max qz m)) (has_ne HXD.out HID.out.desk.las (by decide)))
        go_upto_region 13 with fail
        generalize wd3.setCell ⟨La, i, none⟩ (.int .i64 (max qz m)) = w9 at *
        clear HID HXD
        obtain ⟨pb, po, cap9, hv9, hpb, hel9⟩ := Pers.at HP.out (by omega)
        cases hv9
        have pc0 := (hel9 i hi).choose_spec.1
        have HPN := Lib.hid (rfl : ps[i].no = ps[i].no)
        obtain ⟨pn, hpn⟩ : ∃ x, x = ps[i].no := ⟨_, rfl⟩
        rw [← hpn] at pc0
        have HPE := Lib.hid hpn
        clear hel9 hpn HPN
        refine anyT_start (S := fun W : World => W.cell? ⟨B, 0, none⟩ = some (.int .i64 x1) ∧ W.cell? ⟨B, 1, none⟩ = some (.int .i64 x2) ∧ W.cell? ⟨A, 0, none⟩ = some (.slice (some ⟨pb, po, none⟩) ps.length pc) ∧ W.cell? ⟨pb, po + i * 4, none⟩ = some (.int .i64 pn)) (t := 18) (by kernel_rfl) ?_
        have HID := Lib.hid (HI9.out.to (Below.refl _ _).drew)
        have HXD := Lib.hid (HX9.out.below (Below.refl w9.heap.size w9).drew HX9.out.lt)
        generalize w9.drew = wd4 at *
        have hS0 : wd4.cell? ⟨B, 0, none⟩ = some (.int .i64 x1) ∧ wd4.cell? ⟨B, 1, none⟩ = some (.int .i64 x2) ∧ wd4.cell? ⟨A, 0, none⟩ = some (.slice (some ⟨pb, po, none⟩) ps.length pc) ∧ wd4.cell? ⟨pb, po + i * 4, none⟩ = some (.int .i64 pn) := ⟨HXD.out.cell 0, HXD.out.cell 1, (below_cell HID.out.below hAl).trans (HA.out.cell 0), (below_cell HID.out.below hpb).trans pc0⟩
        clear pc0 HI9 HX9
        refine takeS (i := 0) (v := ?_) rfl rfl (by kernel_rfl) (by kernel_rfl) (by kernel_rfl) (fun _ _ _ h => h) (by decide) (by kernel_rfl) ?_ hS0 ?_
        rotate_left
        · intro w hSw; (try dsimp only at hSw); go_simp; (try with_reducible rfl)
        simp only [List.setIfInBounds_toArray, List.set_cons_zero, List.set_cons_succ]
        refine takeS (i := 1) (v := ?_) rfl rfl (by kernel_rfl) (by kernel_rfl) (by kernel_rfl) (fun _ _ _ h => h) (by decide) (by kernel_rfl) ?_ hS0 ?_
        rotate_left
        · intro w hSw; (try dsimp only at hSw); go_simp; (try with_reducible rfl)
        simp only [List.setIfInBounds_toArray, List.set_cons_zero, List.set_cons_succ]
        refine takeS (i := 2) (v := ?_) rfl rfl (by kernel_rfl) (by kernel_rfl) (by kernel_rfl) (fun _ _ _ h => h) (by decide) (by kernel_rfl) ?_ hS0 ?_
        rotate_left
        · intro w hSw; (try dsimp only at hSw); go_simp; (try with_reducible rfl)
        simp only [List.setIfInBounds_toArray, List.set_cons_zero, List.set_cons_succ]
        refine takeS (i := 3) (v := ?_) rfl rfl (by kernel_rfl) (by kernel_rfl) (by kernel_rfl) (fun _ _ _ h => h) (by decide) (by kernel_rfl) ?_ hS0 ?_
        rotate_left
        · intro w hSw; (try dsimp only at hSw); go_simp; (try with_reducible rfl)
        simp only [List.setIfInBounds_toArray, List.set_cons_zero, List.set_cons_succ]
        refine takeS (i := 4) (v := ?_) rfl rfl (by kernel_rfl) (by kernel_rfl) (by kernel_rfl) (fun _ _ _ h => h) (by decide) (by kernel_rfl) ?_ hS0 ?_
        rotate_left
        · intro w hSw; (try dsimp only at hSw); go_simp; (try with_reducible rfl)
        simp only [List.setIfInBounds_toArray, List.set_cons_zero, List.set_cons_succ]
        refine takeS (i := 5) (v := ?_) rfl rfl (by kernel_rfl) (by kernel_rfl) (by kernel_rfl) (fun _ _ _ h => h) (by decide) (by kernel_rfl) ?_ hS0 ?_
        rotate_left
        · intro w hSw; (try dsimp only at hSw); go_simp; (try with_reducible rfl)
        simp only [List.setIfInBounds_toArray, List.set_cons_zero, List.set_cons_succ]
        refine takeS (i := 6) (v := ?_) rfl rfl (by kernel_rfl) (by kernel_rfl) (by kernel_rfl) (fun _ _ _ h => h) (by decide) (by kernel_rfl) ?_ hS0 ?_
        rotate_left
        · intro w hSw; (try dsimp only at hSw); go_simp; (try with_reducible rfl)
        simp only [List.setIfInBounds_toArray, List.set_cons_zero, List.set_cons_succ]
        refine takeS (i := 7) (v := ?_) rfl rfl (by kernel_rfl) (by kernel_rfl) (by kernel_rfl) (fun _ _ _ h => h) (by decide) (by kernel_rfl) ?_ hS0 ?_
        rotate_left
        · intro w hSw; (try dsimp only at hSw); go_simp; (try with_reducible rfl)
        simp only [List.setIfInBounds_toArray, List.set_cons_zero, List.set_cons_succ]
        refine takeS (i := 8) (v := ?_) rfl rfl (by kernel_rfl) (by kernel_rfl) (by kernel_rfl) (fun _ _ _ h => h) (by decide) (by kernel_rfl) ?_ hS0 ?_
        rotate_left
        · intro w hSw; (try dsimp only at hSw); go_simp; first | (with_reducible rfl) | (rw [if_pos (by omega)])
        simp only [List.setIfInBounds_toArray, List.set_cons_zero, List.set_cons_succ]
        refine takeS (i := 9) (v := ?_) rfl rfl (by kernel_rfl) (by kernel_rfl) (by kernel_rfl) (fun _ _ _ h => h) (by decide) (by kernel_rfl) ?_ hS0 ?_
        rotate_left
        · intro w hSw; (try dsimp only at hSw); go_simp; (try with_reducible rfl)
        simp only [List.setIfInBounds_toArray, List.set_cons_zero, List.set_cons_succ]
        refine takeS (i := 10) (v := ?_) rfl rfl (by kernel_rfl) (by kernel_rfl) (by kernel_rfl) (fun _ _ _ h => h) (by decide) (by kernel_rfl) ?_ hS0 ?_
        rotate_left
        · intro w hSw; (try dsimp only at hSw); go_simp; (try with_reducible rfl)
        simp only [List.setIfInBounds_toArray, List.set_cons_zero, List.set_cons_succ]
        refine takeS (i := 11) (v := ?_) rfl rfl (by kernel_rfl) (by kernel_rfl) (by kernel_rfl) (fun _ _ _ h => h) (by decide) (by kernel_rfl) ?_ hS0 ?_
        rotate_left
        · intro w hSw; (try dsimp only at hSw); go_simp; (try with_reducible rfl)
        simp only [List.setIfInBounds_toArray, List.set_cons_zero, List.set_cons_succ]
        refine takeS (i := 12) (v := ?_) rfl rfl (by kernel_rfl) (by kernel_rfl) (by kernel_rfl) (fun _ _ _ h => h) (by decide) (by kernel_rfl) ?_ hS0 ?_
        rotate_left
        · intro w hSw; (try dsimp only at hSw); go_simp; (try with_reducible rfl)
        simp only [List.setIfInBounds_toArray, List.set_cons_zero, List.set_cons_succ]
        refine takeS (i := 13) (v := ?_) rfl rfl (by kernel_rfl) (by kernel_rfl) (by kernel_rfl) (fun _ _ _ h => h) (by decide) (by kernel_rfl) ?_ hS0 ?_
        rotate_left
        · intro w hSw; (try dsimp only at hSw); go_simp; (try with_reducible rfl)
        simp only [List.setIfInBounds_toArray, List.set_cons_zero, List.set_cons_succ]
        refine takeS (i := 14) (v := ?_) rfl rfl (by kernel_rfl) (by kernel_rfl) (by kernel_rfl) (fun _ _ _ h => h) (by decide) (by kernel_rfl) ?_ hS0 ?_
        rotate_left
        · intro w hSw; (try dsimp only at hSw); go_simp; (try with_reducible rfl)
        simp only [List.setIfInBounds_toArray, List.set_cons_zero, List.set_cons_succ]
        have hbn : Below wd4.heap.size wd4 (wd4.alloc (.cells #[.int .i64 x1, .int .i64 pn, .int .i64 x2, .int .i64 m] 33)) := (Below.refl _ _).alloc (Nat.le_refl _) _
        have hSa : (wd4.alloc (.cells #[.int .i64 x1, .int .i64 pn, .int .i64 x2, .int .i64 m] 33)).cell? ⟨B, 0, none⟩ = some (.int .i64 x1) ∧ (wd4.alloc (.cells #[.int .i64 x1, .int .i64 pn, .int .i64 x2, .int .i64 m] 33)).cell? ⟨B, 1, none⟩ = some (.int .i64 x2) ∧ (wd4.alloc (.cells #[.int .i64 x1, .int .i64 pn, .int .i64 x2, .int .i64 m] 33)).cell? ⟨A, 0, none⟩ = some (.slice (some ⟨pb, po, none⟩) ps.length pc) ∧ (wd4.alloc (.cells #[.int .i64 x1, .int .i64 pn, .int .i64 x2, .int .i64 m] 33)).cell? ⟨pb, po + i * 4, none⟩ = some (.int .i64 pn) := ⟨(below_cell hbn HXD.out.lt).trans hS0.1, (below_cell hbn HXD.out.lt).trans hS0.2.1, (below_cell hbn (Nat.lt_of_lt_of_le hAl HID.out.below.size)).trans hS0.2.2.1, (below_cell hbn (Nat.lt_of_lt_of_le hpb HID.out.below.size)).trans hS0.2.2.2⟩
        refine oneT (i := 15) rfl (by kernel_rfl) (fun K hK => ?_)
        go_simp
        refine hK.out _ _ (fun _ => hSa) ?_
        clear hK
        try simp only [List.setIfInBounds_toArray, List.set_cons_zero, List.set_cons_succ, Act.put]
        obtain ⟨i0, hi0, hz0, hz1, hz2⟩ := info_parts infoHeld
        have hws0 := HID.out.below.size
        refine oneT (i := 16) rfl (by kernel_rfl) (fun K hK => ?_)
        refine step_append_lies _ (by rfl) _ _ _ (by rfl) w.heap.size 33 i0 (.agg #[.int .i64 0, .int .i64 0, .int .i64 0, .int .i64 0]) 4 32 Tryz.underlying24 hi0 hz0 hz1 hz2 rfl (by omega) _ _ _ (by rfl) (HID.out.own.alloc _) ⟨wd4.heap.size, 0, none⟩ 1 1 [.int .i64 x1, .int .i64 pn, .int .i64 x2, .int .i64 m] (by rfl) rfl (World.news_of_block (heap_alloc_new _ _)) (by simp [Value.oneCell']) (by first | omega | (unfold maxLen; omega) | (simp only; omega) | (simp only; unfold maxLen; omega)) (by first | omega | (unfold maxLen; omega) | (simp only; omega) | (simp only; unfold maxLen; omega)) (by first | omega | (unfold maxLen; omega) | (simp only; omega) | (simp only; unfold maxLen; omega)) (by simp; omega) (wd4.heap.size + 1) (by simp) ?_
        intro g' c2 w10 hown8 hg8 hat8 hlt8
        have hmid := Mid.app HID.out ⟨x1, pn, x2, m⟩ hown8 hg8
        have hX10 : Has w10 B #[.int .i64 x1, .int .i64 x2, .int .i64 x3, .int .i64 x4, .int .i64 x5, .slice ka sk.length kc] 38 := Has.kept_own (HXD.out.below hbn HXD.out.lt) (HID.out.own.alloc _) (by decide) hg8
        have hSb : w10.cell? ⟨B, 0, none⟩ = some (.int .i64 x1) ∧ w10.cell? ⟨B, 1, none⟩ = some (.int .i64 x2) ∧ w10.cell? ⟨A, 0, none⟩ = some (.slice (some ⟨pb, po, none⟩) ps.length pc) ∧ w10.cell? ⟨pb, po + i * 4, none⟩ = some (.int .i64 pn) := ⟨hX10.cell 0, hX10.cell 1, (below_cell hmid.below hAl).trans (HA.out.cell 0), by
          rw [below_cell hmid.below hpb, ← below_cell HID.out.below hpb]
          exact hS0.2.2.2⟩
        have HMID := Lib.hid hmid
        refine hK.out _ _ (fun _ => hSb) ?_
        clear hK hown8 hg8 hat8 hlt8 hbn hSa hi0 hz0 hz1 hz2 hmid hX10
        try simp only [List.setIfInBounds_toArray, List.set_cons_zero, List.set_cons_succ, Act.put]
        refine oneT (i := 17) rfl (by kernel_rfl) (fun K hK => ?_)
        go_simp
        refine hK.out _ _ (fun _ => hSb) ?_
        clear hK
        try simp only [List.setIfInBounds_toArray, List.set_cons_zero, List.set_cons_succ, Act.put]
        refine doneT (by kernel_rfl) ?_ _
        clear hSb hS0 HID HXD
        have HTAKE := Lib.hid (show AsAt can ps m l ws (os.take (j + 1)) (fun i => decide (i = k) || tk i) (out ++ [⟨x1, pn, x2, m⟩]) from by
          rw [HTK.out, HPE.out]
          have h1 := HCI.out
          have h0 := HAT.out
          rw [HCAN.out] at h1 h0 ⊢
          have h2 := AsAt.take h0 (pp_rise HPF.out) hk HKN.out (p := ps[i]) (by rw [HWK.out]; exact h1) (by rw [HWK.out]; exact HWO.out.2.1)
          rw [HWK.out] at h2
          exact h2)
        have HWTS := Lib.hid (show wts ps (l ++ (out ++ [⟨x1, pn, x2, m⟩])) = (wts ps (l ++ out)).set i z from by
          rw [← List.append_assoc, HPE.out]
          exact HWN.out)
        go_wp2_with fail
        go_roundw
        case rel => exact ⟨j + 1, by go_num, hlt, _, _, _, HTAKE.out, by rw [HWTS.out]; exact HMID.out⟩
        case measure => simp [intOf]; omega
    · obtain rfl : j = os.length := by omega
      have HFIN := Lib.hid (show Asgn can ps m l ws out (((List.range ws.length).filter fun j => !tk j).map (wk ws)) from by
        have h := HAT.out
        rw [List.take_length] at h
        exact h.fin HPM.out)
      have HL0 := Lib.hid (show Lf w wr Tk (.slice ua out.length uc) (.slice none 0 0) ws tk out [] 0 from ⟨rfl, ⟨rfl, .inl ⟨rfl, rfl⟩⟩, fun x hx => absurd hx (by simp), HI.out.tks, HI.out.own, HI.out.below⟩)
      clear HI HAT
      generalize hwr : wr = w4 at *
      clear hwr
      go_wp2_with fail
      go_loopw [17, 99] (fun lv iv wr => ∃ k : Nat, iv = .int .i64 ((k : Nat) : Int) ∧ k ≤ ws.length ∧ ∃ lg, lg.length ≤ k ∧ Lf w wr Tk (.slice ua out.length uc) lv ws tk out lg k) (fun _ iv _ => ws.length - (intOf iv).toNat)
      case atStart => exact ⟨0, rfl, Nat.zero_le _, [], Nat.le_refl _, HL0.out⟩
      case round =>
        clear HL0
        obtain ⟨k, rfl, hk, lg, hlg, hI⟩ := hrel
        have HI := Lib.hid hI
        obtain ⟨la', lc, rfl⟩ := owns_slice hI.row
        clear hI
        by_cases hlt : k < ws.length
        · obtain ⟨bk, off, cap', hv, hbk, hel⟩ := Wks.at (HW.out.below HI.out.below) (by omega)
          cases hv
          obtain ⟨u, e0, e1, e2, e3, e4, e5, hsk⟩ := hel k hlt
          obtain ⟨ka, kc, rfl⟩ := SliceAt.len hsk
          have HSK := Lib.hid hsk
          have hwo := HWF.out.one _ (List.getElem_mem hlt)
          have HWK := Lib.hid (show wk ws k = ws[k] from wk_at hlt)
          clear hel hsk
          generalize hwk : ws[k] = x at *
          clear hwk
          obtain ⟨x1, x2, x3, x4, x5, sk⟩ := x
          simp only at e0 e1 e2 e3 e4 e5 hwo HSK
          have HWO := Lib.hid hwo
          clear hwo
          obtain ⟨bx, bbl⟩ := box1 wr #[.int .i64 x1, .int .i64 x2, .int .i64 x3, .int .i64 x4, .int .i64 x5, .slice ka sk.length kc] 38
          have HX := Lib.hid bx
          have HIB := Lib.hid (HI.out.to bbl)
          have HSB := Lib.hid (HSK.out.below bbl)
          have HNE := Lib.hid (fun g (hg : (Value.slice la' lg.length lc).ownBlock = some g) => Nat.ne_of_lt (HI.out.row.lt g hg).2)
          have hwB : w.heap.size ≤ wr.heap.size := HI.out.below.size
          have t1 := (HIB.out.tks.cells k (by rw [tkL_length]; exact hlt)).1
          obtain ⟨t, ht⟩ : ∃ t, tk k = t := ⟨_, rfl⟩
          have HT := Lib.hid ht
          rw [show (tkL tk ws.length)[k]'(by rw [tkL_length]; exact hlt) = t by simp [tkL, ht]] at t1
          have HSEL := Lib.hid (show ((List.range (k + 1)).filter fun j => !tk j).map (wk ws) = ((List.range k).filter fun j => !tk j).map (wk ws) ++ if t then [] else [⟨x1, x2, x3, x4, x5, sk⟩] from by
            rw [List.range_succ, List.filter_append, List.map_append, ← HWK.out]
            congr 1
            cases t <;> simp [ht])
          have k5 := bx.cell 5
          go_upto_region 19 with fail
          generalize wr.alloc (.cells #[.int .i64 x1, .int .i64 x2, .int .i64 x3, .int .i64 x4, .int .i64 x5, .slice ka sk.length kc] 38) = wb at *
          generalize wr.heap.size = B at *
          clear bx bbl e0 e1 e2 e3 e4 e5 HI HSK ht
          cases t with
          | true =>
            have HN := Lib.hid (show Lf w wb Tk (.slice ua out.length uc) (.slice la' lg.length lc) ws tk out lg (k + 1) from ⟨by rw [HSEL.out, if_pos rfl, List.append_nil]; exact HIB.out.sel, HIB.out.row, HIB.out.each, HIB.out.tks, HIB.out.own, HIB.out.below⟩)
            clear HSEL k5
            go_wp2_with fail
            go_roundw
            case rel => exact ⟨k + 1, by go_num, hlt, lg, by omega, HN.out⟩
            case measure => simp [intOf]; omega
          | false =>
            go_wp2_with fail
            refine (cloneSk_any _ sk wb HSB.out HWO.out.2.2.2.2.2.1).mono ?_
            rintro e w7 ⟨⟨vr, rfl, ho⟩, hb7⟩
            obtain ⟨ra, rc, rfl⟩ := owns_slice ho
            have HO7 := Lib.hid (owns_base ho HIB.out.below.size)
            have HI7 := Lib.hid (HIB.out.to hb7)
            have HX7 := Lib.hid (HX.out.below hb7 HX.out.lt)
            have p5 := HX7.out.fz 5
            have k5 := HX7.out.cell 5
            clear ho hb7 t1 HIB HX HSB
            go_upto_region 21 with fail
            have HI8 := Lib.hid (HI7.out.set (i := 5) (u := .slice ra sk.length rc) HX7.out hwB HNE.out)
            have HO8 := Lib.hid (owns_kept_has HO7.out HX7.out (by decide) (grownBy_set w7 B 5 (.slice ra sk.length rc)))
            have HX8 := Lib.hid (show Has _ B #[.int .i64 x1, .int .i64 x2, .int .i64 x3, .int .i64 x4, .int .i64 x5, .slice ra sk.length rc] 38 from HX7.out.set 5 (.slice ra sk.length rc))
            generalize w7.setCell ⟨B, 5, none⟩ (.slice ra sk.length rc) = w8 at *
            have k0 := HX8.out.cell 0
            have k1 := HX8.out.cell 1
            have k2 := HX8.out.cell 2
            have k3 := HX8.out.cell 3
            have k4 := HX8.out.cell 4
            have k5 := HX8.out.cell 5
            have hw8 := HI8.out.below.size
            have HROW := Lib.hid HI8.out.row
            clear p5 HI7 HO7 HX7
            generalize hn : lg.length = n at *
            have HNN := Lib.hid hn
            clear hn
            go_wp2_with (at_builtin; go_must (refine append_one rfl _ _ 25 rfl w.heap.size 38 (.agg #[.int .i64 0, .int .i64 0, .int .i64 0, .int .i64 0, .int .i64 0, .slice none 0 0]) 6 64 Tryz.underlying25 infoWork rfl (by decide) w8 w8 (.slice la' n lc) n (lg.flatMap encWv) rfl HROW.out [.int .i64 x1, .int .i64 x2, .int .i64 x3, .int .i64 x4, .int .i64 x5, .slice ra sk.length rc] rfl rfl rfl (by intro u hu; simp only [List.mem_cons, List.not_mem_nil, or_false] at hu; rcases hu with rfl | rfl | rfl | rfl | rfl | rfl <;> rfl) (by omega) (by omega) hw8 (Below.refl _ _) ?_); intro v' w9 ho hb9 hg9 hn9)
            have HN := Lib.hid (show Lf w w9 Tk (.slice ua out.length uc) v' ws tk out (lg ++ [(⟨x1, x2, x3, x4, x5, sk⟩, .slice ra sk.length rc)]) (k + 1) from by
              have hgr : w8.grownBy w9 (Value.slice la' n lc).ownBlock := hg9
              refine ⟨by rw [List.map_append, HI8.out.sel, HSEL.out]; rfl, ?_, fun x hx => ?_, Has.kept_own HI8.out.tks HROW.out (by decide) hgr, owns_kept_own HI8.out.own HROW.out (by decide) hgr, HI8.out.below.trans (hb9.mono (Nat.le_refl _))⟩
              · rw [List.length_append, List.length_singleton, HNN.out, List.flatMap_append]
                simpa [encWv] using ho
              · rcases List.mem_append.1 hx with q | q
                · exact owns_kept_own (HI8.out.each x q) HROW.out (by decide) hgr
                · rw [List.mem_singleton.1 q]
                  exact owns_kept_own HO8.out HROW.out (by decide) hgr)
            obtain ⟨va, vc, rfl⟩ := owns_slice ho
            clear ho hb9 hg9 hn9 HSEL k0 k1 k2 k3 k4 k5
            go_wp2_with fail
            go_roundw
            case rel =>
              exact ⟨k + 1, by go_num, hlt, _, by rw [List.length_append, List.length_singleton, HNN.out]; omega, HN.out⟩
            case measure => simp [intOf]; omega
        · obtain rfl : k = ws.length := by omega
          have HH := Lib.hid (hds_of HI.out.own)
          have HV := Lib.hid (wks_of HI.out.row (fun x hx => skls_of (HI.out.each x hx) (by
            have : x.1 ∈ lg.map (·.1) := List.mem_map_of_mem hx
            rw [HI.out.sel] at this
            obtain ⟨j, hj, e⟩ := List.mem_map.1 this
            rw [← e]
            have hj2 := List.mem_range.1 (List.mem_filter.1 hj).1
            exact sk_bytes (HWF.out.one _ (wk_mem hj2)).2.2.2.2.2)))
          rw [HI.out.sel] at HV
          have HBF := Lib.hid HI.out.below
          clear HI
          go_wp2_with fail
          go_ret2
          exact ⟨out, _, _, _, rfl, HH.out, HV.out, HFIN.out, HBF.out⟩
end Go.Proofs.YtemikhnkjligdaaGreatDoor
