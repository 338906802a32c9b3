/- The walk of level's reader of one line, (*Policy).line: the line of a test. -/
import Derived.Test.YtfcjbjkciefbmaaDoorPoLn1
import Derived.Test.YtfcjbjkciefbmaaDoorOrd2
namespace Go.Proofs.YtfcjbjkciefbmaaDoor
open Go.RowKit

theorem infoTstR : (Tryd.prog.info? 51).map (fun i => (i.zero, i.size, i.bytes)) = some (some (.agg #[.int .i64 0, .int .i64 0, .int .i64 0, .string ⟨#[]⟩]), 4, 40) := by kernel_rfl
set_option maxRecDepth 100000 in
set_option maxHeartbeats 4000000 in
theorem line_tst (t : TstD) (B C U : Nat) (s : RdS) (ld : List LRec) (lc : Option LRec) (vp vl : Value) (w : World) (h : RdM w B C U s ld lc vp vl) (hx : RdOk s (.tst t)) (hE : Env w) (hB : B ≤ w.heap.size) :
    Calls Tryd.prog 16 #[.pointer (some ⟨C, 0, none⟩), .string (bs (lineT t)), .bool false] w (LinePost B C (s.push (.tst t)) w) := by
  have HE := Lib.hid hE
  obtain ⟨hto, hnk⟩ := hx.ok.tst t rfl
  have hfew := hx.few
  obtain ⟨c, hcur, hg0, ht8⟩ := hx.tst t rfl
  have hlen := lineT_short hto hnk
  have hsp := split_first whenW (restT t) (by decide) (by unfold lineT at hlen; rw [List.length_append, List.length_cons] at hlen; omega) w hE
  have HSP := Lib.hid (show Calls Tryd.prog 23 #[.string (bs (lineT t)), .string ⟨#[32]⟩] w _ from hsp)
  have HCP := Lib.hid (show ∀ W, Calls Tryd.prog 26 #[.string (bs (lineT t)), .string ⟨#[119, 104, 101, 110, 32]⟩] W fun e w' => e = .returned (.tuple #[.string (bs (restT t)), .bool true]) ∧ W = w' from fun W => (Tryd.strings_CutPrefix (bs (lineT t)) ⟨#[119, 104, 101, 110, 32]⟩ W).mono fun _ _ ⟨h1, h2⟩ => ⟨by
    rw [h1]
    have e : (bs (lineT t)).data.toList = [119, 104, 101, 110, 32] ++ restT t := by
      show lineT t = _
      simp [lineT, whenW]
    have e2 : (⟨#[119, 104, 101, 110, 32]⟩ : ByteArray).data.toList = [119, 104, 101, 110, 32] := rfl
    rw [e, e2]
    have e3 : Lib.trimPrefix ([119, 104, 101, 110, 32] ++ restT t) [119, 104, 101, 110, 32] = restT t := by
      simp [Lib.trimPrefix, Lib.hasPrefix]
    have e4 : Lib.hasPrefix ([119, 104, 101, 110, 32] ++ restT t) [119, 104, 101, 110, 32] = true := by
      simp [Lib.hasPrefix]
    rw [e3, e4]
    rfl, h2.symm⟩)
  have HRT := Lib.hid (fun W hW => readTest_ok t W hW hto hnk)
  have hcr := h.cr
  rw [hcur] at hcr
  obtain ⟨⟨c', vt, vg⟩, rfl, hcc⟩ := Option.map_eq_some_iff.1 hcr
  simp only at hcc
  subst hcc
  have hN20 : ld.length + 1 ≤ 20 := by
    have := h.len
    rw [row_last] at this
    omega
  obtain ⟨gx, cx, rfl, hgx1, -, -, -⟩ := h.lastAt
  have hvt := owns_slice (h.cts _ rfl)
  simp only at hvt
  obtain ⟨va, vcc, rfl⟩ := hvt
  have hvg := owns_slice (h.cgs _ rfl)
  simp only at hvg
  rw [hg0, List.length_nil] at hvg
  obtain ⟨ga, gcc, rfl⟩ := hvg
  have H := Lib.hid h
  clear h hx hE hsp hto hnk hfew hcur hlen hcr
  generalize bs (lineT t) = L at *
  generalize bs (restT t) = R at *
  go_enter Tryd.func16, Tryd.ntmps16
  go_wp2_with fail
  refine HSP.out.mono ?_
  rintro e w2 ⟨ws, rfl, hws, hb2, hw2⟩
  have HR2 := Lib.hid (H.out.below hb2)
  have HB2 := Lib.hid hb2
  have c0 : w2.cell? ⟨w.heap.size, 0, none⟩ = some (.string ⟨#[119, 104, 101, 110]⟩) := hw2.cell 0 (by simp)
  have k1 := HR2.out.box.cell 1
  have hBw2 : B ≤ w2.heap.size := Nat.le_trans hB hb2.size
  have hcz : decide (((ld.length : Nat) : Int) + 1 = 0) = false := decide_eq_false (by omega)
  have hcz2 : (((ld.length : Nat) : Int) + 1 == 0) = false := by simp; omega
  have w1m : IntKind.i64.wrap (((ld.length : Nat) : Int) + 1 - 1) = (ld.length : Int) := by rw [IntWalk.i64_in _ (by omega)]; omega
  have w1n : IntKind.i64.wrap ((ld.length : Nat) : Int) = (ld.length : Int) := IntWalk.i64_in _ (by omega)
  have hlt : ld.length < ld.length + 1 := Nat.lt_succ_self _
  have hltI : (ld.length : Int) < (ld.length : Int) + 1 := by omega
  have HW2 := Lib.hid (Has.lt hw2)
  clear hb2 hw2 H HSP
  generalize hNL : ld.length = N at *
  have HNL := Lib.hid hNL
  clear hNL
  go_upto_region 14 with fail
  go_quiet (fail)
  have HB3 := Lib.hid (below_up HB2.out (drewN_below (Below.refl w2.heap.size w2) nq) HB2.out.size)
  have HR3 := Lib.hid (HR2.out.below (drewN_below (Below.refl w2.heap.size w2) nq))
  have hBw3 : B ≤ (w2.drewN nq).heap.size := Nat.le_trans hB HB3.out.size
  clear HR2 HB2 k1 c0 hBw2
  generalize w2.drewN nq = w3 at *
  go_upto_region 15 with fail
  go_wp2_with fail
  refine (HCP.out w3).mono ?_
  rintro e w4 ⟨rfl, rfl⟩
  go_wp2_with fail
  refine (HRT.out w3 (HE.out.below HB3.out)).mono ?_
  rintro e w4 ⟨rfl, hb4⟩
  have HB4 := Lib.hid (below_up HB3.out hb4 HB3.out.size)
  have HR4 := Lib.hid (HR3.out.below hb4)
  clear hb4 HR3 HB3 HRT HCP hBw3
  go_upto_region 18 with fail
  have hDold := Lib.hid (show (Value.slice va c'.tests.length vcc).ownBlock ≠ some w4.heap.size from fun q => absurd ((HR4.out.cts _ rfl).lt _ q).2 (Nat.lt_irrefl _))
  obtain ⟨bx, bbl⟩ := box1 w4 #[.int .i64 t.fld, .int .i64 t.kind, .int .i64 t.num, .string t.text] 51
  have HB5 := Lib.hid (below_up HB4.out bbl HB4.out.size)
  have HR5 := Lib.hid (HR4.out.below bbl)
  have HX5 := Lib.hid bx
  clear bx bbl HB4 HR4
  generalize w4.alloc (.cells #[.int .i64 t.fld, .int .i64 t.kind, .int .i64 t.num, .string t.text] 51) = w5 at *
  generalize w4.heap.size = D at *
  have hbd := (Below.refl w5.heap.size w5).drew
  have HRD := Lib.hid (HR5.out.below hbd)
  have HBD := Lib.hid (HB5.out.drew)
  have HXD := Lib.hid (HX5.out.below hbd HX5.out.lt)
  clear hbd HR5 HB5 HX5
  obtain ⟨gy, cy, hvy, hgy1, hgy2, hcy, hfy⟩ := HRD.out.lastAt
  obtain ⟨hy1, hy2⟩ : gx = gy ∧ cx = cy := by cases hvy; exact ⟨rfl, rfl⟩
  subst hy1 hy2
  clear hvy
  have hk1 := hcy 1 (by omega)
  rw [HNL.out] at hk1
  have hS0 : (fun W : World => W.cell? ⟨gx, N * 3 + 1, none⟩ = some (.slice va c'.tests.length vcc) ∧ W.cell? ⟨D, 0, none⟩ = some (.int .i64 t.fld) ∧ W.cell? ⟨D, 1, none⟩ = some (.int .i64 t.kind) ∧ W.cell? ⟨D, 2, none⟩ = some (.int .i64 t.num) ∧ W.cell? ⟨D, 3, none⟩ = some (.string t.text)) w5.drew := ⟨hk1, HXD.out.cell 0, HXD.out.cell 1, HXD.out.cell 2, HXD.out.cell 3⟩
  refine anyT_start (S := fun W : World => W.cell? ⟨gx, N * 3 + 1, none⟩ = some (.slice va c'.tests.length vcc) ∧ W.cell? ⟨D, 0, none⟩ = some (.int .i64 t.fld) ∧ W.cell? ⟨D, 1, none⟩ = some (.int .i64 t.kind) ∧ W.cell? ⟨D, 2, none⟩ = some (.int .i64 t.num) ∧ W.cell? ⟨D, 3, none⟩ = some (.string t.text)) (t := 10) (by kernel_rfl) ?_
  clear hcy hk1 hfy
  obtain ⟨i0, hi0, hz0, hz1, hz2⟩ := info_parts infoTstR
  have hDN := Lib.hid (fun (_ : World) => hDold.out)
  have hDl : D < w5.drew.heap.size := HXD.out.lt
  have hUw : U ≤ w5.drew.heap.size := HRD.out.uw
  generalize w5.drew = wd at *
  refine takeT (i := 0) (v := ?_) rfl rfl (by kernel_rfl) (by kernel_rfl) (by kernel_rfl) (fun _ _ _ h => h) (by decide) (by kernel_rfl) (by kernel_rfl) ?_ hS0 ?_
  rotate_left
  · intro w hSw; (try dsimp only at hSw); go_simp; (try with_reducible rfl)
  simp only [List.setIfInBounds_toArray, List.set_cons_zero, List.set_cons_succ]
  refine takeT (i := 1) (v := ?_) rfl rfl (by kernel_rfl) (by kernel_rfl) (by kernel_rfl) (fun _ _ _ h => h) (by decide) (by kernel_rfl) (by kernel_rfl) ?_ hS0 ?_
  rotate_left
  · intro w hSw; (try dsimp only at hSw); go_simp; (try with_reducible rfl)
  simp only [List.setIfInBounds_toArray, List.set_cons_zero, List.set_cons_succ]
  refine takeT (i := 2) (v := ?_) rfl rfl (by kernel_rfl) (by kernel_rfl) (by kernel_rfl) (fun _ _ _ h => h) (by decide) (by kernel_rfl) (by kernel_rfl) ?_ hS0 ?_
  rotate_left
  · intro w hSw; (try dsimp only at hSw); go_simp; (try with_reducible rfl)
  simp only [List.setIfInBounds_toArray, List.set_cons_zero, List.set_cons_succ]
  refine takeT (i := 3) (v := ?_) rfl rfl (by kernel_rfl) (by kernel_rfl) (by kernel_rfl) (fun _ _ _ h => h) (by decide) (by kernel_rfl) (by kernel_rfl) ?_ hS0 ?_
  rotate_left
  · intro w hSw; (try dsimp only at hSw); go_simp; (try with_reducible rfl)
  simp only [List.setIfInBounds_toArray, List.set_cons_zero, List.set_cons_succ]
  refine takeT (i := 4) (v := ?_) rfl rfl (by kernel_rfl) (by kernel_rfl) (by kernel_rfl) (fun _ _ _ h => h) (by decide) (by kernel_rfl) (by kernel_rfl) ?_ hS0 ?_
  rotate_left
  · intro w hSw; (try dsimp only at hSw); go_simp; (try with_reducible rfl)
  simp only [List.setIfInBounds_toArray, List.set_cons_zero, List.set_cons_succ]
  refine takeT (i := 5) (v := ?_) rfl rfl (by kernel_rfl) (by kernel_rfl) (by kernel_rfl) (fun _ _ _ h => h) (by decide) (by kernel_rfl) (by kernel_rfl) ?_ hS0 ?_
  rotate_left
  · intro w hSw; (try dsimp only at hSw); go_simp; (try with_reducible rfl)
  simp only [List.setIfInBounds_toArray, List.set_cons_zero, List.set_cons_succ]
  refine oneT (i := 6) rfl (by kernel_rfl) (fun K hK => ?_)
  go_simp
  have hb6 : Below wd.heap.size wd (wd.alloc (.cells #[.int .i64 t.fld, .int .i64 t.kind, .int .i64 t.num, .string t.text] 51)) := (Below.refl _ _).alloc (Nat.le_refl _) _
  have hS6 : (fun W : World => W.cell? ⟨gx, N * 3 + 1, none⟩ = some (.slice va c'.tests.length vcc) ∧ W.cell? ⟨D, 0, none⟩ = some (.int .i64 t.fld) ∧ W.cell? ⟨D, 1, none⟩ = some (.int .i64 t.kind) ∧ W.cell? ⟨D, 2, none⟩ = some (.int .i64 t.num) ∧ W.cell? ⟨D, 3, none⟩ = some (.string t.text)) (wd.alloc (.cells #[.int .i64 t.fld, .int .i64 t.kind, .int .i64 t.num, .string t.text] 51)) := ⟨(below_cell hb6 hgy2).trans hS0.1, (below_cell hb6 hDl).trans hS0.2.1, (below_cell hb6 hDl).trans hS0.2.2.1, (below_cell hb6 hDl).trans hS0.2.2.2.1, (below_cell hb6 hDl).trans hS0.2.2.2.2⟩
  refine hK.out _ _ (fun _ => hS6) ?_
  clear hK
  try simp only [List.setIfInBounds_toArray, List.set_cons_zero, List.set_cons_succ, Act.put]
  refine oneT (i := 7) rfl (by kernel_rfl) (fun K hK => ?_)
  refine step_append_lies _ (by rfl) _ _ _ (by rfl) U 51 i0 (.agg #[.int .i64 0, .int .i64 0, .int .i64 0, .string ⟨#[]⟩]) 4 40 Tryd.underlying44 hi0 hz0 hz1 hz2 rfl (by omega) _ _ _ (by rfl) ((HRD.out.cts _ rfl).alloc _) ⟨wd.heap.size, 0, none⟩ 1 1 [.int .i64 t.fld, .int .i64 t.kind, .int .i64 t.num, .string t.text] (by rfl) rfl (World.news_of_block (heap_alloc_new _ _)) (by simp [Value.oneCell']) (by first | omega | (unfold maxLen; omega) | (simp only; omega) | (simp only; unfold maxLen; omega)) (by first | omega | (unfold maxLen; omega) | (simp only; omega) | (simp only; unfold maxLen; omega)) (by first | omega | (unfold maxLen; omega) | (simp only; omega) | (simp only; unfold maxLen; omega)) (by simp; omega) (wd.heap.size + 1) (by simp) ?_
  intro g' c2 w6 hown1 hgrow hat hlt'
  have hRA := HRD.out.below hb6
  have hxa := hRA.cts _ rfl
  have hx6 := (HXD.out.below hb6 hDl)
  have hRZ : RdM (w6.setCell ⟨gx, N * 3 + 1, none⟩ (.slice (some ⟨g', 0, none⟩) (c'.tests.length + 1) c2)) B C U (s.push (.tst t)) ld (some ({ c' with tests := c'.tests ++ [t] }, .slice (some ⟨g', 0, none⟩) (c'.tests.length + 1) c2, .slice ga 0 gcc)) vp (.slice (some ⟨gx, 0, none⟩) (ld.length + 1) cx) := by
    rw [← HNL.out]
    refine RdM.addTst ?_ (vt := .slice va c'.tests.length vcc) (w := wd.alloc (.cells #[.int .i64 t.fld, .int .i64 t.kind, .int .i64 t.num, .string t.text] 51)) hown1 hgrow
    have := hRA
    rw [← HNL.out] at this
    exact this
  obtain ⟨q1, -, q3, -, -, q6⟩ := hRA.grownT hgrow
  have hqr := q3
  rw [row_last, HNL.out] at hqr
  have hk1 : w6.cell? ⟨gx, N * 3 + 1, none⟩ = some (.slice va c'.tests.length vcc) := by
    rw [hqr.cellAt (N * 3 + 1) (by omega)]
    have e := flat_get ld (c', .slice va c'.tests.length vcc, .slice ga 0 gcc) 1
    rw [HNL.out] at e
    exact e
  have hf1 : w6.frozen? ⟨gx, N * 3 + 1, none⟩ = false := hqr.frozenAt _
  have hb7 : Below B w w6 := ((HBD.out.mono hB).alloc (by have := HRD.out.bu; omega) _).grown hgrow (by have := HRD.out.bu; simp; omega) (fun q hq => Nat.le_trans HRD.out.bu (hxa.lt q hq).1)
  have HP := Lib.hid (show LinePost B C (s.push (.tst t)) w (.returned (.bool true)) (w6.setCell ⟨gx, N * 3 + 1, none⟩ (.slice (some ⟨g', 0, none⟩) (c'.tests.length + 1) c2)) from ⟨rfl, hb7.setCell (p := ⟨gx, N * 3 + 1, none⟩) hgx1 _, _, _, _, _, _, hRZ⟩)
  have hm2 : (w6.setCell ⟨gx, N * 3 + 1, none⟩ (.slice (some ⟨g', 0, none⟩) (c'.tests.length + 1) c2)).cell? ⟨gx, N * 3 + 2, none⟩ = some (.slice ga 0 gcc) := by
    rw [set_off (by omega)]
    rw [hqr.cellAt (N * 3 + 2) (by omega)]
    have e := flat_get ld (c', .slice va c'.tests.length vcc, .slice ga 0 gcc) 2
    rw [HNL.out] at e
    exact e
  -- behind the append the box of the test that was read is not asked for again
  have hDne : (Value.slice va c'.tests.length vcc).ownBlock ≠ some D := hDN.out w6
  have hx7 : Has w6 D #[.int .i64 t.fld, .int .i64 t.kind, .int .i64 t.num, .string t.text] 51 := hx6.kept hgrow (fun q => hDne q.symm)
  have hS7 : (fun W : World => W.cell? ⟨gx, N * 3 + 1, none⟩ = some (.slice va c'.tests.length vcc) ∧ W.cell? ⟨D, 0, none⟩ = some (.int .i64 t.fld) ∧ W.cell? ⟨D, 1, none⟩ = some (.int .i64 t.kind) ∧ W.cell? ⟨D, 2, none⟩ = some (.int .i64 t.num) ∧ W.cell? ⟨D, 3, none⟩ = some (.string t.text)) w6 := ⟨hk1, hx7.cell 0, hx7.cell 1, hx7.cell 2, hx7.cell 3⟩
  refine hK.out _ _ (fun _ => hS7) ?_
  clear hK hown1 hgrow hat hlt' hRA hxa hx6 hRZ q1 q3 q6 hqr hb7 hx7 hDne hb6 hS6 hS0
  try simp only [List.setIfInBounds_toArray, List.set_cons_zero, List.set_cons_succ, Act.put]
  refine oneT (i := 8) rfl (by kernel_rfl) (fun K hK => ?_)
  go_simp
  refine hK.out _ _ (fun _ => hS7) ?_
  clear hK
  try simp only [List.setIfInBounds_toArray, List.set_cons_zero, List.set_cons_succ, Act.put]
  refine oneT (i := 9) rfl (by kernel_rfl) (fun K hK => ?_)
  go_simp
  refine hK.out _ _ (fun _ => hS7) ?_
  clear hK
  try simp only [List.setIfInBounds_toArray, List.set_cons_zero, List.set_cons_succ, Act.put]
  refine oneT (i := 10) rfl (by kernel_rfl) (fun K hK => ?_)
  go_simp
  refine hK.out _ _ (fun q => absurd rfl q) ?_
  refine doneT (by kernel_rfl) ?_ _
  clear hS7 hk1 hf1 HRD HBD HXD
  go_wp2_with fail
  go_ret
  exact HP.out
end Go.Proofs.YtfcjbjkciefbmaaDoor
