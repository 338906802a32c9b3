/- The walk of level.readTest on a test's own text. -/
import Derived.Test.YtfcjbjkciefbmaaDoorPoText
namespace Go.Proofs.YtfcjbjkciefbmaaDoor
open Go.RowKit

theorem results_cell_tmp_row {P : Program} {fn : Func} {p u : Tmp} {ty : TypeId} (h : fn.results = #[.cell p ty, .tmp u]) (tmps : Array Value) (w : World) (g : Nat) (t : TypeId) (cs : Array Value) (fr : Nat × Nat) (d : TypeDesc)
    (hp : tmps.getD p undef = .pointer (some ⟨g, 0, none⟩)) (hg : w.heap[g]? = some (.cells cs t fr))
    (hu : P.underlying ty = some d) (hd : (match d with | .struct _ | .array _ _ => true | _ => false) = true) (hi : (P.info? ty).map (·.size) = some cs.size) :
    (results fn tmps).run P w = .ok (.tuple #[.agg cs, tmps.getD u undef]) w := by
  rw [results_cell_tmp h, hp]
  simp [asAddr, run_loadVar_row w g t ty cs fr d hg hu hd hi]
theorem infoTst : (Tryd.prog.info? 51).map (·.size) = some 4 := by kernel_rfl
theorem kind_index (k : Nat) (h : k < 7) : Lib.idxOfS ((kindsL.map bs).take 7) (bs (kindW (k : Int))) = (k : Int) := by
  have : k = 0 ∨ k = 1 ∨ k = 2 ∨ k = 3 ∨ k = 4 ∨ k = 5 ∨ k = 6 := by omega
  rcases this with rfl | rfl | rfl | rfl | rfl | rfl | rfl <;> decide +kernel
theorem index_kind (k : Nat) (h : k < 7) (g : Nat) (w : World) (hw : WordsB w g kindsL) :
    Calls Tryd.prog 28 #[.slice (some ⟨g, 0, none⟩) 7 7, .string (bs (kindW (k : Int)))] w fun e w' => e = .returned (.int .i64 (k : Int)) ∧ w = w' := by
  have c := Tryd.slices_Index_string g 0 7 7 (kindsL.map bs) (bs (kindW (k : Int))) w (by decide) (by decide) (fun j hj => by
    have hj7 : j < kindsL.length := by simpa using hj
    rw [Nat.zero_add, hw.cell j hj7]
    simp [List.getD, hj7])
  rw [kind_index k h] at c
  exact c.mono fun _ _ ⟨h1, h2⟩ => ⟨h1, h2.symm⟩

/-- what is cut off behind the kind's word -/
def moreT (t : TstD) : Bool := if t.kind = 0 then false else true
def tailT (t : TstD) : List UInt8 := if t.kind = 0 then [] else valT t
theorem cut_end {t : TstD} : Lib.cut (endT t) [32] = (kindW t.kind, tailT t, moreT t) := by
  unfold endT tailT moreT
  split
  · exact cut_none 32 _ (kindW_no _ _ (.inr rfl))
  · exact cut_at 32 _ _ (kindW_no _ _ (.inr rfl))
theorem cut_rest (t : TstD) : Lib.cut (restT t) [32] = (Lib.itoa t.fld, endT t, true) := cut_at 32 _ _ (itoa_clean _ _ (.inr rfl))

set_option maxRecDepth 100000 in
set_option maxHeartbeats 4000000 in
theorem readTest_ok (t : TstD) (w : World) (hE : Env w) (h : TstOne t) (hn : NumOk t) :
    Calls Tryd.prog 27 #[.string (bs (restT t))] w fun e w' => e = .returned (.tuple #[.agg #[.int .i64 t.fld, .int .i64 t.kind, .int .i64 t.num, .string t.text], .bool true]) ∧ Below w.heap.size w w' := by
  have hlen := lineT_short h hn
  have hrl : (restT t).length ≤ 240 := by
    unfold lineT at hlen
    rw [List.length_append, List.length_cons] at hlen
    omega
  have hel : (endT t).length ≤ 240 := by
    unfold restT at hrl
    rw [List.length_append, List.length_cons] at hrl
    omega
  have HC1 := Lib.hid (fun W hW => cut_any (restT t) 32 (by omega) W hW)
  have HC2 := Lib.hid (fun W hW => cut_any (endT t) 32 (by omega) W hW)
  rw [cut_rest] at HC1
  rw [cut_end] at HC2
  simp only at HC1 HC2
  have hki := h.kind.1
  have hfl := h.fld
  have hnn : t.num.natAbs < 10 ^ 18 := hn
  have hform := h.form
  have HT0 := Lib.hid (show t.kind = 0 → moreT t = false ∧ t.num = 0 ∧ t.text = ⟨#[]⟩ from fun e => ⟨by unfold moreT; rw [if_pos e], by rcases hform.1 with g | g <;> omega, by
    have : t.text.size = 0 := by rcases hform.2 with g | g <;> omega
    exact bs_inj (List.eq_nil_of_length_eq_zero (by rw [Array.length_toList]; exact this))⟩)
  have HT3 := Lib.hid (show t.kind = 3 → moreT t = true ∧ t.num = 0 ∧ bs (tailT t) = t.text from fun e => ⟨by unfold moreT; rw [if_neg (by omega)], by rcases hform.1 with g | g <;> omega, by
    unfold tailT valT
    rw [if_neg (by omega), if_pos e]
    exact bs_inj rfl⟩)
  have HTN := Lib.hid (show t.kind ≠ 0 → t.kind ≠ 3 → moreT t = true ∧ t.text = ⟨#[]⟩ ∧ tailT t = Lib.itoa t.num from fun e e2 => ⟨by unfold moreT; rw [if_neg e], by
    have : t.text.size = 0 := by rcases hform.2 with g | g <;> omega
    exact bs_inj (List.eq_nil_of_length_eq_zero (by rw [Array.length_toList]; exact this)), by
    unfold tailT valT
    rw [if_neg e, if_neg e2]⟩)
  have HNF := Lib.hid (fun W hW => number_lev t.fld 17 (by have : (10 : Nat) ^ (17 + 1) = 1000000000000000000 := by decide
                                                           omega) (by decide) W hW)
  have HNN := Lib.hid (fun W hW => number_lev t.num 17 hnn (by decide) W hW)
  have e18 : (((17 + 1 : Nat) : Int)) = 18 := rfl
  rw [e18] at HNF HNN
  clear hlen hrl hel hfl hnn hform hn h e18
  generalize moreT t = more at *
  generalize tailT t = tail at *
  generalize bs (restT t) = R at *
  generalize bs (endT t) = E at *
  generalize bs (Lib.itoa t.fld) = F at *
  obtain ⟨fld, kind, num, text⟩ := t
  simp only at *
  obtain ⟨k, rfl⟩ := Int.eq_ofNat_of_zero_le hki.1
  have hk7 : k < 7 := by omega
  have HIX := Lib.hid (fun g W hW => index_kind k hk7 g W hW)
  generalize bs (kindW (k : Int)) = KW at *
  have hbx := box1 w #[.int .i64 0, .int .i64 0, .int .i64 0, .string ⟨#[]⟩] 51
  have HX := Lib.hid hbx.1
  have HB := Lib.hid hbx.2
  have HE := Lib.hid hE
  clear hbx hE
  go_enter Tryd.func27, Tryd.ntmps27
  go_upto_region 1 with fail
  generalize w.alloc (.cells #[.int .i64 0, .int .i64 0, .int .i64 0, .string ⟨#[]⟩] 51) = w2 at *
  go_wp2_with fail
  refine (HC1.out w2 (HE.out.below HB.out)).mono ?_
  rintro e w3 ⟨rfl, hb3⟩
  have HB3 := Lib.hid (below_up HB.out hb3 HB.out.size)
  have HX3 := Lib.hid (HX.out.below hb3 HX.out.lt)
  clear hb3 HC1 HX HB
  go_wp2_with fail
  refine (HC2.out w3 (HE.out.below HB3.out)).mono ?_
  rintro e w4 ⟨rfl, hb4⟩
  have HB4 := Lib.hid (below_up HB3.out hb4 HB3.out.size)
  have HX4 := Lib.hid (HX3.out.below hb4 HX3.out.lt)
  clear hb4 HC2 HX3 HB3
  go_wp2_with fail
  refine (kindWords_any w4).mono ?_
  rintro e w5 ⟨rfl, hb5, hw5⟩
  have HB5 := Lib.hid (below_up HB4.out hb5 HB4.out.size)
  have HX5 := Lib.hid (HX4.out.below hb5 HX4.out.lt)
  have HW5 := Lib.hid hw5
  clear hb5 hw5 HX4 HB4
  generalize w4.heap.size = G at *
  go_wp2_with fail
  refine (HIX.out G w5 HW5.out).mono ?_
  rintro e w6 ⟨rfl, rfl⟩
  clear HIX HW5
  go_upto_region 4 with fail
  obtain ⟨bx, bbl⟩ := box1 w5 #[.int .i64 0, .int .i64 (k : Int), .int .i64 0, .string ⟨#[]⟩] 51
  have HB6 := Lib.hid (below_up HB5.out bbl HB5.out.size)
  have HX6 := Lib.hid (HX5.out.below bbl HX5.out.lt)
  have HY6 := Lib.hid bx
  have hAD : w.heap.size < w5.heap.size := HX5.out.lt
  clear bx bbl HB5 HX5
  generalize w5.alloc (.cells #[.int .i64 0, .int .i64 (k : Int), .int .i64 0, .string ⟨#[]⟩] 51) = w6 at *
  generalize w5.heap.size = D at *
  go_wp2_with fail
  refine (HNF.out w6 (HE.out.below HB6.out)).mono ?_
  rintro e w7 ⟨rfl, hb7⟩
  have HB7 := Lib.hid (below_up HB6.out hb7 HB6.out.size)
  have HX7 := Lib.hid (HX6.out.below hb7 HX6.out.lt)
  have HY7 := Lib.hid (HY6.out.below hb7 HY6.out.lt)
  clear hb7 HNF HB6 HX6 HY6
  have d0 := HY7.out.cell 0
  have d1 := HY7.out.cell 1
  have d2 := HY7.out.cell 2
  have d3 := HY7.out.cell 3
  have g0 := HY7.out.fz 0
  have g1 := HY7.out.fz 1
  have g2 := HY7.out.fz 2
  have g3 := HY7.out.fz 3
  have hDne : w.heap.size ≠ D := by omega
  go_upto_region 6 with fail
  have HB8 := Lib.hid (HB7.out.setCell (p := ⟨D, 0, none⟩) (Nat.le_of_lt hAD) (.int .i64 fld))
  have HX8 := Lib.hid (HX7.out.set_other 0 (.int .i64 fld) hDne)
  have HY8 := Lib.hid (show Has _ D #[.int .i64 fld, .int .i64 (k : Int), .int .i64 0, .string ⟨#[]⟩] 51 from HY7.out.set 0 (.int .i64 fld))
  clear d0 d1 d2 d3 g0 g1 g2 g3 HB7 HX7 HY7
  generalize w7.setCell ⟨D, 0, none⟩ (.int .i64 fld) = w8 at *
  have d0 := HY8.out.cell 0
  have d1 := HY8.out.cell 1
  have d2 := HY8.out.cell 2
  have d3 := HY8.out.cell 3
  have g0 := HY8.out.fz 0
  have g1 := HY8.out.fz 1
  have g2 := HY8.out.fz 2
  have g3 := HY8.out.fz 3
  have qk : decide ((k : Int) < 0) = false := decide_eq_false (by omega)
  go_upto_region 8 with fail
  have HFIN := Lib.hid (fun (wz : World) (hX : Has wz w.heap.size #[.int .i64 0, .int .i64 0, .int .i64 0, .string ⟨#[]⟩] 51) (hB : Below w.heap.size w wz) (a0 a1 a2 a3 : Value) =>
    (⟨(((hX.set 0 a0).set 1 a1).set 2 a2).set 3 a3, (((hB.setCell (p := ⟨w.heap.size, 0, none⟩) (Nat.le_refl _) a0).setCell (p := ⟨w.heap.size, 1, none⟩) (Nat.le_refl _) a1).setCell (p := ⟨w.heap.size, 2, none⟩) (Nat.le_refl _) a2).setCell (p := ⟨w.heap.size, 3, none⟩) (Nat.le_refl _) a3⟩ :
      Has ((((wz.setCell ⟨w.heap.size, 0, none⟩ a0).setCell ⟨w.heap.size, 1, none⟩ a1).setCell ⟨w.heap.size, 2, none⟩ a2).setCell ⟨w.heap.size, 3, none⟩ a3) w.heap.size #[a0, a1, a2, a3] 51 ∧
      Below w.heap.size w ((((wz.setCell ⟨w.heap.size, 0, none⟩ a0).setCell ⟨w.heap.size, 1, none⟩ a1).setCell ⟨w.heap.size, 2, none⟩ a2).setCell ⟨w.heap.size, 3, none⟩ a3)))
  by_cases h0 : k = 0
  · subst h0
    obtain ⟨rfl, rfl, rfl⟩ := HT0.out rfl
    have x0 := HX8.out.cell 0
    have x1 := HX8.out.cell 1
    have x2 := HX8.out.cell 2
    have x3 := HX8.out.cell 3
    have y0 := HX8.out.fz 0
    have y1 := HX8.out.fz 1
    have y2 := HX8.out.fz 2
    have y3 := HX8.out.fz 3
    have HF := Lib.hid (HFIN.out w8 HX8.out HB8.out (.int .i64 fld) (.int .i64 0) (.int .i64 0) (.string ⟨#[]⟩))
    clear HFIN HT0 HT3 HTN HNN
    go_wp2_with fail
    try simp only [Exit.inBlock, Exit.then]
    refine bodyPost_ret (results_cell_tmp_row rfl _ _ w.heap.size _ _ (0, 0) _ rfl HF.out.1 Tryd.underlying51 rfl infoTst) rfl ?_
    exact ⟨rfl, HF.out.2⟩
  by_cases h3 : k = 3
  · subst h3
    obtain ⟨rfl, rfl, hv⟩ := HT3.out rfl
    rw [hv] at *
    clear hv HT0 HT3 HTN HNN
    go_upto_region 13 with fail
    have HB9 := Lib.hid (HB8.out.setCell (p := ⟨D, 3, none⟩) (Nat.le_of_lt hAD) (.string text))
    have HX9 := Lib.hid (HX8.out.set_other 3 (.string text) hDne)
    have HY9 := Lib.hid (show Has _ D #[.int .i64 fld, .int .i64 ((3 : Nat) : Int), .int .i64 0, .string text] 51 from HY8.out.set 3 (.string text))
    clear d0 d1 d2 d3 g0 g1 g2 g3 HB8 HX8 HY8
    generalize w8.setCell ⟨D, 3, none⟩ (.string text) = w9 at *
    have d0 := HY9.out.cell 0
    have d1 := HY9.out.cell 1
    have d2 := HY9.out.cell 2
    have d3 := HY9.out.cell 3
    have x0 := HX9.out.cell 0
    have x1 := HX9.out.cell 1
    have x2 := HX9.out.cell 2
    have x3 := HX9.out.cell 3
    have y0 := HX9.out.fz 0
    have y1 := HX9.out.fz 1
    have y2 := HX9.out.fz 2
    have y3 := HX9.out.fz 3
    have HF := Lib.hid (HFIN.out w9 HX9.out HB9.out (.int .i64 fld) (.int .i64 3) (.int .i64 0) (.string text))
    clear HFIN
    go_wp2_with fail
    try simp only [Exit.inBlock, Exit.then]
    refine bodyPost_ret (results_cell_tmp_row rfl _ _ w.heap.size _ _ (0, 0) _ rfl HF.out.1 Tryd.underlying51 rfl infoTst) rfl ?_
    exact ⟨rfl, HF.out.2⟩
  · obtain ⟨rfl, rfl, rfl⟩ := HTN.out (by omega) (by omega)
    have q0 : ((k : Int) == 0) = false := by simp; omega
    have q3 : ((k : Int) == 3) = false := by simp; omega
    clear HT0 HT3 HTN
    generalize bs (Lib.itoa num) = V at *
    go_wp2_with fail
    refine (HNN.out w8 (HE.out.below HB8.out)).mono ?_
    rintro e w9 ⟨rfl, hb9⟩
    have HB9 := Lib.hid (below_up HB8.out hb9 HB8.out.size)
    have HX9 := Lib.hid (HX8.out.below hb9 HX8.out.lt)
    have HY9 := Lib.hid (HY8.out.below hb9 HY8.out.lt)
    clear d0 d1 d2 d3 g0 g1 g2 g3 HB8 HX8 HY8 hb9 HNN
    have d0 := HY9.out.cell 0
    have d1 := HY9.out.cell 1
    have d2 := HY9.out.cell 2
    have d3 := HY9.out.cell 3
    have g0 := HY9.out.fz 0
    have g1 := HY9.out.fz 1
    have g2 := HY9.out.fz 2
    have g3 := HY9.out.fz 3
    go_upto_region 15 with fail
    have HB10 := Lib.hid (HB9.out.setCell (p := ⟨D, 2, none⟩) (Nat.le_of_lt hAD) (.int .i64 num))
    have HX10 := Lib.hid (HX9.out.set_other 2 (.int .i64 num) hDne)
    have HY10 := Lib.hid (show Has _ D #[.int .i64 fld, .int .i64 (k : Int), .int .i64 num, .string ⟨#[]⟩] 51 from HY9.out.set 2 (.int .i64 num))
    clear d0 d1 d2 d3 g0 g1 g2 g3 HB9 HX9 HY9
    generalize w9.setCell ⟨D, 2, none⟩ (.int .i64 num) = wt at *
    have d0 := HY10.out.cell 0
    have d1 := HY10.out.cell 1
    have d2 := HY10.out.cell 2
    have d3 := HY10.out.cell 3
    have x0 := HX10.out.cell 0
    have x1 := HX10.out.cell 1
    have x2 := HX10.out.cell 2
    have x3 := HX10.out.cell 3
    have y0 := HX10.out.fz 0
    have y1 := HX10.out.fz 1
    have y2 := HX10.out.fz 2
    have y3 := HX10.out.fz 3
    have HF := Lib.hid (HFIN.out wt HX10.out HB10.out (.int .i64 fld) (.int .i64 (k : Int)) (.int .i64 num) (.string ⟨#[]⟩))
    clear HFIN
    go_wp2_with fail
    try simp only [Exit.inBlock, Exit.then]
    refine bodyPost_ret (results_cell_tmp_row rfl _ _ w.heap.size _ _ (0, 0) _ rfl HF.out.1 Tryd.underlying51 rfl infoTst) rfl ?_
    exact ⟨rfl, HF.out.2⟩
end Go.Proofs.YtfcjbjkciefbmaaDoor
