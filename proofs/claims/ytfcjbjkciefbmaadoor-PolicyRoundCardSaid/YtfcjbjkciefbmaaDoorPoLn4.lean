/- The walk of level's reader of one line, (*Policy).line: the line of a target. -/
import Derived.Test.YtfcjbjkciefbmaaDoorPoLn1
import Derived.Test.YtfcjbjkciefbmaaDoorOrd2
namespace Go.Proofs.YtfcjbjkciefbmaaDoor
open Go.RowKit

theorem infoTgtR : (Tryd.prog.info? 55).map (fun i => (i.zero, i.size, i.bytes)) = some (some (.agg #[.int .i64 0, .int .i64 0, .int .i64 0]), 3, 24) := by kernel_rfl
theorem tgt_index (m : Nat) (h : m < 3) : Lib.idxOfS ((tgtsL.map bs).take 3) (bs (tgtsL.getD m [])) = (m : Int) := by
  have : m = 0 ∨ m = 1 ∨ m = 2 := by omega
  rcases this with rfl | rfl | rfl <;> decide +kernel
theorem index_tgt (m : Nat) (h : m < 3) (g : Nat) (w : World) (hw : WordsB w g tgtsL) :
    Calls Tryd.prog 28 #[.slice (some ⟨g, 0, none⟩) 3 3, .string (bs (tgtsL.getD m []))] w fun e w' => e = .returned (.int .i64 (m : Int)) ∧ w = w' := by
  have c := Tryd.slices_Index_string g 0 3 3 (tgtsL.map bs) (bs (tgtsL.getD m [])) w (by decide) (by decide) (fun j hj => by
    have hj7 : j < tgtsL.length := by simpa using hj
    rw [Nat.zero_add, hw.cell j hj7]
    simp [List.getD, hj7])
  rw [tgt_index m h] at c
  exact c.mono fun _ _ ⟨h1, h2⟩ => ⟨h1, h2.symm⟩
theorem no_when (m : Nat) (h : m < 3) (r : List UInt8) : Lib.hasPrefix (tgtsL.getD m [] ++ r) [119, 104, 101, 110, 32] = false := by
  have : m = 0 ∨ m = 1 ∨ m = 2 := by omega
  rcases this with rfl | rfl | rfl <;> simp [tgtsL, Lib.hasPrefix, List.isPrefixOf]
set_option maxRecDepth 100000 in
set_option maxHeartbeats 4000000 in
theorem line_tgt (m : Nat) (x2 x3 : Int) (B C U : Nat) (s : RdS) (ld : List LRec) (lc : Option LRec) (vp vl : Value) (w : World) (h : RdM w B C U s ld lc vp vl) (hx : RdOk s (.tgt ((m : Int) + 1, x2, x3))) (hE : Env w) (hB : B ≤ w.heap.size) :
    Calls Tryd.prog 16 #[.pointer (some ⟨C, 0, none⟩), .string (bs (lineG ((m : Int) + 1, x2, x3))), .bool false] w (LinePost B C (s.push (.tgt ((m : Int) + 1, x2, x3))) w) := by
  have HE := Lib.hid hE
  have hto := hx.ok.tgt _ rfl
  have hlen : (lineG ((m : Int) + 1, x2, x3)).length ≤ 240 := line_short2 hx.ok
  unfold TgtOne at hto
  simp only at hto
  have hfew := hx.few
  have hm3 : m < 3 := by omega
  obtain ⟨c, hcur, hg3, ht8⟩ := hx.tgt _ rfl
  have etw : tgtW ((m : Int) + 1) = tgtsL.getD m [] := by
    unfold tgtW
    rw [show ((m : Int) + 1).toNat - 1 = m by omega]
  have hlg : lineG ((m : Int) + 1, x2, x3) = Lib.join [tgtsL.getD m [], Lib.itoa x2, Lib.itoa x3] [32] := by
    unfold lineG
    rw [etw]
  rw [hlg] at hlen ⊢
  have hcl := wordsG_clean ((m : Int) + 1, x2, x3) 32 (.inr rfl)
  rw [etw] at hcl
  have hsp := split_words (tgtsL.getD m []) [Lib.itoa x2, Lib.itoa x3] hcl (by omega) w hE
  have HSP := Lib.hid hsp
  have HCP := Lib.hid (show ∀ W, Calls Tryd.prog 26 #[.string (bs (Lib.join [tgtsL.getD m [], Lib.itoa x2, Lib.itoa x3] [32])), .string ⟨#[119, 104, 101, 110, 32]⟩] W fun e w' => (∃ y, e = .returned (.tuple #[.string y, .bool false])) ∧ W = w' from fun W => by
    have hc := Tryd.strings_CutPrefix (bs (Lib.join [tgtsL.getD m [], Lib.itoa x2, Lib.itoa x3] [32])) ⟨#[119, 104, 101, 110, 32]⟩ W
    have e3 : Lib.hasPrefix (bs (Lib.join [tgtsL.getD m [], Lib.itoa x2, Lib.itoa x3] [32])).data.toList (⟨#[119, 104, 101, 110, 32]⟩ : ByteArray).data.toList = false := by
      have e : (bs (Lib.join [tgtsL.getD m [], Lib.itoa x2, Lib.itoa x3] [32])).data.toList = tgtsL.getD m [] ++ Lib.joinTail [32] [Lib.itoa x2, Lib.itoa x3] := Lib.join_cons _ _ _
      have e2 : (⟨#[119, 104, 101, 110, 32]⟩ : ByteArray).data.toList = [119, 104, 101, 110, 32] := rfl
      rw [e, e2, no_when m hm3]
    rw [e3] at hc
    exact hc.mono fun _ _ ⟨h1, h2⟩ => ⟨⟨_, h1⟩, h2.symm⟩)
  have HNM := Lib.hid (fun v W hW hs => numbers_lev [x2, x3] 17 (by decide) (fun n hn => small18 (by
    rcases List.mem_cons.1 hn with rfl | hn
    · omega
    · rw [List.mem_singleton.1 hn]; omega)) (by simp) v W hW hs)
  rw [show ((17 + 1 : Nat) : Int) = 18 from rfl] at HNM
  have hcr := h.cr
  rw [hcur] at hcr
  obtain ⟨⟨c', vt, vg⟩, rfl, hcc⟩ := Option.map_eq_some_iff.1 hcr
  simp only at hcc
  subst hcc
  have hN20 : ld.length + 1 ≤ 20 := by
    have := h.len
    rw [row_last] at this
    omega
  obtain ⟨gx, cx, rfl, hgx1, -, -, -⟩ := h.lastAt
  have hvg := owns_slice (h.cgs _ rfl)
  simp only at hvg
  obtain ⟨ga, gcc, rfl⟩ := hvg
  have H := Lib.hid h
  have HIX := Lib.hid (fun g W hW => index_tgt m hm3 g W hW)
  have q1 : ((bs (tgtsL.getD m [])).toList == [112, 97, 117, 115, 101]) = false := by
    have : m = 0 ∨ m = 1 ∨ m = 2 := by omega
    rcases this with rfl | rfl | rfl <;> (rw [ByteArray.toList_eq]; decide +kernel)
  have q2 : ((bs (tgtsL.getD m [])).toList == [108, 101, 118, 101, 108]) = false := by
    have : m = 0 ∨ m = 1 ∨ m = 2 := by omega
    rcases this with rfl | rfl | rfl <;> (rw [ByteArray.toList_eq]; decide +kernel)
  have HGD := Lib.hid (show bs ([tgtsL.getD m [], Lib.itoa x2, Lib.itoa x3].getD 0 []) = bs (tgtsL.getD m []) from rfl)
  clear h hx hE hsp hfew hcur hlen hcr hcl hlg etw
  generalize bs (Lib.join [tgtsL.getD m [], Lib.itoa x2, Lib.itoa x3] [32]) = L at *
  generalize hWM : bs (tgtsL.getD m []) = WM at *
  clear hWM
  go_enter Tryd.func16, Tryd.ntmps16
  go_wp2_with fail
  refine HSP.out.mono ?_
  rintro e w2 ⟨rfl, hb2, hw2⟩
  have HR2 := Lib.hid (H.out.below hb2)
  have HB2 := Lib.hid hb2
  have c0 : w2.cell? ⟨w.heap.size, 0, none⟩ = some (.string WM) := by
    have := hw2.cell 0 (by simp)
    rw [HGD.out] at this
    exact this
  have hcut := words_cut hw2 rfl
  rw [if_neg (by simp)] at hcut
  have HCUT := Lib.hid hcut
  have k1 := HR2.out.box.cell 1
  have hBw2 : B ≤ w2.heap.size := Nat.le_trans hB hb2.size
  have hWl : w.heap.size < w2.heap.size := Has.lt hw2
  have hcz : decide (((ld.length : Nat) : Int) + 1 = 0) = false := decide_eq_false (by omega)
  have hcz2 : (((ld.length : Nat) : Int) + 1 == 0) = false := by simp; omega
  have w1m : IntKind.i64.wrap (((ld.length : Nat) : Int) + 1 - 1) = (ld.length : Int) := by rw [IntWalk.i64_in _ (by omega)]; omega
  have w1n : IntKind.i64.wrap ((ld.length : Nat) : Int) = (ld.length : Int) := IntWalk.i64_in _ (by omega)
  have hlt : ld.length < ld.length + 1 := Nat.lt_succ_self _
  have hltI : (ld.length : Int) < (ld.length : Int) + 1 := by omega
  clear hb2 hw2 H HSP hcut HGD
  generalize hNL : ld.length = N at *
  have HNL := Lib.hid hNL
  clear hNL
  generalize hWb : w.heap.size = Wb at *
  have HWB := Lib.hid hWb
  clear hWb
  go_upto_region 14 with fail
  go_quiet (fail)
  have hbq := drewN_below (Below.refl w2.heap.size w2) nq
  have HB3 := Lib.hid (show Below w.heap.size w (w2.drewN nq) from by
    have h := HB2.out
    rw [← HWB.out] at h
    exact below_up h hbq h.size)
  have HR3 := Lib.hid (HR2.out.below hbq)
  have HCUT3 := Lib.hid (SliceAt.stable strR_stable HCUT.out hbq)
  have c0 : (w2.drewN nq).cell? ⟨Wb, 0, none⟩ = some (.string WM) := c0
  have hWl : Wb < (w2.drewN nq).heap.size := hWl
  clear HR2 HB2 k1 hBw2 hbq HCUT
  generalize w2.drewN nq = w3 at *
  go_upto_region 15 with fail
  go_wp2_with fail
  refine (HCP.out w3).mono ?_
  rintro e w4 ⟨⟨y, rfl⟩, rfl⟩
  go_upto_region 20 with fail
  have hbd := (Below.refl w3.heap.size w3).drew
  have HRD := Lib.hid (HR3.out.below hbd)
  have HBD := Lib.hid (HB3.out.drew)
  have HCUTD := Lib.hid (SliceAt.stable strR_stable HCUT3.out hbd)
  have hS0 : (fun W : World => W.cell? ⟨Wb, 0, none⟩ = some (.string WM)) w3.drew := c0
  have hWd : Wb < w3.drew.heap.size := hWl
  refine anyT_start (S := fun W : World => W.cell? ⟨Wb, 0, none⟩ = some (.string WM)) (t := 6) (by kernel_rfl) ?_
  clear hbd HR3 HB3 HCUT3 c0 hWl
  generalize w3.drew = wd at *
  refine takeS (i := 1) (v := ?_) rfl rfl (by kernel_rfl) (by kernel_rfl) (by kernel_rfl) (fun _ _ _ h => h) (by decide) (by kernel_rfl) ?_ hS0 ?_
  rotate_left
  · intro w hSw; (try dsimp only at hSw); go_simp; (try with_reducible rfl)
  simp only [List.setIfInBounds_toArray, List.set_cons_zero, List.set_cons_succ]
  refine takeS (i := 2) (v := ?_) rfl rfl (by kernel_rfl) (by kernel_rfl) (by kernel_rfl) (fun _ _ _ h => h) (by decide) (by kernel_rfl) ?_ hS0 ?_
  rotate_left
  · intro w hSw; (try dsimp only at hSw); go_simp; (try with_reducible rfl)
  simp only [List.setIfInBounds_toArray, List.set_cons_zero, List.set_cons_succ]
  refine takeS (i := 3) (v := ?_) rfl rfl (by kernel_rfl) (by kernel_rfl) (by kernel_rfl) (fun _ _ _ h => h) (by decide) (by kernel_rfl) ?_ hS0 ?_
  rotate_left
  · intro w hSw; (try dsimp only at hSw); go_simp; (try with_reducible rfl)
  simp only [List.setIfInBounds_toArray, List.set_cons_zero, List.set_cons_succ]
  refine oneT (i := 0) rfl (by kernel_rfl) (fun K hK => ?_)
  go_simp
  refine (targetWords_any wd).mono ?_
  rintro e we ⟨rfl, hb4, hw4⟩
  have HRE := Lib.hid (HRD.out.below hb4)
  have HBE := Lib.hid (below_up HBD.out hb4 HBD.out.size)
  have HCUTE := Lib.hid (SliceAt.stable strR_stable HCUTD.out hb4)
  have HWE := Lib.hid hw4
  have hS1 : (fun W : World => W.cell? ⟨Wb, 0, none⟩ = some (.string WM)) we := (below_cell hb4 hWd).trans hS0
  have hWe : Wb < we.heap.size := Nat.lt_of_lt_of_le hWd hb4.size
  clear hb4 hw4 HRD HBD HCUTD
  refine hK.out _ _ (fun _ => hS1) ?_
  clear hK
  try simp only [List.setIfInBounds_toArray, List.set_cons_zero, List.set_cons_succ, Act.put]
  refine oneT (i := 4) rfl (by kernel_rfl) (fun K hK => ?_)
  go_simp
  refine (HIX.out _ we HWE.out).mono ?_
  rintro e wf ⟨rfl, rfl⟩
  refine hK.out _ _ (fun _ => hS1) ?_
  clear hK
  try simp only [List.setIfInBounds_toArray, List.set_cons_zero, List.set_cons_succ, Act.put]
  refine oneT (i := 5) rfl (by kernel_rfl) (fun K hK => ?_)
  go_simp
  refine hK.out _ _ (fun _ => hS1) ?_
  refine doneT (by kernel_rfl) ?_ _
  have c5 := hS1
  clear hS0 hS1
  have HR5 := HRE
  have HB5 := HBE
  have HCUT5 := HCUTE
  clear HRE HBE HCUTE HWE hWd
  generalize we = w5 at *
  go_upto_region 21 with fail
  have hs : SliceAt 1 strR w5 (.slice (some ⟨Wb, 1, none⟩) 2 2) ([x2, x3].map fun n => bs (Lib.itoa n)) := HCUT5.out
  have HNN := Lib.hid (HNM.out _ _ (HE.out.below HB5.out) hs)
  clear HNM HCUT5 hs c5
  go_wp2_with fail
  refine HNN.out.mono ?_
  rintro e w6 ⟨⟨vn, rfl, hown⟩, hb6⟩
  have HB6 := Lib.hid (below_up HB5.out hb6 HB5.out.size)
  have HR6 := Lib.hid (HR5.out.below hb6)
  obtain ⟨q, cq, rfl, hq1, hq2⟩ := hown.form (by simp)
  have HON := Lib.hid hown
  have n0 := hown.cellAt 0 (by simp)
  have n1 := hown.cellAt 1 (by simp)
  simp only [List.map_cons, List.map_nil, List.getElem?_cons_zero, List.getElem?_cons_succ] at n0 n1
  have qm : decide ((m : Int) < 0) = false := decide_eq_false (by omega)
  clear hb6 hown HR5 HB5 HNN
  go_upto_region 24 with fail
  have hbd := (Below.refl w6.heap.size w6).drew
  have HRD := Lib.hid (HR6.out.below hbd)
  have HBD := Lib.hid (HB6.out.drew)
  have HOD := Lib.hid (owns_below HON.out hbd)
  clear hbd HR6 HB6 HON
  obtain ⟨gy, cy, hvy, hgy1, hgy2, hcy, hfy⟩ := HRD.out.lastAt
  obtain ⟨hy1, hy2⟩ : gx = gy ∧ cx = cy := by cases hvy; exact ⟨rfl, rfl⟩
  subst hy1 hy2
  clear hvy
  have hk2 := hcy 2 (by omega)
  rw [HNL.out] at hk2
  have hS0 : (fun W : World => W.cell? ⟨gx, N * 3 + 2, none⟩ = some (.slice ga c'.tgts.length gcc) ∧ W.cell? ⟨q, 0, none⟩ = some (.int .i64 x2) ∧ W.cell? ⟨q, 1, none⟩ = some (.int .i64 x3)) w6.drew := ⟨hk2, n0, n1⟩
  refine anyT_start (S := fun W : World => W.cell? ⟨gx, N * 3 + 2, none⟩ = some (.slice ga c'.tgts.length gcc) ∧ W.cell? ⟨q, 0, none⟩ = some (.int .i64 x2) ∧ W.cell? ⟨q, 1, none⟩ = some (.int .i64 x3)) (t := 18) (by kernel_rfl) ?_
  clear hcy hk2 hfy n0 n1
  obtain ⟨i0, hi0, hz0, hz1, hz2⟩ := info_parts infoTgtR
  have hqd : q < w6.drew.heap.size := hq2
  have hUw : U ≤ w6.drew.heap.size := HRD.out.uw
  have wm1 : IntKind.i64.wrap (1 + (m : Int)) = (m : Int) + 1 := by rw [IntWalk.i64_in _ (by omega)]; omega
  generalize w6.drew = wd at *
  refine takeT (i := 0) (v := ?_) rfl rfl (by kernel_rfl) (by kernel_rfl) (by kernel_rfl) (fun _ _ _ h => h) (by decide) (by kernel_rfl) (by kernel_rfl) ?_ hS0 ?_
  rotate_left
  · intro w hSw; (try dsimp only at hSw); go_simp; (try with_reducible rfl)
  simp only [List.setIfInBounds_toArray, List.set_cons_zero, List.set_cons_succ]
  refine takeT (i := 1) (v := ?_) rfl rfl (by kernel_rfl) (by kernel_rfl) (by kernel_rfl) (fun _ _ _ h => h) (by decide) (by kernel_rfl) (by kernel_rfl) ?_ hS0 ?_
  rotate_left
  · intro w hSw; (try dsimp only at hSw); go_simp; (try with_reducible rfl)
  simp only [List.setIfInBounds_toArray, List.set_cons_zero, List.set_cons_succ]
  refine takeT (i := 2) (v := ?_) rfl rfl (by kernel_rfl) (by kernel_rfl) (by kernel_rfl) (fun _ _ _ h => h) (by decide) (by kernel_rfl) (by kernel_rfl) ?_ hS0 ?_
  rotate_left
  · intro w hSw; (try dsimp only at hSw); go_simp; (try with_reducible rfl)
  simp only [List.setIfInBounds_toArray, List.set_cons_zero, List.set_cons_succ]
  refine takeT (i := 3) (v := ?_) rfl rfl (by kernel_rfl) (by kernel_rfl) (by kernel_rfl) (fun _ _ _ h => h) (by decide) (by kernel_rfl) (by kernel_rfl) ?_ hS0 ?_
  rotate_left
  · intro w hSw; (try dsimp only at hSw); go_simp; (try with_reducible rfl)
  simp only [List.setIfInBounds_toArray, List.set_cons_zero, List.set_cons_succ]
  refine takeT (i := 4) (v := ?_) rfl rfl (by kernel_rfl) (by kernel_rfl) (by kernel_rfl) (fun _ _ _ h => h) (by decide) (by kernel_rfl) (by kernel_rfl) ?_ hS0 ?_
  rotate_left
  · intro w hSw; (try dsimp only at hSw); go_simp; (try with_reducible rfl)
  simp only [List.setIfInBounds_toArray, List.set_cons_zero, List.set_cons_succ]
  refine takeT (i := 5) (v := ?_) rfl rfl (by kernel_rfl) (by kernel_rfl) (by kernel_rfl) (fun _ _ _ h => h) (by decide) (by kernel_rfl) (by kernel_rfl) ?_ hS0 ?_
  rotate_left
  · intro w hSw; (try dsimp only at hSw); go_simp; (try with_reducible rfl)
  simp only [List.setIfInBounds_toArray, List.set_cons_zero, List.set_cons_succ]
  refine takeT (i := 6) (v := .int .i64 ((m : Int) + 1)) rfl rfl (by kernel_rfl) (by kernel_rfl) (by kernel_rfl) (fun _ _ _ h => h) (by decide) (by kernel_rfl) (by kernel_rfl) ?_ hS0 ?_
  · intro w hSw; (try dsimp only at hSw); go_simp; try first | rfl | (rw [wm1]) | omega
  simp only [List.setIfInBounds_toArray, List.set_cons_zero, List.set_cons_succ]
  refine takeT (i := 7) (v := ?_) rfl rfl (by kernel_rfl) (by kernel_rfl) (by kernel_rfl) (fun _ _ _ h => h) (by decide) (by kernel_rfl) (by kernel_rfl) ?_ hS0 ?_
  rotate_left
  · intro w hSw; (try dsimp only at hSw); go_simp; (try with_reducible rfl)
  simp only [List.setIfInBounds_toArray, List.set_cons_zero, List.set_cons_succ]
  refine takeT (i := 8) (v := ?_) rfl rfl (by kernel_rfl) (by kernel_rfl) (by kernel_rfl) (fun _ _ _ h => h) (by decide) (by kernel_rfl) (by kernel_rfl) ?_ hS0 ?_
  rotate_left
  · intro w hSw; (try dsimp only at hSw); go_simp; (try with_reducible rfl)
  simp only [List.setIfInBounds_toArray, List.set_cons_zero, List.set_cons_succ]
  refine takeT (i := 9) (v := ?_) rfl rfl (by kernel_rfl) (by kernel_rfl) (by kernel_rfl) (fun _ _ _ h => h) (by decide) (by kernel_rfl) (by kernel_rfl) ?_ hS0 ?_
  rotate_left
  · intro w hSw; (try dsimp only at hSw); go_simp; (try with_reducible rfl)
  simp only [List.setIfInBounds_toArray, List.set_cons_zero, List.set_cons_succ]
  refine takeT (i := 10) (v := ?_) rfl rfl (by kernel_rfl) (by kernel_rfl) (by kernel_rfl) (fun _ _ _ h => h) (by decide) (by kernel_rfl) (by kernel_rfl) ?_ hS0 ?_
  rotate_left
  · intro w hSw; (try dsimp only at hSw); go_simp; (try with_reducible rfl)
  simp only [List.setIfInBounds_toArray, List.set_cons_zero, List.set_cons_succ]
  refine takeT (i := 11) (v := ?_) rfl rfl (by kernel_rfl) (by kernel_rfl) (by kernel_rfl) (fun _ _ _ h => h) (by decide) (by kernel_rfl) (by kernel_rfl) ?_ hS0 ?_
  rotate_left
  · intro w hSw; (try dsimp only at hSw); go_simp; (try with_reducible rfl)
  simp only [List.setIfInBounds_toArray, List.set_cons_zero, List.set_cons_succ]
  refine takeT (i := 12) (v := ?_) rfl rfl (by kernel_rfl) (by kernel_rfl) (by kernel_rfl) (fun _ _ _ h => h) (by decide) (by kernel_rfl) (by kernel_rfl) ?_ hS0 ?_
  rotate_left
  · intro w hSw; (try dsimp only at hSw); go_simp; (try with_reducible rfl)
  simp only [List.setIfInBounds_toArray, List.set_cons_zero, List.set_cons_succ]
  refine takeT (i := 13) (v := ?_) rfl rfl (by kernel_rfl) (by kernel_rfl) (by kernel_rfl) (fun _ _ _ h => h) (by decide) (by kernel_rfl) (by kernel_rfl) ?_ hS0 ?_
  rotate_left
  · intro w hSw; (try dsimp only at hSw); go_simp; (try with_reducible rfl)
  simp only [List.setIfInBounds_toArray, List.set_cons_zero, List.set_cons_succ]
  refine oneT (i := 14) rfl (by kernel_rfl) (fun K hK => ?_)
  go_simp
  have hb6 : Below wd.heap.size wd (wd.alloc (.cells #[.int .i64 ((m : Int) + 1), .int .i64 x2, .int .i64 x3] 55)) := (Below.refl _ _).alloc (Nat.le_refl _) _
  have hS6 : (fun W : World => W.cell? ⟨gx, N * 3 + 2, none⟩ = some (.slice ga c'.tgts.length gcc) ∧ W.cell? ⟨q, 0, none⟩ = some (.int .i64 x2) ∧ W.cell? ⟨q, 1, none⟩ = some (.int .i64 x3)) (wd.alloc (.cells #[.int .i64 ((m : Int) + 1), .int .i64 x2, .int .i64 x3] 55)) := ⟨(below_cell hb6 hgy2).trans hS0.1, (below_cell hb6 hqd).trans hS0.2.1, (below_cell hb6 hqd).trans hS0.2.2⟩
  refine hK.out _ _ (fun _ => hS6) ?_
  clear hK
  try simp only [List.setIfInBounds_toArray, List.set_cons_zero, List.set_cons_succ, Act.put]
  refine oneT (i := 15) rfl (by kernel_rfl) (fun K hK => ?_)
  refine step_append_lies _ (by rfl) _ _ _ (by rfl) U 55 i0 (.agg #[.int .i64 0, .int .i64 0, .int .i64 0]) 3 24 Tryd.underlying45 hi0 hz0 hz1 hz2 rfl (by omega) _ _ _ (by rfl) ((HRD.out.cgs _ rfl).alloc _) ⟨wd.heap.size, 0, none⟩ 1 1 [.int .i64 ((m : Int) + 1), .int .i64 x2, .int .i64 x3] (by rfl) rfl (World.news_of_block (heap_alloc_new _ _)) (by simp [Value.oneCell']) (by first | omega | (unfold maxLen; omega) | (simp only; omega) | (simp only; unfold maxLen; omega)) (by first | omega | (unfold maxLen; omega) | (simp only; omega) | (simp only; unfold maxLen; omega)) (by first | omega | (unfold maxLen; omega) | (simp only; omega) | (simp only; unfold maxLen; omega)) (by simp; omega) (wd.heap.size + 1) (by simp) ?_
  intro g' c2 w6 hown1 hgrow hat hlt'
  have hRA := HRD.out.below hb6
  have hxa := hRA.cgs _ rfl
  have hRZ : RdM (w6.setCell ⟨gx, N * 3 + 2, none⟩ (.slice (some ⟨g', 0, none⟩) (c'.tgts.length + 1) c2)) B C U (s.push (.tgt ((m : Int) + 1, x2, x3))) ld (some ({ c' with tgts := c'.tgts ++ [((m : Int) + 1, x2, x3)] }, vt, .slice (some ⟨g', 0, none⟩) (c'.tgts.length + 1) c2)) vp (.slice (some ⟨gx, 0, none⟩) (ld.length + 1) cx) := by
    rw [← HNL.out]
    refine RdM.addTgt ?_ (vg := .slice ga c'.tgts.length gcc) (w := wd.alloc (.cells #[.int .i64 ((m : Int) + 1), .int .i64 x2, .int .i64 x3] 55)) hown1 hgrow
    have := hRA
    rw [← HNL.out] at this
    exact this
  obtain ⟨-, -, q3, -, -, -⟩ := hRA.grownG hgrow
  have hqr := q3
  rw [row_last, HNL.out] at hqr
  have hk1 : w6.cell? ⟨gx, N * 3 + 2, none⟩ = some (.slice ga c'.tgts.length gcc) := by
    rw [hqr.cellAt (N * 3 + 2) (by omega)]
    have e := flat_get ld (c', vt, .slice ga c'.tgts.length gcc) 2
    rw [HNL.out] at e
    exact e
  have hf1 : w6.frozen? ⟨gx, N * 3 + 2, none⟩ = false := hqr.frozenAt _
  have hb7 : Below B w w6 := ((HBD.out.mono (by rw [HWB.out]; exact hB)).alloc (by have := HRD.out.bu; omega) _).grown hgrow (by have := HRD.out.bu; simp; omega) (fun q hq => Nat.le_trans HRD.out.bu (hxa.lt q hq).1)
  have HP := Lib.hid (show LinePost B C (s.push (.tgt ((m : Int) + 1, x2, x3))) w (.returned (.bool true)) (w6.setCell ⟨gx, N * 3 + 2, none⟩ (.slice (some ⟨g', 0, none⟩) (c'.tgts.length + 1) c2)) from ⟨rfl, hb7.setCell (p := ⟨gx, N * 3 + 2, none⟩) hgx1 _, _, _, _, _, _, hRZ⟩)
  have ho6 := owns_kept_own (HOD.out.alloc (.cells #[.int .i64 ((m : Int) + 1), .int .i64 x2, .int .i64 x3] 55)) hxa (by decide) hgrow
  have z0 := ho6.cellAt 0 (by simp)
  have z1 := ho6.cellAt 1 (by simp)
  simp only [List.map_cons, List.map_nil, List.getElem?_cons_zero, List.getElem?_cons_succ] at z0 z1
  have hS7 : (fun W : World => W.cell? ⟨gx, N * 3 + 2, none⟩ = some (.slice ga c'.tgts.length gcc) ∧ W.cell? ⟨q, 0, none⟩ = some (.int .i64 x2) ∧ W.cell? ⟨q, 1, none⟩ = some (.int .i64 x3)) w6 := ⟨hk1, z0, z1⟩
  refine hK.out _ _ (fun _ => hS7) ?_
  clear hK hown1 hgrow hat hlt' hRA hxa hRZ q3 hqr hb7 hb6 hS6 hS0 ho6 z0 z1
  try simp only [List.setIfInBounds_toArray, List.set_cons_zero, List.set_cons_succ, Act.put]
  refine oneT (i := 16) rfl (by kernel_rfl) (fun K hK => ?_)
  go_simp
  refine hK.out _ _ (fun _ => hS7) ?_
  clear hK
  try simp only [List.setIfInBounds_toArray, List.set_cons_zero, List.set_cons_succ, Act.put]
  refine oneT (i := 17) rfl (by kernel_rfl) (fun K hK => ?_)
  go_simp
  refine hK.out _ _ (fun _ => hS7) ?_
  clear hK
  try simp only [List.setIfInBounds_toArray, List.set_cons_zero, List.set_cons_succ, Act.put]
  refine oneT (i := 18) rfl (by kernel_rfl) (fun K hK => ?_)
  go_simp
  refine hK.out _ _ (fun q => absurd rfl q) ?_
  refine doneT (by kernel_rfl) ?_ _
  clear hS7 hk1 hf1 HRD HBD HOD
  go_wp2_with fail
  go_ret
  exact HP.out
end Go.Proofs.YtfcjbjkciefbmaaDoor
