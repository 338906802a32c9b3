/- The walk of level's reader of one line, (*Policy).line: the line of a level. -/
import Derived.Test.YtfcjbjkciefbmaaDoorPoLn1
import Derived.Test.YtfcjbjkciefbmaaDoorOrd2
namespace Go.Proofs.YtfcjbjkciefbmaaDoor
open Go.RowKit

theorem infoLev : (Tryd.prog.info? 47).map (fun i => (i.zero, i.size, i.bytes)) = some (some (.agg #[.string ⟨#[]⟩, .slice none 0 0, .slice none 0 0]), 3, 64) := by kernel_rfl
set_option maxRecDepth 100000 in
set_option maxHeartbeats 4000000 in
theorem line_lev (n : ByteArray) (B C U : Nat) (s : RdS) (ld : List LRec) (lc : Option LRec) (vp vl : Value) (w : World) (h : RdM w B C U s ld lc vp vl) (hx : (It.lev n).Ok) (hfew : s.all.length ≤ 100) (hE : Env w) (hB : B ≤ w.heap.size) :
    Calls Tryd.prog 16 #[.pointer (some ⟨C, 0, none⟩), .string (bs (lineV n)), .bool false] w (LinePost B C (s.push (.lev n)) w) := by
  have HE := Lib.hid hE
  have hnm := hx.lev n rfl
  have hsp := split_words levelW [n.data.toList] (wordsV_clean hnm 32 (.inr rfl)) (by have : (Lib.join (levelW :: [n.data.toList]) [32]).length ≤ 240 := line_short2 hx; omega) w hE
  have HSP := Lib.hid (show Calls Tryd.prog 23 #[.string (bs (lineV n)), .string ⟨#[32]⟩] w _ from hsp)
  have HTR := Lib.hid (show ∀ W, Calls Tryd.prog 25 #[.string (bs (lineV n)), .string ⟨#[108, 101, 118, 101, 108, 32]⟩] W fun e w' => e = .returned (.string n) ∧ W = w' from fun W => (Tryd.strings_TrimPrefix (bs (lineV n)) ⟨#[108, 101, 118, 101, 108, 32]⟩ W).mono fun _ _ ⟨h1, h2⟩ => ⟨by
    rw [h1]
    have e : (bs (lineV n)).data.toList = [108, 101, 118, 101, 108, 32] ++ n.data.toList := by
      show lineV n = _
      simp [lineV, Lib.join_cons, Lib.joinTail, levelW]
    congr 2
    rw [e]
    have e2 : (⟨#[108, 101, 118, 101, 108, 32]⟩ : ByteArray).data.toList = [108, 101, 118, 101, 108, 32] := rfl
    rw [e2]
    have e3 : Lib.trimPrefix ([108, 101, 118, 101, 108, 32] ++ n.data.toList) [108, 101, 118, 101, 108, 32] = n.data.toList := by
      simp [Lib.trimPrefix, Lib.hasPrefix]
    rw [e3], h2.symm⟩)
  have hnz := (nm_size hnm).1
  have hne : n.toList.isEmpty = false := by
    cases hz : n.toList.isEmpty with
    | true => exact absurd (empty_size.1 hz) hnz
    | false => rfl
  have hlen := h.len
  generalize hNL : (ld ++ lc.toList).length = N at hlen
  have hN : N ≤ 100 := by omega
  obtain ⟨la, lcp, rfl⟩ : ∃ a c, vl = .slice a N c := by rw [← hNL]; exact owns_slice h.row
  have H := Lib.hid h
  have HNL := Lib.hid hNL
  clear h hx hE hsp hnm hlen hNL
  generalize bs (lineV n) = L at *
  go_enter Tryd.func16, Tryd.ntmps16
  go_wp2_with fail
  refine HSP.out.mono ?_
  rintro e w2 ⟨rfl, hb2, hw2⟩
  have HR2 := Lib.hid (H.out.below hb2)
  have HB2 := Lib.hid hb2
  have c0 : w2.cell? ⟨w.heap.size, 0, none⟩ = some (.string ⟨#[108, 101, 118, 101, 108]⟩) := hw2.cell 0 (by simp)
  have hWn : w.heap.size < w2.heap.size := Has.lt hw2
  have hCw : C < w.heap.size := H.out.box.lt
  have HW2 := Lib.hid hw2
  have k1 := HR2.out.box.cell 1
  have f1 := HR2.out.box.fz 1
  have hBw2 : B ≤ w2.heap.size := Nat.le_trans hB hb2.size
  have HROW := Lib.hid (show w2.ownsRow B 47 3 (.slice la N lcp) N ((ld ++ lc.toList).flatMap encL) from by rw [← HNL.out]; have := HR2.out.row; rw [HNL.out] at this ⊢; exact this)
  clear hb2 hw2 H HSP
  go_wp2_with (at_builtin; go_must (refine append_one rfl _ _ 23 rfl B 47 (.agg #[.string ⟨#[]⟩, .slice none 0 0, .slice none 0 0]) 3 64 Tryd.underlying23 infoLev rfl (by decide) w2 w2 _ _ _ rfl HROW.out [.string ⟨#[]⟩, .slice none 0 0, .slice none 0 0] rfl rfl rfl (by simp [Value.oneCell']) (by omega) (by omega) hBw2 (Below.refl _ _) ?_); intro v' w6 ho hb6 hg6 hnn; have hg6 : w2.grownBy w6 (Value.slice la N lcp).ownBlock := hg6; obtain ⟨g', c', rfl, hg1', hg2'⟩ := ho.form (Nat.succ_pos _); have hbx6 : Has w6 C #[vp, .slice la N lcp] 25 := HR2.out.box.kept_own HROW.out (by decide) hg6; have m1 := hbx6.cell 1; have g1 := hbx6.fz 1; have HO6 := Lib.hid ho; have HG6 := Lib.hid hg6; have HB6 := Lib.hid hb6; have HBX6 := Lib.hid hbx6; clear ho hg6 hb6 hnn hbx6)
  have hR7 : RdM (w6.setCell ⟨C, 1, none⟩ (.slice (some ⟨g', 0, none⟩) (N + 1) c')) B C w6.heap.size (s.push (.lev ⟨#[]⟩)) (ld ++ lc.toList) (some (⟨⟨#[]⟩, [], []⟩, .slice none 0 0, .slice none 0 0)) vp (.slice (some ⟨g', 0, none⟩) (N + 1) c') :=
    HR2.out.addLev (by rw [HNL.out]; exact HO6.out) HG6.out
  have HR7 := Lib.hid hR7
  have HB7 := Lib.hid ((HB2.out.mono hB).trans HB6.out |>.setCell (p := ⟨C, 1, none⟩) HR2.out.bc (.slice (some ⟨g', 0, none⟩) (N + 1) c'))
  have HW7 := Lib.hid (show WordsB (w6.setCell ⟨C, 1, none⟩ (.slice (some ⟨g', 0, none⟩) (N + 1) c')) w.heap.size [levelW, n.data.toList] from by
    have h6 : WordsB w6 w.heap.size [levelW, n.data.toList] := Has.kept_own HW2.out HROW.out (by decide) HG6.out
    exact Has.set_other h6 1 _ (by omega))
  clear hR7 m1 g1 c0 k1 f1 HBX6 HO6 HG6 HB6 HROW HR2 HW2 HB2
  go_upto_region 10 with fail
  generalize w6.setCell ⟨C, 1, none⟩ (.slice (some ⟨g', 0, none⟩) (N + 1) c') = w7 at *
  have k1 := HR7.out.box.cell 1
  have hlast := HR7.out.lastAt
  obtain ⟨gx, cx, hvx, hgx1, hgx2, hcx, hfx⟩ := hlast
  obtain ⟨hx1, hx2⟩ : gx = g' ∧ c' = cx := by cases hvx; exact ⟨rfl, rfl⟩
  subst hx1 hx2
  clear hvx
  have hNN := HNL.out
  have w1m : IntKind.i64.wrap ((N : Int) + 1 - 1) = (N : Int) := by rw [IntWalk.i64_in _ (by omega)]; omega
  have w1n : IntKind.i64.wrap (N : Int) = (N : Int) := IntWalk.i64_in _ (by omega)
  have hlt : N < N + 1 := Nat.lt_succ_self N
  have hltI : (N : Int) < (N : Int) + 1 := by omega
  have hcx0 := hcx 0 (by omega)
  rw [hNN, Nat.add_zero] at hcx0
  have hgC : gx ≠ C := by
    intro e
    have hb := HR7.out.box
    exact own_not HR7.out.row hb (by decide) (by rw [← e]; rfl)
  clear hcx
  have hS0 : (fun W : World => W.cell? ⟨C, 1, none⟩ = some (.slice (some ⟨gx, 0, none⟩) (N + 1) c')) w7.drew := k1
  refine anyT_start (S := fun W : World => W.cell? ⟨C, 1, none⟩ = some (.slice (some ⟨gx, 0, none⟩) (N + 1) c')) (t := 14) (by kernel_rfl) ?_
  have hbd := (Below.refl w7.heap.size w7).drew
  have HR8 := Lib.hid (HR7.out.below hbd)
  have HW8 := Lib.hid (HW7.out.below hbd (Has.lt HW7.out))
  have HB8 := Lib.hid (HB7.out.drew)
  have hcx8 : w7.drew.cell? ⟨gx, N * 3, none⟩ = some (.string ⟨#[]⟩) := hcx0
  have hfx8 : w7.drew.frozen? ⟨gx, N * 3, none⟩ = false := hfx _
  clear hbd HR7 HW7 HB7 k1 hcx0 hfx
  generalize w7.drew = wd at *
  refine takeT (i := 0) (v := ?_) rfl rfl (by kernel_rfl) (by kernel_rfl) (by kernel_rfl) (fun _ _ _ h => h) (by decide) (by kernel_rfl) (by kernel_rfl) ?_ hS0 ?_
  rotate_left
  · intro w hSw; (try dsimp only at hSw); go_simp; (try with_reducible rfl)
  simp only [List.setIfInBounds_toArray, List.set_cons_zero, List.set_cons_succ]
  refine takeT (i := 1) (v := ?_) rfl rfl (by kernel_rfl) (by kernel_rfl) (by kernel_rfl) (fun _ _ _ h => h) (by decide) (by kernel_rfl) (by kernel_rfl) ?_ hS0 ?_
  rotate_left
  · intro w hSw; (try dsimp only at hSw); go_simp; (try with_reducible rfl)
  simp only [List.setIfInBounds_toArray, List.set_cons_zero, List.set_cons_succ]
  refine takeT (i := 2) (v := ?_) rfl rfl (by kernel_rfl) (by kernel_rfl) (by kernel_rfl) (fun _ _ _ h => h) (by decide) (by kernel_rfl) (by kernel_rfl) ?_ hS0 ?_
  rotate_left
  · intro w hSw; (try dsimp only at hSw); go_simp; (try with_reducible rfl)
  simp only [List.setIfInBounds_toArray, List.set_cons_zero, List.set_cons_succ]
  refine takeT (i := 3) (v := ?_) rfl rfl (by kernel_rfl) (by kernel_rfl) (by kernel_rfl) (fun _ _ _ h => h) (by decide) (by kernel_rfl) (by kernel_rfl) ?_ hS0 ?_
  rotate_left
  · intro w hSw; (try dsimp only at hSw); go_simp; (try with_reducible rfl)
  simp only [List.setIfInBounds_toArray, List.set_cons_zero, List.set_cons_succ]
  refine takeT (i := 4) (v := ?_) rfl rfl (by kernel_rfl) (by kernel_rfl) (by kernel_rfl) (fun _ _ _ h => h) (by decide) (by kernel_rfl) (by kernel_rfl) ?_ hS0 ?_
  rotate_left
  · intro w hSw; (try dsimp only at hSw); go_simp; (try with_reducible rfl)
  simp only [List.setIfInBounds_toArray, List.set_cons_zero, List.set_cons_succ]
  refine takeT (i := 5) (v := ?_) rfl rfl (by kernel_rfl) (by kernel_rfl) (by kernel_rfl) (fun _ _ _ h => h) (by decide) (by kernel_rfl) (by kernel_rfl) ?_ hS0 ?_
  rotate_left
  · intro w hSw; (try dsimp only at hSw); go_simp; (try with_reducible rfl)
  simp only [List.setIfInBounds_toArray, List.set_cons_zero, List.set_cons_succ]
  refine takeT (i := 6) (v := ?_) rfl rfl (by kernel_rfl) (by kernel_rfl) (by kernel_rfl) (fun _ _ _ h => h) (by decide) (by kernel_rfl) (by kernel_rfl) ?_ hS0 ?_
  rotate_left
  · intro w hSw; (try dsimp only at hSw); go_simp; (try with_reducible rfl)
  simp only [List.setIfInBounds_toArray, List.set_cons_zero, List.set_cons_succ]
  refine takeT (i := 7) (v := ?_) rfl rfl (by kernel_rfl) (by kernel_rfl) (by kernel_rfl) (fun _ _ _ h => h) (by decide) (by kernel_rfl) (by kernel_rfl) ?_ hS0 ?_
  rotate_left
  · intro w hSw; (try dsimp only at hSw); go_simp; (try with_reducible rfl)
  simp only [List.setIfInBounds_toArray, List.set_cons_zero, List.set_cons_succ]
  refine takeT (i := 8) (v := ?_) rfl rfl (by kernel_rfl) (by kernel_rfl) (by kernel_rfl) (fun _ _ _ h => h) (by decide) (by kernel_rfl) (by kernel_rfl) ?_ hS0 ?_
  rotate_left
  · intro w hSw; (try dsimp only at hSw); go_simp; (try with_reducible rfl)
  simp only [List.setIfInBounds_toArray, List.set_cons_zero, List.set_cons_succ]
  refine takeT (i := 9) (v := .int .i64 (N : Int)) rfl rfl (by kernel_rfl) (by kernel_rfl) (by kernel_rfl) (fun _ _ _ h => h) (by decide) (by kernel_rfl) (by kernel_rfl) ?_ hS0 ?_
  · intro w hSw; (try dsimp only at hSw); go_simp; try first | rfl | (rw [w1n]) | (rw [w1m])
  simp only [List.setIfInBounds_toArray, List.set_cons_zero, List.set_cons_succ]
  refine takeT (i := 10) (v := ?_) rfl rfl (by kernel_rfl) (by kernel_rfl) (by kernel_rfl) (fun _ _ _ h => h) (by decide) (by kernel_rfl) (by kernel_rfl) ?_ hS0 ?_
  rotate_left
  · intro w hSw; (try dsimp only at hSw); go_simp; (try with_reducible rfl)
  simp only [List.setIfInBounds_toArray, List.set_cons_zero, List.set_cons_succ]
  refine oneT (i := 11) rfl (by kernel_rfl) (fun K hK => ?_)
  go_simp
  refine (HTR.out wd).mono ?_
  rintro e we ⟨rfl, rfl⟩
  refine hK.out _ _ (fun _ => hS0) ?_
  clear hK
  try simp only [List.setIfInBounds_toArray, List.set_cons_zero, List.set_cons_succ, Act.put]
  refine oneT (i := 12) rfl (by kernel_rfl) (fun K hK => ?_)
  go_simp
  refine hK.out _ _ (fun _ => hS0) ?_
  clear hK
  try simp only [List.setIfInBounds_toArray, List.set_cons_zero, List.set_cons_succ, Act.put]
  refine oneT (i := 13) rfl (by kernel_rfl) (fun K hK => ?_)
  go_simp
  refine hK.out _ _ (fun _ => hS0) ?_
  clear hK
  try simp only [List.setIfInBounds_toArray, List.set_cons_zero, List.set_cons_succ, Act.put]
  refine oneT (i := 14) rfl (by kernel_rfl) (fun K hK => ?_)
  go_simp
  refine hK.out _ _ (fun q => absurd rfl q) ?_
  refine doneT (by kernel_rfl) ?_ _
  have hR9 : RdM (wd.setCell ⟨gx, N * 3, none⟩ (.string n)) B C w6.heap.size (s.push (.lev n)) (ld ++ lc.toList) (some (⟨n, [], []⟩, .slice none 0 0, .slice none 0 0)) vp (.slice (some ⟨gx, 0, none⟩) ((ld ++ lc.toList).length + 1) c') := by
    have e : (⟨gx, N * 3, none⟩ : Addr) = ⟨gx, (ld ++ lc.toList).length * 3 + 0, none⟩ := by rw [hNN]; rfl
    rw [e]
    refine RdM.put (x := (⟨⟨#[]⟩, [], []⟩, .slice none 0 0, .slice none 0 0)) (s := s.push (.lev ⟨#[]⟩)) ?_ rfl rfl rfl rfl (World.ownsRow_nil _ _ _ _) (World.ownsRow_nil _ _ _ _)
    have := HR8.out
    rw [← hNN] at this
    exact this
  have HW9 := Lib.hid (show WordsB (wd.setCell ⟨gx, N * 3, none⟩ (.string n)) w.heap.size [levelW, n.data.toList] from Has.set_other HW8.out _ _ (by
    intro e
    exact own_not HR8.out.row HW8.out (by decide) (by rw [← e]; rfl)))
  have d1 := HW9.out.cell 1 (by simp)
  have HP := Lib.hid (show LinePost B C (s.push (.lev n)) w (.returned (.bool true)) (wd.setCell ⟨gx, N * 3, none⟩ (.string n)) from ⟨rfl, HB8.out.setCell (p := ⟨gx, N * 3, none⟩) hgx1 _, _, _, _, _, _, hR9⟩)
  have ebn : bs ([levelW, n.data.toList].getD 1 []) = n := bs_inj rfl
  rw [ebn] at d1
  clear hR9 hS0 HR8 HW8 HB8 hcx8 hfx8 HTR ebn
  go_wp2_with fail
  go_ret
  exact HP.out
end Go.Proofs.YtfcjbjkciefbmaaDoor
