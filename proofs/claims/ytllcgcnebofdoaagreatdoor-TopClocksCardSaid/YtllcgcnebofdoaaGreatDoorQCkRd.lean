/- The walk of level.ReadClock on a right clock's own text. -/
import Derived.Test.YtllcgcnebofdoaaGreatDoorQCkTxt
import Derived.Test.YtllcgcnebofdoaaGreatDoorQMNum
namespace Go.Proofs.YtllcgcnebofdoaaGreatDoor
open Go.RowKit

theorem nums_get (i : Nat) (hi : i < 3) : ∀ (ps : List Pc) (j : Nat) (hj : j < ps.length), (ps.flatMap pcNums)[j * 3 + i]? = (pcNums ps[j])[i]?
  | p :: r, 0, _ => by
    rw [List.flatMap_cons, List.getElem?_append_left (by simp [pcNums]; omega)]
    simp
  | p :: r, j + 1, hj => by
    rw [List.flatMap_cons, List.getElem?_append_right (by simp [pcNums]; omega)]
    have e : (j + 1) * 3 + i - (pcNums p).length = j * 3 + i := by simp [pcNums]; omega
    rw [e, nums_get i hi r j (by simpa using hj)]
    simp
theorem clkNums_at (c : ClkD) {j : Nat} (hj : j < c.ps.length) (i : Nat) (hi : i < 3) : (clkNums c)[6 + j * 3 + i]? = (pcNums c.ps[j])[i]? := by
  unfold clkNums
  rw [List.getElem?_append_right (by show 6 ≤ _; omega), ← nums_get i hi c.ps j hj]
  congr 1
  show 6 + j * 3 + i - 6 = _
  omega
/-- the clock that is read so far: head and j pieces -/
def takeC (c : ClkD) (j : Nat) : ClkD := { c with ps := c.ps.take j }
structure RkI (c : ClkD) (w8 wr : World) (C j : Nat) : Prop where
  le : j ≤ c.ps.length
  mem : ∃ v, Has wr C (clkV c v) 34 ∧ wr.ownsRow C 79 3 v j ((c.ps.take j).flatMap encPc)
  below : Below C w8 wr
theorem infoClkR : (Tryz.prog.info? 34).map (·.size) = some 7 := by kernel_rfl
abbrev set7 (w : World) (X : Nat) (b0 b1 b2 b3 b4 b5 b6 : Value) : World := ((((((w.setCell ⟨X, 0, none⟩ b0).setCell ⟨X, 1, none⟩ b1).setCell ⟨X, 2, none⟩ b2).setCell ⟨X, 3, none⟩ b3).setCell ⟨X, 4, none⟩ b4).setCell ⟨X, 5, none⟩ b5).setCell ⟨X, 6, none⟩ b6
theorem set7_has {w : World} {X : Nat} {a0 a1 a2 a3 a4 a5 a6 : Value} {t : TypeId} (h : Has w X #[a0, a1, a2, a3, a4, a5, a6] t) (b0 b1 b2 b3 b4 b5 b6 : Value) : Has (set7 w X b0 b1 b2 b3 b4 b5 b6) X #[b0, b1, b2, b3, b4, b5, b6] t := by
  have h0 : Has _ X #[b0, a1, a2, a3, a4, a5, a6] t := h.set 0 b0
  have h1 : Has _ X #[b0, b1, a2, a3, a4, a5, a6] t := h0.set 1 b1
  have h2 : Has _ X #[b0, b1, b2, a3, a4, a5, a6] t := h1.set 2 b2
  have h3 : Has _ X #[b0, b1, b2, b3, a4, a5, a6] t := h2.set 3 b3
  have h4 : Has _ X #[b0, b1, b2, b3, b4, a5, a6] t := h3.set 4 b4
  have h5 : Has _ X #[b0, b1, b2, b3, b4, b5, a6] t := h4.set 5 b5
  have h6 : Has _ X #[b0, b1, b2, b3, b4, b5, b6] t := h5.set 6 b6
  exact h6
theorem set7_owns {w : World} {X B : Nat} {e : TypeId} {sz n : Nat} {v : Value} {xs : List Value} (h : w.ownsRow B e sz v n xs) (hne : v.ownBlock ≠ some X) (b0 b1 b2 b3 b4 b5 b6 : Value) : (set7 w X b0 b1 b2 b3 b4 b5 b6).ownsRow B e sz v n xs :=
  ownsRow_setCell_other (a := ⟨X, 6, none⟩) (ownsRow_setCell_other (a := ⟨X, 5, none⟩) (ownsRow_setCell_other (a := ⟨X, 4, none⟩) (ownsRow_setCell_other (a := ⟨X, 3, none⟩) (ownsRow_setCell_other (a := ⟨X, 2, none⟩) (ownsRow_setCell_other (a := ⟨X, 1, none⟩) (ownsRow_setCell_other (a := ⟨X, 0, none⟩) h hne _) hne _) hne _) hne _) hne _) hne _) hne _
theorem set7_below {w0 w : World} {X B : Nat} (h : Below B w0 w) (hX : B ≤ X) (b0 b1 b2 b3 b4 b5 b6 : Value) : Below B w0 (set7 w X b0 b1 b2 b3 b4 b5 b6) :=
  ((((((h.setCell (p := ⟨X, 0, none⟩) hX b0).setCell (p := ⟨X, 1, none⟩) hX b1).setCell (p := ⟨X, 2, none⟩) hX b2).setCell (p := ⟨X, 3, none⟩) hX b3).setCell (p := ⟨X, 4, none⟩) hX b4).setCell (p := ⟨X, 5, none⟩) hX b5).setCell (p := ⟨X, 6, none⟩) hX b6
def CrdPost (c : ClkD) (w : World) (e : Ending) (w' : World) : Prop :=
  (∃ vps, e = .returned (.tuple #[.agg (clkV c vps), .int .i64 0]) ∧ Shifts w' vps c.ps) ∧ Below w.heap.size w w'

set_option maxRecDepth 100000 in
set_option maxHeartbeats 8000000 in
theorem ReadClock_ok (c : ClkD) (hc : ClkOk c) (w : World) (hE : Env w) :
    Calls Tryz.prog 9 #[.string (bs (clkText c))] w (CrdPost c w) := by
  obtain ⟨x1, x2⟩ := box1 w #[.int .i64 0, .int .i64 0, .int .i64 0, .int .i64 0, .int .i64 0, .int .i64 0, .slice none 0 0] 34
  have HX := Lib.hid x1
  have HB := Lib.hid x2
  have HE := Lib.hid (hE.below x2)
  have hcl := clkText_len hc
  have hts : (bs (clkText c)).size ≤ 400000 := by rw [bs_size]; unfold clkText; rw [List.length_append]; simp; omega
  have HCU := Lib.hid (fun W => Tryz.strings_CutSuffix (bs (clkText c)) ⟨#[10]⟩ W (by omega))
  have e1 : Lib.trimSuffix (bs (clkText c)).data.toList [10] = Lib.join (clkWords c) [32] := by
    rw [bs_data]
    unfold clkText
    simp [Lib.trimSuffix, Lib.hasSuffix]
  have e2 : Lib.hasSuffix (bs (clkText c)).data.toList [10] = true := by
    rw [bs_data]
    unfold clkText
    simp [Lib.hasSuffix]
  have HCU := Lib.hid (show ∀ W : World, Calls Tryz.prog 24 #[.string (bs (clkText c)), .string ⟨#[10]⟩] W fun e w' => e = .returned (.tuple #[.string (bs (Lib.join (clkWords c) [32])), .bool true]) ∧ w' = W from fun W => by
    have := HCU.out W
    rw [show (⟨#[10]⟩ : ByteArray).data.toList = [10] from rfl, e1, e2] at this
    exact this)
  have HSP := Lib.hid (fun W hW => split_words clockW ((clkNums c).map Lib.itoa) (fun x hx => by
    rcases List.mem_cons.1 hx with rfl | q
    · decide
    · obtain ⟨n, _, rfl⟩ := List.mem_map.1 q
      exact itoa_clean n 32 (.inr rfl)) (by show (Lib.join (clkWords c) [32]).length ≤ _; omega) W hW)
  have HNU := Lib.hid (fun v W hW hv => numbers_lev (clkNums c) 8 (by omega) (fun n hn => by have := hc.nums n hn; omega) (by rw [clkNums_len]; have := hc.len; omega) v W hW hv)
  have HNL := Lib.hid (clkNums_len c)
  have HAT := Lib.hid (fun j hj i hi => clkNums_at c (j := j) hj i hi)
  have HHD := Lib.hid (show ∀ i, i < 6 → (clkNums c)[i]? = (hdNums c)[i]? from fun i hi => by unfold clkNums; rw [List.getElem?_append_left (by show i < 6; exact hi)])
  have HOK := Lib.hid hc
  have hps : c.ps.length ≤ 6000 := hc.len
  have eJ : (bs (Lib.join (clockW :: (clkNums c).map Lib.itoa) [32])) = bs (Lib.join (clkWords c) [32]) := rfl
  rw [eJ] at HSP
  clear x1 x2 hE hc hcl e1 e2 eJ
  generalize bs (Lib.join (clkWords c) [32]) = L at *
  generalize bs (clkText c) = T at *
  have hT' : decide ((400000 : Int) < (T.size : Int)) = false := decide_eq_false (by omega)
  go_enter Tryz.func9, Tryz.ntmps9
  go_upto_region 3 with fail
  clear hT' hts
  generalize w.alloc (.cells #[.int .i64 0, .int .i64 0, .int .i64 0, .int .i64 0, .int .i64 0, .int .i64 0, .slice none 0 0] 34) = w1 at *
  go_wp2_with fail
  refine (HCU.out w1).mono ?_
  rintro e w2 ⟨rfl, rfl⟩
  clear HCU
  go_wp2_with fail
  refine (HSP.out w2 HE.out).mono ?_
  rintro e w3 ⟨rfl, hb3, hW⟩
  have hW0 : w3.cell? ⟨w2.heap.size, 0, none⟩ = some (.string (bs clockW)) := hW.cell 0 (by simp)
  rw [List.length_map, HNL.out]
  have hcut := words_cut hW (n := 6 + c.ps.length * 3) (by rw [List.length_map, HNL.out])
  rw [if_neg (by omega)] at hcut
  have HCT := Lib.hid (show SliceAt 1 strR w3 (.slice (some ⟨w2.heap.size, 1, none⟩) (6 + c.ps.length * 3) (6 + c.ps.length * 3)) ((clkNums c).map fun n => bs (Lib.itoa n)) by rw [List.map_map] at hcut; exact hcut)
  have HB3 := Lib.hid (below_up' HB.out hb3)
  have HE3 := Lib.hid (HE.out.below hb3)
  have HX3 := Lib.hid (HX.out.below hb3 HX.out.lt)
  have hsz3 : w2.heap.size < w3.heap.size := Has.lt hW
  obtain ⟨Wb, hWb⟩ : ∃ Wb, w2.heap.size = Wb := ⟨_, rfl⟩
  rw [hWb] at hW0 hsz3 HCT
  rw [hWb]
  clear hb3 hW hcut HX HE HB HSP hWb
  obtain ⟨N, hN⟩ : ∃ N, 6 + c.ps.length * 3 = N := ⟨_, rfl⟩
  rw [hN] at HCT HNL
  rw [hN]
  have hN6 : 6 ≤ N := by omega
  have hN8 : N ≤ 100000 := by omega
  have HNN := Lib.hid hN
  clear hN
  have q1 : IntKind.i64.wrap (((N + 1 : Nat) : Int)) = ((N + 1 : Nat) : Int) := IntWalk.i64_in _ (by omega)
  go_upto_region 5 with fail
  have hN0 : ¬ N + 1 = 1 := by omega
  go_wp2_with fail
  refine (HNU.out _ w3 HE3.out HCT.out).mono ?_
  rintro e w4 ⟨⟨vl, rfl, hro⟩, hb4⟩
  rw [HNL.out] at hro
  obtain ⟨g, gc, rfl, _, hg4⟩ := hro.form (by omega)
  have HNC := Lib.hid (show ∀ k, k < N → w4.cell? ⟨g, k, none⟩ = (((clkNums c).map (Value.int .i64))[k]?) from fun k hk => hro.cellAt k (by omega))
  have k0 : w4.cell? ⟨Wb, 0, none⟩ = some (.string (bs clockW)) := (below_cell hb4 hsz3).trans hW0
  have HB4 := Lib.hid (below_up' HB3.out hb4)
  have HX4 := Lib.hid (HX3.out.below hb4 HX3.out.lt)
  have HG := Lib.hid hg4
  clear hro hb4 hW0 hsz3 HNU HCT HE3 HB3 HX3 hN0 q1
  have b1 : decide ((N : Int) < 6) = false := decide_eq_false (by omega)
  have b2 : (N : Int).tmod 3 = 0 := by have := HNN.out; rw [Int.tmod_eq_emod_of_nonneg (by omega)]; omega
  have b3 : (bs clockW).toList = [99, 108, 111, 99, 107] := by rw [ByteArray.toList_eq]; rfl
  go_upto_region 8 with fail
  clear k0 b1 b2 b3
  have HNA := Lib.hid (show ∀ k v, k < N → (clkNums c)[k]? = some v → w4.cell? ⟨g, k, none⟩ = some (.int .i64 v) from fun k v hk hv => by rw [HNC.out k hk, List.getElem?_map, hv]; rfl)
  have n0 := HNA.out 0 _ (by omega) ((HHD.out 0 (by omega)).trans rfl)
  have n1 := HNA.out 1 _ (by omega) ((HHD.out 1 (by omega)).trans rfl)
  have n2 := HNA.out 2 _ (by omega) ((HHD.out 2 (by omega)).trans rfl)
  have n3 := HNA.out 3 _ (by omega) ((HHD.out 3 (by omega)).trans rfl)
  have n4 := HNA.out 4 _ (by omega) ((HHD.out 4 (by omega)).trans rfl)
  have n5 := HNA.out 5 _ (by omega) ((HHD.out 5 (by omega)).trans rfl)
  clear HHD HNC HNL
  have HKZ : (fun W : World => W.cell? ⟨g, 0, none⟩ = some (.int .i64 c.kind) ∧ W.cell? ⟨g, 1, none⟩ = some (.int .i64 c.lev) ∧ W.cell? ⟨g, 2, none⟩ = some (.int .i64 c.min) ∧ W.cell? ⟨g, 3, none⟩ = some (.int .i64 c.start) ∧ W.cell? ⟨g, 4, none⟩ = some (.int .i64 c.stop) ∧ W.cell? ⟨g, 5, none⟩ = some (.int .i64 c.fin)) w4.drew := ⟨n0, n1, n2, n3, n4, n5⟩
  refine anyT_start (S := fun W : World => W.cell? ⟨g, 0, none⟩ = some (.int .i64 c.kind) ∧ W.cell? ⟨g, 1, none⟩ = some (.int .i64 c.lev) ∧ W.cell? ⟨g, 2, none⟩ = some (.int .i64 c.min) ∧ W.cell? ⟨g, 3, none⟩ = some (.int .i64 c.start) ∧ W.cell? ⟨g, 4, none⟩ = some (.int .i64 c.stop) ∧ W.cell? ⟨g, 5, none⟩ = some (.int .i64 c.fin)) (t := 20) (by kernel_rfl) ?_
  clear n0 n1 n2 n3 n4 n5
  refine takeT (i := 0) (v := ?_) rfl rfl (by kernel_rfl) (by kernel_rfl) (by kernel_rfl) (fun _ _ _ h => h) (by decide) (by kernel_rfl) (by kernel_rfl) ?_ HKZ ?_
  rotate_left
  · intro w hSw; (try dsimp only at hSw); go_simp; (try with_reducible rfl)
  simp only [List.setIfInBounds_toArray, List.set_cons_zero, List.set_cons_succ]
  refine takeT (i := 1) (v := ?_) rfl rfl (by kernel_rfl) (by kernel_rfl) (by kernel_rfl) (fun _ _ _ h => h) (by decide) (by kernel_rfl) (by kernel_rfl) ?_ HKZ ?_
  rotate_left
  · intro w hSw; (try dsimp only at hSw); go_simp; first | (with_reducible rfl) | (rw [if_pos (by omega)])
  simp only [List.setIfInBounds_toArray, List.set_cons_zero, List.set_cons_succ]
  refine takeT (i := 2) (v := ?_) rfl rfl (by kernel_rfl) (by kernel_rfl) (by kernel_rfl) (fun _ _ _ h => h) (by decide) (by kernel_rfl) (by kernel_rfl) ?_ HKZ ?_
  rotate_left
  · intro w hSw; (try dsimp only at hSw); go_simp; (try with_reducible rfl)
  simp only [List.setIfInBounds_toArray, List.set_cons_zero, List.set_cons_succ]
  refine takeT (i := 3) (v := ?_) rfl rfl (by kernel_rfl) (by kernel_rfl) (by kernel_rfl) (fun _ _ _ h => h) (by decide) (by kernel_rfl) (by kernel_rfl) ?_ HKZ ?_
  rotate_left
  · intro w hSw; (try dsimp only at hSw); go_simp; (try with_reducible rfl)
  simp only [List.setIfInBounds_toArray, List.set_cons_zero, List.set_cons_succ]
  refine takeT (i := 4) (v := ?_) rfl rfl (by kernel_rfl) (by kernel_rfl) (by kernel_rfl) (fun _ _ _ h => h) (by decide) (by kernel_rfl) (by kernel_rfl) ?_ HKZ ?_
  rotate_left
  · intro w hSw; (try dsimp only at hSw); go_simp; first | (with_reducible rfl) | (rw [if_pos (by omega)])
  simp only [List.setIfInBounds_toArray, List.set_cons_zero, List.set_cons_succ]
  refine takeT (i := 5) (v := ?_) rfl rfl (by kernel_rfl) (by kernel_rfl) (by kernel_rfl) (fun _ _ _ h => h) (by decide) (by kernel_rfl) (by kernel_rfl) ?_ HKZ ?_
  rotate_left
  · intro w hSw; (try dsimp only at hSw); go_simp; (try with_reducible rfl)
  simp only [List.setIfInBounds_toArray, List.set_cons_zero, List.set_cons_succ]
  refine takeT (i := 6) (v := ?_) rfl rfl (by kernel_rfl) (by kernel_rfl) (by kernel_rfl) (fun _ _ _ h => h) (by decide) (by kernel_rfl) (by kernel_rfl) ?_ HKZ ?_
  rotate_left
  · intro w hSw; (try dsimp only at hSw); go_simp; (try with_reducible rfl)
  simp only [List.setIfInBounds_toArray, List.set_cons_zero, List.set_cons_succ]
  refine takeT (i := 7) (v := ?_) rfl rfl (by kernel_rfl) (by kernel_rfl) (by kernel_rfl) (fun _ _ _ h => h) (by decide) (by kernel_rfl) (by kernel_rfl) ?_ HKZ ?_
  rotate_left
  · intro w hSw; (try dsimp only at hSw); go_simp; first | (with_reducible rfl) | (rw [if_pos (by omega)])
  simp only [List.setIfInBounds_toArray, List.set_cons_zero, List.set_cons_succ]
  refine takeT (i := 8) (v := ?_) rfl rfl (by kernel_rfl) (by kernel_rfl) (by kernel_rfl) (fun _ _ _ h => h) (by decide) (by kernel_rfl) (by kernel_rfl) ?_ HKZ ?_
  rotate_left
  · intro w hSw; (try dsimp only at hSw); go_simp; (try with_reducible rfl)
  simp only [List.setIfInBounds_toArray, List.set_cons_zero, List.set_cons_succ]
  refine takeT (i := 9) (v := ?_) rfl rfl (by kernel_rfl) (by kernel_rfl) (by kernel_rfl) (fun _ _ _ h => h) (by decide) (by kernel_rfl) (by kernel_rfl) ?_ HKZ ?_
  rotate_left
  · intro w hSw; (try dsimp only at hSw); go_simp; (try with_reducible rfl)
  simp only [List.setIfInBounds_toArray, List.set_cons_zero, List.set_cons_succ]
  refine takeT (i := 10) (v := ?_) rfl rfl (by kernel_rfl) (by kernel_rfl) (by kernel_rfl) (fun _ _ _ h => h) (by decide) (by kernel_rfl) (by kernel_rfl) ?_ HKZ ?_
  rotate_left
  · intro w hSw; (try dsimp only at hSw); go_simp; first | (with_reducible rfl) | (rw [if_pos (by omega)])
  simp only [List.setIfInBounds_toArray, List.set_cons_zero, List.set_cons_succ]
  refine takeT (i := 11) (v := ?_) rfl rfl (by kernel_rfl) (by kernel_rfl) (by kernel_rfl) (fun _ _ _ h => h) (by decide) (by kernel_rfl) (by kernel_rfl) ?_ HKZ ?_
  rotate_left
  · intro w hSw; (try dsimp only at hSw); go_simp; (try with_reducible rfl)
  simp only [List.setIfInBounds_toArray, List.set_cons_zero, List.set_cons_succ]
  refine takeT (i := 12) (v := ?_) rfl rfl (by kernel_rfl) (by kernel_rfl) (by kernel_rfl) (fun _ _ _ h => h) (by decide) (by kernel_rfl) (by kernel_rfl) ?_ HKZ ?_
  rotate_left
  · intro w hSw; (try dsimp only at hSw); go_simp; (try with_reducible rfl)
  simp only [List.setIfInBounds_toArray, List.set_cons_zero, List.set_cons_succ]
  refine takeT (i := 13) (v := ?_) rfl rfl (by kernel_rfl) (by kernel_rfl) (by kernel_rfl) (fun _ _ _ h => h) (by decide) (by kernel_rfl) (by kernel_rfl) ?_ HKZ ?_
  rotate_left
  · intro w hSw; (try dsimp only at hSw); go_simp; first | (with_reducible rfl) | (rw [if_pos (by omega)])
  simp only [List.setIfInBounds_toArray, List.set_cons_zero, List.set_cons_succ]
  refine takeT (i := 14) (v := ?_) rfl rfl (by kernel_rfl) (by kernel_rfl) (by kernel_rfl) (fun _ _ _ h => h) (by decide) (by kernel_rfl) (by kernel_rfl) ?_ HKZ ?_
  rotate_left
  · intro w hSw; (try dsimp only at hSw); go_simp; (try with_reducible rfl)
  simp only [List.setIfInBounds_toArray, List.set_cons_zero, List.set_cons_succ]
  refine takeT (i := 15) (v := ?_) rfl rfl (by kernel_rfl) (by kernel_rfl) (by kernel_rfl) (fun _ _ _ h => h) (by decide) (by kernel_rfl) (by kernel_rfl) ?_ HKZ ?_
  rotate_left
  · intro w hSw; (try dsimp only at hSw); go_simp; (try with_reducible rfl)
  simp only [List.setIfInBounds_toArray, List.set_cons_zero, List.set_cons_succ]
  refine takeT (i := 16) (v := ?_) rfl rfl (by kernel_rfl) (by kernel_rfl) (by kernel_rfl) (fun _ _ _ h => h) (by decide) (by kernel_rfl) (by kernel_rfl) ?_ HKZ ?_
  rotate_left
  · intro w hSw; (try dsimp only at hSw); go_simp; first | (with_reducible rfl) | (rw [if_pos (by omega)])
  simp only [List.setIfInBounds_toArray, List.set_cons_zero, List.set_cons_succ]
  refine takeT (i := 17) (v := ?_) rfl rfl (by kernel_rfl) (by kernel_rfl) (by kernel_rfl) (fun _ _ _ h => h) (by decide) (by kernel_rfl) (by kernel_rfl) ?_ HKZ ?_
  rotate_left
  · intro w hSw; (try dsimp only at hSw); go_simp; (try with_reducible rfl)
  simp only [List.setIfInBounds_toArray, List.set_cons_zero, List.set_cons_succ]
  refine takeT (i := 18) (v := ?_) rfl rfl (by kernel_rfl) (by kernel_rfl) (by kernel_rfl) (fun _ _ _ h => h) (by decide) (by kernel_rfl) (by kernel_rfl) ?_ HKZ ?_
  rotate_left
  · intro w hSw; (try dsimp only at hSw); go_simp; (try with_reducible rfl)
  simp only [List.setIfInBounds_toArray, List.set_cons_zero, List.set_cons_succ]
  refine oneT (i := 19) rfl (by kernel_rfl) (fun K hK => ?_)
  go_simp
  have hb9 : Below w4.heap.size w4 (w4.alloc (.cells #[.int .i64 0, .int .i64 0, .int .i64 0, .int .i64 0, .int .i64 0, .int .i64 0, .slice none 0 0] 34)).drew := ((Below.refl _ _).alloc (Nat.le_refl _) _).drew
  have hg9 : g < w4.heap.size := HG.out
  refine hK.out _ _ (fun _ => ⟨(below_cell hb9 hg9).trans HKZ.1, (below_cell hb9 hg9).trans HKZ.2.1, (below_cell hb9 hg9).trans HKZ.2.2.1, (below_cell hb9 hg9).trans HKZ.2.2.2.1, (below_cell hb9 hg9).trans HKZ.2.2.2.2.1, (below_cell hb9 hg9).trans HKZ.2.2.2.2.2⟩) ?_
  clear hK hb9 hg9
  try simp only [List.setIfInBounds_toArray, List.set_cons_zero, List.set_cons_succ, Act.put]
  refine oneT (i := 20) rfl (by kernel_rfl) (fun K hK => ?_)
  go_simp
  refine hK.out _ _ (fun q => absurd rfl q) ?_
  refine doneT (by kernel_rfl) ?_ _
  clear hK HKZ
  obtain ⟨y1, y2⟩ := box1 w4 #[.int .i64 c.kind, .int .i64 c.lev, .int .i64 c.min, .int .i64 c.start, .int .i64 c.stop, .int .i64 c.fin, .slice none 0 0] 34
  have y1 : Has (w4.alloc (.cells #[.int .i64 c.kind, .int .i64 c.lev, .int .i64 c.min, .int .i64 c.start, .int .i64 c.stop, .int .i64 c.fin, .slice none 0 0] 34)).drew w4.heap.size (clkV c (.slice none 0 0)) 34 := y1
  have HB8 := Lib.hid (below_up' HB4.out y2.drew)
  have HX8 := Lib.hid (HX4.out.below y2.drew HX4.out.lt)
  have HNA8 := Lib.hid (show ∀ k v, k < N → (clkNums c)[k]? = some v → (w4.alloc (.cells #[.int .i64 c.kind, .int .i64 c.lev, .int .i64 c.min, .int .i64 c.start, .int .i64 c.stop, .int .i64 c.fin, .slice none 0 0] 34)).drew.cell? ⟨g, k, none⟩ = some (.int .i64 v) from fun k v hk hv => (below_cell y2.drew HG.out).trans (HNA.out k v hk hv))
  have HI0 := Lib.hid (show RkI c _ _ w4.heap.size 0 from ⟨Nat.zero_le _, ⟨.slice none 0 0, y1, by rw [List.take_zero]; exact World.ownsRow_nil _ _ _ _⟩, Below.refl _ _⟩)
  have HW4 := Lib.hid (show w.heap.size ≤ w4.heap.size from HB4.out.size)
  have HXC := Lib.hid (show w.heap.size < w4.heap.size from HX4.out.lt)
  have hC8 : w4.heap.size ≤ (w4.alloc (.cells #[.int .i64 c.kind, .int .i64 c.lev, .int .i64 c.min, .int .i64 c.start, .int .i64 c.stop, .int .i64 c.fin, .slice none 0 0] 34)).drew.heap.size := y2.drew.size
  clear y1 y2 HNA HX4 HB4
  generalize (w4.alloc (.cells #[.int .i64 c.kind, .int .i64 c.lev, .int .i64 c.min, .int .i64 c.start, .int .i64 c.stop, .int .i64 c.fin, .slice none 0 0] 34)).drew = w8 at *
  generalize w4.heap.size = C at *
  obtain ⟨i0, hi0, hz0, hz1, hz2⟩ := info_parts infoPc
  go_wp2_with fail
  go_loopw [10] (fun iv wr => ∃ m j : Nat, m = 6 + j * 3 ∧ iv = .int .i64 ((m : Nat) : Int) ∧ RkI c w8 wr C j) (fun iv _ => N - (intOf iv).toNat)
  case atStart => exact ⟨6, 0, rfl, rfl, HI0.out⟩
  case round =>
    obtain ⟨m, j, hm, rfl, hI⟩ := hrel
    have HM := Lib.hid hm
    have HI := Lib.hid hI
    clear hm hI HI0
    by_cases hlt : m < N
    · have hj : j < c.ps.length := by have := HM.out; have := HNN.out; omega
      have hm2 : m + 2 < N := by have := HM.out; have := HNN.out; omega
      have a0 : (clkNums c)[m]? = some c.ps[j].1 := by rw [HM.out]; exact (HAT.out j hj 0 (by omega)).trans rfl
      have a1 : (clkNums c)[m + 1]? = some c.ps[j].2.1 := by rw [HM.out]; exact (HAT.out j hj 1 (by omega)).trans rfl
      have a2 : (clkNums c)[m + 2]? = some c.ps[j].2.2 := by rw [HM.out]; exact (HAT.out j hj 2 (by omega)).trans rfl
      have c0 := (below_cell HI.out.below HG.out).trans (HNA8.out _ _ hlt a0)
      have c1 := (below_cell HI.out.below HG.out).trans (HNA8.out _ _ (by omega) a1)
      have c2 := (below_cell HI.out.below HG.out).trans (HNA8.out _ _ hm2 a2)
      obtain ⟨v, hbx, how⟩ := HI.out.mem
      have HNX := Lib.hid (show (c.ps.take (j + 1)).flatMap encPc = (c.ps.take j).flatMap encPc ++ encPc c.ps[j] by rw [List.take_succ_eq_append_getElem hj, List.flatMap_append]; simp)
      obtain ⟨va, vc, rfl⟩ := owns_slice how
      have k6 := hbx.cell 6
      have HBX := Lib.hid hbx
      have HOW := Lib.hid how
      have HBW := Lib.hid HI.out.below
      have hCr : C ≤ wr.heap.size := Nat.le_trans hC8 HI.out.below.size
      have hgC : g < C := HG.out
      clear a0 a1 a2 hbx how HI
      generalize c.ps[j] = q at *
      obtain ⟨q1, q2, q3⟩ := q
      simp only at c0 c1 c2
      have hjl : j ≤ 6000 := by omega
      have r1 : IntKind.i64.wrap ((m : Int) + 1) = ((m + 1 : Nat) : Int) := by rw [IntWalk.i64_in _ (by omega)]; omega
      have r2 : IntKind.i64.wrap ((m : Int) + 2) = ((m + 2 : Nat) : Int) := by rw [IntWalk.i64_in _ (by omega)]; omega
      have r3 : IntKind.i64.wrap ((m : Int) + 3) = ((m + 3 : Nat) : Int) := by rw [IntWalk.i64_in _ (by omega)]; omega
      have hm1 : m + 1 < N := by omega
      have t2 : ((m : Int) + 2).toNat = m + 2 := by omega
      go_upto_region 12 with fail
      have hbd := (Below.refl wr.heap.size wr).drew
      have HXD := Lib.hid (HBX.out.below hbd HBX.out.lt)
      have HOD := Lib.hid (owns_below HOW.out hbd)
      have HBD := Lib.hid (HBW.out.trans (hbd.mono hCr))
      have hS0 : (fun W : World => W.cell? ⟨C, 6, none⟩ = some (.slice va j vc) ∧ W.cell? ⟨g, m, none⟩ = some (.int .i64 q1) ∧ W.cell? ⟨g, m + 1, none⟩ = some (.int .i64 q2) ∧ W.cell? ⟨g, m + 2, none⟩ = some (.int .i64 q3)) wr.drew := ⟨k6, c0, c1, c2⟩
      have hCd : C < wr.drew.heap.size := HXD.out.lt
      refine anyT_start (S := fun W : World => W.cell? ⟨C, 6, none⟩ = some (.slice va j vc) ∧ W.cell? ⟨g, m, none⟩ = some (.int .i64 q1) ∧ W.cell? ⟨g, m + 1, none⟩ = some (.int .i64 q2) ∧ W.cell? ⟨g, m + 2, none⟩ = some (.int .i64 q3)) (t := 20) (by kernel_rfl) ?_
      clear k6 c0 c1 c2 hbd HBX HOW HBW hCr
      generalize wr.drew = wd at *
      refine takeT (i := 0) (v := ?_) rfl rfl (by kernel_rfl) (by kernel_rfl) (by kernel_rfl) (fun _ _ _ h => h) (by decide) (by kernel_rfl) (by kernel_rfl) ?_ hS0 ?_
      rotate_left
      · intro w hSw; (try dsimp only at hSw); go_simp; (try with_reducible rfl)
      simp only [List.setIfInBounds_toArray, List.set_cons_zero, List.set_cons_succ]
      refine takeT (i := 1) (v := ?_) rfl rfl (by kernel_rfl) (by kernel_rfl) (by kernel_rfl) (fun _ _ _ h => h) (by decide) (by kernel_rfl) (by kernel_rfl) ?_ hS0 ?_
      rotate_left
      · intro w hSw; (try dsimp only at hSw); go_simp; (try with_reducible rfl)
      simp only [List.setIfInBounds_toArray, List.set_cons_zero, List.set_cons_succ]
      refine takeT (i := 2) (v := ?_) rfl rfl (by kernel_rfl) (by kernel_rfl) (by kernel_rfl) (fun _ _ _ h => h) (by decide) (by kernel_rfl) (by kernel_rfl) ?_ hS0 ?_
      rotate_left
      · intro w hSw; (try dsimp only at hSw); go_simp; (try with_reducible rfl)
      simp only [List.setIfInBounds_toArray, List.set_cons_zero, List.set_cons_succ]
      refine takeT (i := 3) (v := ?_) rfl rfl (by kernel_rfl) (by kernel_rfl) (by kernel_rfl) (fun _ _ _ h => h) (by decide) (by kernel_rfl) (by kernel_rfl) ?_ hS0 ?_
      rotate_left
      · intro w hSw; (try dsimp only at hSw); go_simp; (try with_reducible rfl)
      simp only [List.setIfInBounds_toArray, List.set_cons_zero, List.set_cons_succ]
      refine takeT (i := 4) (v := ?_) rfl rfl (by kernel_rfl) (by kernel_rfl) (by kernel_rfl) (fun _ _ _ h => h) (by decide) (by kernel_rfl) (by kernel_rfl) ?_ hS0 ?_
      rotate_left
      · intro w hSw; (try dsimp only at hSw); go_simp; first | (with_reducible rfl) | (rw [if_pos (by omega)])
      simp only [List.setIfInBounds_toArray, List.set_cons_zero, List.set_cons_succ]
      refine takeT (i := 5) (v := ?_) rfl rfl (by kernel_rfl) (by kernel_rfl) (by kernel_rfl) (fun _ _ _ h => h) (by decide) (by kernel_rfl) (by kernel_rfl) ?_ hS0 ?_
      rotate_left
      · intro w hSw; (try dsimp only at hSw); go_simp; (try with_reducible rfl)
      simp only [List.setIfInBounds_toArray, List.set_cons_zero, List.set_cons_succ]
      refine takeT (i := 6) (v := ?_) rfl rfl (by kernel_rfl) (by kernel_rfl) (by kernel_rfl) (fun _ _ _ h => h) (by decide) (by kernel_rfl) (by kernel_rfl) ?_ hS0 ?_
      rotate_left
      · intro w hSw; (try dsimp only at hSw); go_simp; (try with_reducible rfl)
      simp only [List.setIfInBounds_toArray, List.set_cons_zero, List.set_cons_succ]
      refine takeT (i := 7) (v := ?_) rfl rfl (by kernel_rfl) (by kernel_rfl) (by kernel_rfl) (fun _ _ _ h => h) (by decide) (by kernel_rfl) (by kernel_rfl) ?_ hS0 ?_
      rotate_left
      · intro w hSw; (try dsimp only at hSw); go_simp; (try with_reducible rfl)
      simp only [List.setIfInBounds_toArray, List.set_cons_zero, List.set_cons_succ]
      refine takeT (i := 8) (v := ?_) rfl rfl (by kernel_rfl) (by kernel_rfl) (by kernel_rfl) (fun _ _ _ h => h) (by decide) (by kernel_rfl) (by kernel_rfl) ?_ hS0 ?_
      rotate_left
      · intro w hSw; (try dsimp only at hSw); go_simp; (try with_reducible rfl)
      simp only [List.setIfInBounds_toArray, List.set_cons_zero, List.set_cons_succ]
      refine takeT (i := 9) (v := ?_) rfl rfl (by kernel_rfl) (by kernel_rfl) (by kernel_rfl) (fun _ _ _ h => h) (by decide) (by kernel_rfl) (by kernel_rfl) ?_ hS0 ?_
      rotate_left
      · intro w hSw; (try dsimp only at hSw); go_simp; first | (with_reducible rfl) | (rw [if_pos (by omega)])
      simp only [List.setIfInBounds_toArray, List.set_cons_zero, List.set_cons_succ]
      refine takeT (i := 10) (v := ?_) rfl rfl (by kernel_rfl) (by kernel_rfl) (by kernel_rfl) (fun _ _ _ h => h) (by decide) (by kernel_rfl) (by kernel_rfl) ?_ hS0 ?_
      rotate_left
      · intro w hSw; (try dsimp only at hSw); go_simp; (try with_reducible rfl)
      simp only [List.setIfInBounds_toArray, List.set_cons_zero, List.set_cons_succ]
      refine takeT (i := 11) (v := ?_) rfl rfl (by kernel_rfl) (by kernel_rfl) (by kernel_rfl) (fun _ _ _ h => h) (by decide) (by kernel_rfl) (by kernel_rfl) ?_ hS0 ?_
      rotate_left
      · intro w hSw; (try dsimp only at hSw); go_simp; (try with_reducible rfl)
      simp only [List.setIfInBounds_toArray, List.set_cons_zero, List.set_cons_succ]
      refine takeT (i := 12) (v := ?_) rfl rfl (by kernel_rfl) (by kernel_rfl) (by kernel_rfl) (fun _ _ _ h => h) (by decide) (by kernel_rfl) (by kernel_rfl) ?_ hS0 ?_
      rotate_left
      · intro w hSw; (try dsimp only at hSw); go_simp; (try with_reducible rfl)
      simp only [List.setIfInBounds_toArray, List.set_cons_zero, List.set_cons_succ]
      refine takeT (i := 13) (v := ?_) rfl rfl (by kernel_rfl) (by kernel_rfl) (by kernel_rfl) (fun _ _ _ h => h) (by decide) (by kernel_rfl) (by kernel_rfl) ?_ hS0 ?_
      rotate_left
      · intro w hSw; (try dsimp only at hSw); go_simp; (try with_reducible rfl)
      simp only [List.setIfInBounds_toArray, List.set_cons_zero, List.set_cons_succ]
      refine takeT (i := 14) (v := ?_) rfl rfl (by kernel_rfl) (by kernel_rfl) (by kernel_rfl) (fun _ _ _ h => h) (by decide) (by kernel_rfl) (by kernel_rfl) ?_ hS0 ?_
      rotate_left
      · intro w hSw; (try dsimp only at hSw); go_simp; first | (with_reducible rfl) | (rw [if_pos (by omega)])
      simp only [List.setIfInBounds_toArray, List.set_cons_zero, List.set_cons_succ]
      refine takeT (i := 15) (v := ?_) rfl rfl (by kernel_rfl) (by kernel_rfl) (by kernel_rfl) (fun _ _ _ h => h) (by decide) (by kernel_rfl) (by kernel_rfl) ?_ hS0 ?_
      rotate_left
      · intro w hSw; (try dsimp only at hSw); go_simp; (try with_reducible rfl)
      simp only [List.setIfInBounds_toArray, List.set_cons_zero, List.set_cons_succ]
      refine takeT (i := 16) (v := ?_) rfl rfl (by kernel_rfl) (by kernel_rfl) (by kernel_rfl) (fun _ _ _ h => h) (by decide) (by kernel_rfl) (by kernel_rfl) ?_ hS0 ?_
      rotate_left
      · intro w hSw; (try dsimp only at hSw); go_simp; (try with_reducible rfl)
      simp only [List.setIfInBounds_toArray, List.set_cons_zero, List.set_cons_succ]
      refine oneT (i := 17) rfl (by kernel_rfl) (fun K hK => ?_)
      go_simp
      have hb6 : Below wd.heap.size wd (wd.alloc (.cells #[.int .i64 q1, .int .i64 q2, .int .i64 q3] 79)) := (Below.refl _ _).alloc (Nat.le_refl _) _
      have hS6 : (fun W : World => W.cell? ⟨C, 6, none⟩ = some (.slice va j vc) ∧ W.cell? ⟨g, m, none⟩ = some (.int .i64 q1) ∧ W.cell? ⟨g, m + 1, none⟩ = some (.int .i64 q2) ∧ W.cell? ⟨g, m + 2, none⟩ = some (.int .i64 q3)) (wd.alloc (.cells #[.int .i64 q1, .int .i64 q2, .int .i64 q3] 79)) := ⟨(below_cell hb6 hCd).trans hS0.1, (below_cell hb6 (Nat.lt_trans hgC hCd)).trans hS0.2.1, (below_cell hb6 (Nat.lt_trans hgC hCd)).trans hS0.2.2.1, (below_cell hb6 (Nat.lt_trans hgC hCd)).trans hS0.2.2.2⟩
      refine hK.out _ _ (fun _ => hS6) ?_
      clear hK
      try simp only [List.setIfInBounds_toArray, List.set_cons_zero, List.set_cons_succ, Act.put]
      refine oneT (i := 18) rfl (by kernel_rfl) (fun K hK => ?_)
      refine step_append_lies _ (by rfl) _ _ _ (by rfl) C 79 i0 (.agg #[.int .i64 0, .int .i64 0, .int .i64 0]) 3 24 Tryz.underlying32 hi0 hz0 hz1 hz2 rfl (by omega) _ _ _ (by rfl) (HOD.out.alloc _) ⟨wd.heap.size, 0, none⟩ 1 1 [.int .i64 q1, .int .i64 q2, .int .i64 q3] (by rfl) rfl (World.news_of_block (heap_alloc_new _ _)) (by simp [Value.oneCell']) (by first | omega | (unfold maxLen; omega) | (simp only; omega) | (simp only; unfold maxLen; omega)) (by first | omega | (unfold maxLen; omega) | (simp only; omega) | (simp only; unfold maxLen; omega)) (by first | omega | (unfold maxLen; omega) | (simp only; omega) | (simp only; unfold maxLen; omega)) (by simp; omega) (wd.heap.size + 1) (by simp) ?_
      intro g' c' w6 hown1 hgrow hat hlt'
      have hown4 := HOD.out.alloc (.cells #[.int .i64 q1, .int .i64 q2, .int .i64 q3] 79)
      have box6 := (HXD.out.alloc (.cells #[.int .i64 q1, .int .i64 q2, .int .i64 q3] 79)).kept_own hown4 (by decide) hgrow
      have hb7 : Below C w8 w6 := (HBD.out.alloc (by omega) _).grown hgrow (by simp; omega) (fun q hq => (hown4.lt q hq).1)
      have hgX : (Value.slice (some ⟨g', 0, none⟩) (j + 1) c').ownBlock ≠ some C := fun q => by
        obtain ⟨ds, hd⟩ := own_type hown1 q
        have hb : w6.heap[C]? = some (.cells _ 34 (0, 0)) := box6
        rw [hb] at hd
        cases hd
      have HZ := Lib.hid (show RkI c w8 (w6.setCell ⟨C, 6, none⟩ (.slice (some ⟨g', 0, none⟩) (j + 1) c')) C (j + 1) from by
        refine ⟨hj, ⟨_, box6.set 6 _, ?_⟩, hb7.setCell (p := ⟨C, 6, none⟩) (Nat.le_refl _) _⟩
        have h1 : w6.ownsRow C 79 3 (.slice (some ⟨g', 0, none⟩) (j + 1) c') (j + 1) ((c.ps.take (j + 1)).flatMap encPc) := by
          rw [HNX.out]
          exact hown1
        exact ownsRow_setCell_other (a := ⟨C, 6, none⟩) h1 hgX _)
      have z6 := box6.cell 6
      have y6 := box6.fz 6
      unfold clkV at z6
      have zg : ∀ k, w6.cell? ⟨g, k, none⟩ = wd.cell? ⟨g, k, none⟩ := fun k => (below_cell hb7 hgC).trans (below_cell HBD.out hgC).symm
      have hS7 : (fun W : World => W.cell? ⟨C, 6, none⟩ = some (.slice va j vc) ∧ W.cell? ⟨g, m, none⟩ = some (.int .i64 q1) ∧ W.cell? ⟨g, m + 1, none⟩ = some (.int .i64 q2) ∧ W.cell? ⟨g, m + 2, none⟩ = some (.int .i64 q3)) w6 := ⟨z6, (zg _).trans hS0.2.1, (zg _).trans hS0.2.2.1, (zg _).trans hS0.2.2.2⟩
      refine hK.out _ _ (fun _ => hS7) ?_
      clear hK hown1 hgrow hat hlt' hown4 box6 hb7 hgX hb6 hS6 hS0 zg z6
      try simp only [List.setIfInBounds_toArray, List.set_cons_zero, List.set_cons_succ, Act.put]
      refine oneT (i := 19) rfl (by kernel_rfl) (fun K hK => ?_)
      go_simp
      refine hK.out _ _ (fun _ => hS7) ?_
      clear hK
      try simp only [List.setIfInBounds_toArray, List.set_cons_zero, List.set_cons_succ, Act.put]
      have x6 : w6.cell? ⟨C, 6, none⟩ = some (.slice va j vc) := hS7.1
      refine oneT (i := 20) rfl (by kernel_rfl) (fun K hK => ?_)
      go_simp
      refine hK.out _ _ (fun q => absurd rfl q) ?_
      refine doneT (by kernel_rfl) ?_ _
      clear hS7 x6 y6 HXD HOD HBD hK
      go_wp2_with fail
      go_roundw
      case rel => exact ⟨m + 3, j + 1, by have := HM.out; omega, by go_num, HZ.out⟩
      case measure => simp [intOf]; omega
    · obtain rfl : j = c.ps.length := by have := HI.out.le; have := HM.out; have := HNN.out; omega
      obtain ⟨v, hbx, how⟩ := HI.out.mem
      rw [List.take_length] at how
      obtain ⟨va, vc, rfl⟩ := owns_slice how
      have hsh : Shifts wr (.slice va c.ps.length vc) c.ps := slice_of_owns encPc how (fun _ _ => rfl) (fun _ _ => rfl)
      have HCK := Lib.hid (CheckClock_any c _ wr hsh)
      have HBR := Lib.hid (HB8.out.trans (HI.out.below.mono HW4.out))
      have HXR := Lib.hid (HX8.out.below HI.out.below HXC.out)
      have k0 := hbx.cell 0
      have k1 := hbx.cell 1
      have k2 := hbx.cell 2
      have k3 := hbx.cell 3
      have k4 := hbx.cell 4
      have k5 := hbx.cell 5
      have k6 := hbx.cell 6
      have HOW := Lib.hid how
      have HBX := Lib.hid hbx
      clear hbx how hsh HI HM
      unfold clkV at *
      go_wp2_with fail
      refine HCK.out.mono ?_
      rintro e w5 ⟨⟨k, rfl, hk⟩, hb5⟩
      obtain rfl : k = 0 := hk.2 HOK.out
      have HX5 := Lib.hid (HXR.out.below hb5 HXR.out.lt)
      have hB5 := HBX.out.below hb5 HBX.out.lt
      have hO5 := owns_below HOW.out hb5
      have hne : (Value.slice va c.ps.length vc).ownBlock ≠ some w.heap.size := fun q => by
        have := (hO5.lt _ q).1
        have := HXC.out
        omega
      have HZ := Lib.hid (set7_has HX5.out (.int .i64 c.kind) (.int .i64 c.lev) (.int .i64 c.min) (.int .i64 c.start) (.int .i64 c.stop) (.int .i64 c.fin) (.slice va c.ps.length vc))
      have HQ := Lib.hid (show Shifts _ (.slice va c.ps.length vc) c.ps from slice_of_owns encPc (set7_owns hO5 hne (.int .i64 c.kind) (.int .i64 c.lev) (.int .i64 c.min) (.int .i64 c.start) (.int .i64 c.stop) (.int .i64 c.fin) (.slice va c.ps.length vc)) (fun _ _ => rfl) (fun _ _ => rfl))
      have HBZ := Lib.hid (set7_below (below_up' HBR.out hb5) (Nat.le_refl _) (.int .i64 c.kind) (.int .i64 c.lev) (.int .i64 c.min) (.int .i64 c.start) (.int .i64 c.stop) (.int .i64 c.fin) (.slice va c.ps.length vc))
      have f0 := HX5.out.fz 0
      have f1 := HX5.out.fz 1
      have f2 := HX5.out.fz 2
      have f3 := HX5.out.fz 3
      have f4 := HX5.out.fz 4
      have f5 := HX5.out.fz 5
      have f6 := HX5.out.fz 6
      have r0 := HX5.out.cell 0
      have r1 := HX5.out.cell 1
      have r2 := HX5.out.cell 2
      have r3 := HX5.out.cell 3
      have r4 := HX5.out.cell 4
      have r5 := HX5.out.cell 5
      have r6 := HX5.out.cell 6
      clear k0 k1 k2 k3 k4 k5 k6
      have k0 := hB5.cell 0
      have k1 := hB5.cell 1
      have k2 := hB5.cell 2
      have k3 := hB5.cell 3
      have k4 := hB5.cell 4
      have k5 := hB5.cell 5
      have k6 := hB5.cell 6
      clear hk hb5 hB5 hO5 hne HCK HXR HBX HOW HBR
      go_wp2_with fail
      try simp only [Exit.inBlock, Exit.then]
      refine bodyPost_ret (results_cell_tmp_row rfl _ _ w.heap.size _ _ (0, 0) _ rfl HZ.out Tryz.underlying34 rfl infoClkR) rfl ?_
      exact ⟨⟨_, rfl, HQ.out⟩, HBZ.out⟩
end Go.Proofs.YtllcgcnebofdoaaGreatDoor
