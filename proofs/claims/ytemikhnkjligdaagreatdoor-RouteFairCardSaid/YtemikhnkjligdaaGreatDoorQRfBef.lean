/- The walk of route.desk.before. -/
import Derived.Test.YtemikhnkjligdaaGreatDoorQRfCln
import Derived.Test.YtemikhnkjligdaaGreatDoorQRfOrd
namespace Go.Proofs.YtemikhnkjligdaaGreatDoor
open Go Go.RowKit Go.Sort Go.Shelf

def st4 (w : World) (b : Nat) (v0 v1 v2 v3 : Value) : World := (((w.setCell ⟨b, 0, none⟩ v0).setCell ⟨b, 1, none⟩ v1).setCell ⟨b, 2, none⟩ v2).setCell ⟨b, 3, none⟩ v3
theorem st4_gr {a w : World} (h : Gr a w) {b : Nat} (hb : a.heap.size ≤ b) (v0 v1 v2 v3 : Value) : Gr a (st4 w b v0 v1 v2 v3) :=
  (((h.setCell (p := ⟨b, 0, none⟩) hb v0).setCell (p := ⟨b, 1, none⟩) hb v1).setCell (p := ⟨b, 2, none⟩) hb v2).setCell (p := ⟨b, 3, none⟩) hb v3
theorem st4_has {w : World} {b : Nat} {u0 u1 u2 u3 : Value} {t : TypeId} (h : Has w b #[u0, u1, u2, u3] t) (v0 v1 v2 v3 : Value) : Has (st4 w b v0 v1 v2 v3) b #[v0, v1, v2, v3] t :=
  (((h.set 0 v0).set 1 v1).set 2 v2).set 3 v3
theorem st4_other {w : World} {b c : Nat} {cs : Array Value} {t : TypeId} (h : Has w c cs t) (hne : c ≠ b) (v0 v1 v2 v3 : Value) : Has (st4 w b v0 v1 v2 v3) c cs t :=
  (((h.set_other 0 v0 hne).set_other 1 v1 hne).set_other 2 v2 hne).set_other 3 v3 hne
/-- a desk in memory -/
structure DeskAt (w : World) (D Du We La : Nat) (vp : Value) (ps : List PerD) (du : List Bool) (we la : List Int) : Prop where
  box : Has w D #[vp, .slice (some ⟨Du, 0, none⟩) ps.length ps.length, .slice (some ⟨We, 0, none⟩) ps.length ps.length, .slice (some ⟨La, 0, none⟩) ps.length ps.length] 93
  dus : BoolsB w Du du
  wes : IntsB w We we
  las : IntsB w La la
  ld : du.length = ps.length
  lw : we.length = ps.length
  ll : la.length = ps.length
theorem DeskAt.below {w w' : World} {D Du We La : Nat} {vp : Value} {ps : List PerD} {du : List Bool} {we la : List Int} (h : DeskAt w D Du We La vp ps du we la) {B : Nat} (hb : Below B w w') (hB : w.heap.size ≤ B) : DeskAt w' D Du We La vp ps du we la :=
  ⟨Has.below h.box hb (Nat.lt_of_lt_of_le h.box.lt hB), Has.below h.dus hb (Nat.lt_of_lt_of_le (Has.lt h.dus) hB), Has.below h.wes hb (Nat.lt_of_lt_of_le (Has.lt h.wes) hB), Has.below h.las hb (Nat.lt_of_lt_of_le (Has.lt h.las) hB), h.ld, h.lw, h.ll⟩
set_option maxRecDepth 100000 in
set_option maxHeartbeats 2000000 in
theorem before_any (ps : List PerD) (vp : Value) (D Du We La : Nat) (du : List Bool) (we la : List Int) (w : World) (hd : DeskAt w D Du We La vp ps du we la) (h : Pers w vp ps) (a b : Nat) (ha : a < ps.length) (hb : b < ps.length) :
    Calls Tryz.prog 59 #[.pointer (some ⟨D, 0, none⟩), .int .i64 ((a : Nat) : Int), .int .i64 ((b : Nat) : Int)] w fun e w' => (∃ k : Int, e = .returned (.int .i64 k)) ∧ Below w.heap.size w w' := by
  obtain ⟨bk, off, cap, rfl, hbk, hel⟩ := Pers.at h (by omega)
  obtain ⟨u, e0, e1, e2, e3, hsk⟩ := hel a ha
  obtain ⟨s1, c1, rfl⟩ := SliceAt.len hsk
  obtain ⟨u', f0, f1, f2, f3, hsk'⟩ := hel b hb
  obtain ⟨s2, c2, rfl⟩ := SliceAt.len hsk'
  clear h hel hsk hsk'
  obtain ⟨wa, hwa⟩ : ∃ x, x = we[a]'(by rw [hd.lw]; exact ha) := ⟨_, rfl⟩
  obtain ⟨wb, hwb⟩ : ∃ x, x = we[b]'(by rw [hd.lw]; exact hb) := ⟨_, rfl⟩
  obtain ⟨ta, hta⟩ : ∃ x, x = la[a]'(by rw [hd.ll]; exact ha) := ⟨_, rfl⟩
  obtain ⟨tb, htb⟩ : ∃ x, x = la[b]'(by rw [hd.ll]; exact hb) := ⟨_, rfl⟩
  have hDl := hd.box.lt
  have hWl := Has.lt hd.wes
  have hLl := Has.lt hd.las
  have d0 := hd.box.cell 0
  have d2 := hd.box.cell 2
  have d3 := hd.box.cell 3
  have g1 := (hd.wes.cells a (by rw [hd.lw]; exact ha)).1
  have g2 := (hd.wes.cells b (by rw [hd.lw]; exact hb)).1
  have g3 := (hd.las.cells a (by rw [hd.ll]; exact ha)).1
  have g4 := (hd.las.cells b (by rw [hd.ll]; exact hb)).1
  rw [← hwa] at g1
  rw [← hwb] at g2
  rw [← hta] at g3
  rw [← htb] at g4
  clear hwa hwb hta htb hd
  generalize hla : ps[a] = x at *
  generalize hlb : ps[b] = y at *
  obtain ⟨x1, x2, x3, xs⟩ := x
  obtain ⟨y1, y2, y3, ys⟩ := y
  simp only at e0 e1 e2 e3 f0 f1 f2 f3
  generalize xs.length = n1 at *
  generalize ys.length = n2 at *
  clear hla hlb
  generalize ps.length = n at *
  have HKS := Lib.hid (fun W (hW : Below w.heap.size w W) => (⟨(below_cell hW hDl).trans d0, (below_cell hW hbk).trans e0, (below_cell hW hbk).trans e1, (below_cell hW hbk).trans e2, (below_cell hW hbk).trans e3,
    (below_cell hW hbk).trans f0, (below_cell hW hbk).trans f1, (below_cell hW hbk).trans f2, (below_cell hW hbk).trans f3⟩ : W.cell? ⟨D, 0, none⟩ = some (.slice (some ⟨bk, off, none⟩) n cap) ∧ W.cell? ⟨bk, off + a * 4, none⟩ = some (.int .i64 x1) ∧ W.cell? ⟨bk, off + a * 4 + 1, none⟩ = some (.int .i64 x2) ∧ W.cell? ⟨bk, off + a * 4 + 2, none⟩ = some (.int .i64 x3) ∧ W.cell? ⟨bk, off + a * 4 + 3, none⟩ = some (.slice s1 n1 c1) ∧ W.cell? ⟨bk, off + b * 4, none⟩ = some (.int .i64 y1) ∧ W.cell? ⟨bk, off + b * 4 + 1, none⟩ = some (.int .i64 y2) ∧ W.cell? ⟨bk, off + b * 4 + 2, none⟩ = some (.int .i64 y3) ∧ W.cell? ⟨bk, off + b * 4 + 3, none⟩ = some (.slice s2 n2 c2)))
  have HKD := Lib.hid (fun W (hW : Below w.heap.size w W) => (⟨(below_cell hW hDl).trans d2, (below_cell hW hDl).trans d3, (below_cell hW hWl).trans g1, (below_cell hW hWl).trans g2, (below_cell hW hLl).trans g3, (below_cell hW hLl).trans g4⟩ : W.cell? ⟨D, 2, none⟩ = some (.slice (some ⟨We, 0, none⟩) n n) ∧ W.cell? ⟨D, 3, none⟩ = some (.slice (some ⟨La, 0, none⟩) n n) ∧ W.cell? ⟨We, a, none⟩ = some (.int .i64 wa) ∧ W.cell? ⟨We, b, none⟩ = some (.int .i64 wb) ∧ W.cell? ⟨La, a, none⟩ = some (.int .i64 ta) ∧ W.cell? ⟨La, b, none⟩ = some (.int .i64 tb)))
  clear d0 d2 d3 g1 g2 g3 g4 e0 e1 e2 e3 f0 f1 f2 f3
  go_enter Tryz.func59, Tryz.ntmps59
  go_upto_region 1 with fail
  go_cut [7, 8] (fun u v wx => ∃ X Y : Nat, u = .pointer (some ⟨X, 0, none⟩) ∧ v = .pointer (some ⟨Y, 0, none⟩) ∧ Has wx X #[.int .i64 x1, .int .i64 x2, .int .i64 x3, .slice s1 n1 c1] 65 ∧ Has wx Y #[.int .i64 y1, .int .i64 y2, .int .i64 y3, .slice s2 n2 c2] 65 ∧ Gr w wx)
  case first =>
    refine anyT_start (S := fun W : World => W.cell? ⟨D, 0, none⟩ = some (.slice (some ⟨bk, off, none⟩) n cap) ∧ W.cell? ⟨bk, off + a * 4, none⟩ = some (.int .i64 x1) ∧ W.cell? ⟨bk, off + a * 4 + 1, none⟩ = some (.int .i64 x2) ∧ W.cell? ⟨bk, off + a * 4 + 2, none⟩ = some (.int .i64 x3) ∧ W.cell? ⟨bk, off + a * 4 + 3, none⟩ = some (.slice s1 n1 c1) ∧ W.cell? ⟨bk, off + b * 4, none⟩ = some (.int .i64 y1) ∧ W.cell? ⟨bk, off + b * 4 + 1, none⟩ = some (.int .i64 y2) ∧ W.cell? ⟨bk, off + b * 4 + 2, none⟩ = some (.int .i64 y3) ∧ W.cell? ⟨bk, off + b * 4 + 3, none⟩ = some (.slice s2 n2 c2)) (t := 18) (by kernel_rfl) ?_
    have hS0 := HKS.out _ (Below.refl _ _).drew
    have hb0 : Below w.heap.size w w.drew := (Below.refl _ _).drew
    have HG0 := Lib.hid (Gr.refl w).drew
    have hz0 : w.heap.size ≤ w.drew.heap.size := Nat.le_refl _
    generalize w.drew = wd at *
    refine takeS (i := 0) (v := ?_) rfl rfl (by kernel_rfl) (by kernel_rfl) (by kernel_rfl) (fun _ _ _ h => h) (by decide) (by kernel_rfl) ?_ hS0 ?_
    rotate_left
    · intro w hSw; (try dsimp only at hSw); go_simp; (try with_reducible rfl)
    simp only [List.setIfInBounds_toArray, List.set_cons_zero, List.set_cons_succ]
    refine takeS (i := 1) (v := ?_) rfl rfl (by kernel_rfl) (by kernel_rfl) (by kernel_rfl) (fun _ _ _ h => h) (by decide) (by kernel_rfl) ?_ hS0 ?_
    rotate_left
    · intro w hSw; (try dsimp only at hSw); go_simp; (try with_reducible rfl)
    simp only [List.setIfInBounds_toArray, List.set_cons_zero, List.set_cons_succ]
    refine takeS (i := 2) (v := ?_) rfl rfl (by kernel_rfl) (by kernel_rfl) (by kernel_rfl) (fun _ _ _ h => h) (by decide) (by kernel_rfl) ?_ hS0 ?_
    rotate_left
    · intro w hSw; (try dsimp only at hSw); go_simp; (try with_reducible rfl)
    simp only [List.setIfInBounds_toArray, List.set_cons_zero, List.set_cons_succ]
    refine takeS (i := 3) (v := ?_) rfl rfl (by kernel_rfl) (by kernel_rfl) (by kernel_rfl) (fun _ _ _ h => h) (by decide) (by kernel_rfl) ?_ hS0 ?_
    rotate_left
    · intro w hSw; (try dsimp only at hSw); go_simp; (try with_reducible rfl)
    simp only [List.setIfInBounds_toArray, List.set_cons_zero, List.set_cons_succ]
    refine takeS (i := 4) (v := ?_) rfl rfl (by kernel_rfl) (by kernel_rfl) (by kernel_rfl) (fun _ _ _ h => h) (by decide) (by kernel_rfl) ?_ hS0 ?_
    rotate_left
    · intro w hSw; (try dsimp only at hSw); go_simp; (try with_reducible rfl)
    simp only [List.setIfInBounds_toArray, List.set_cons_zero, List.set_cons_succ]
    refine takeS (i := 5) (v := ?_) rfl rfl (by kernel_rfl) (by kernel_rfl) (by kernel_rfl) (fun _ _ _ h => h) (by decide) (by kernel_rfl) ?_ hS0 ?_
    rotate_left
    · intro w hSw; (try dsimp only at hSw); go_simp; first | (with_reducible rfl) | (rw [if_pos (by omega)])
    simp only [List.setIfInBounds_toArray, List.set_cons_zero, List.set_cons_succ]
    refine takeS (i := 6) (v := ?_) rfl rfl (by kernel_rfl) (by kernel_rfl) (by kernel_rfl) (fun _ _ _ h => h) (by decide) (by kernel_rfl) ?_ hS0 ?_
    rotate_left
    · intro w hSw; (try dsimp only at hSw); go_simp; (try with_reducible rfl)
    simp only [List.setIfInBounds_toArray, List.set_cons_zero, List.set_cons_succ]
    refine takeS (i := 7) (v := ?_) rfl rfl (by kernel_rfl) (by kernel_rfl) (by kernel_rfl) (fun _ _ _ h => h) (by decide) (by kernel_rfl) ?_ hS0 ?_
    rotate_left
    · intro w hSw; (try dsimp only at hSw); go_simp; (try with_reducible rfl)
    simp only [List.setIfInBounds_toArray, List.set_cons_zero, List.set_cons_succ]
    refine takeS (i := 8) (v := ?_) rfl rfl (by kernel_rfl) (by kernel_rfl) (by kernel_rfl) (fun _ _ _ h => h) (by decide) (by kernel_rfl) ?_ hS0 ?_
    rotate_left
    · intro w hSw; (try dsimp only at hSw); go_simp; (try with_reducible rfl)
    simp only [List.setIfInBounds_toArray, List.set_cons_zero, List.set_cons_succ]
    refine takeS (i := 9) (v := ?_) rfl rfl (by kernel_rfl) (by kernel_rfl) (by kernel_rfl) (fun _ _ _ h => h) (by decide) (by kernel_rfl) ?_ hS0 ?_
    rotate_left
    · intro w hSw; (try dsimp only at hSw); go_simp; (try with_reducible rfl)
    simp only [List.setIfInBounds_toArray, List.set_cons_zero, List.set_cons_succ]
    refine takeS (i := 10) (v := ?_) rfl rfl (by kernel_rfl) (by kernel_rfl) (by kernel_rfl) (fun _ _ _ h => h) (by decide) (by kernel_rfl) ?_ hS0 ?_
    rotate_left
    · intro w hSw; (try dsimp only at hSw); go_simp; (try with_reducible rfl)
    simp only [List.setIfInBounds_toArray, List.set_cons_zero, List.set_cons_succ]
    refine takeS (i := 11) (v := ?_) rfl rfl (by kernel_rfl) (by kernel_rfl) (by kernel_rfl) (fun _ _ _ h => h) (by decide) (by kernel_rfl) ?_ hS0 ?_
    rotate_left
    · intro w hSw; (try dsimp only at hSw); go_simp; (try with_reducible rfl)
    simp only [List.setIfInBounds_toArray, List.set_cons_zero, List.set_cons_succ]
    refine takeS (i := 12) (v := ?_) rfl rfl (by kernel_rfl) (by kernel_rfl) (by kernel_rfl) (fun _ _ _ h => h) (by decide) (by kernel_rfl) ?_ hS0 ?_
    rotate_left
    · intro w hSw; (try dsimp only at hSw); go_simp; first | (with_reducible rfl) | (rw [if_pos (by omega)])
    simp only [List.setIfInBounds_toArray, List.set_cons_zero, List.set_cons_succ]
    refine takeS (i := 13) (v := ?_) rfl rfl (by kernel_rfl) (by kernel_rfl) (by kernel_rfl) (fun _ _ _ h => h) (by decide) (by kernel_rfl) ?_ hS0 ?_
    rotate_left
    · intro w hSw; (try dsimp only at hSw); go_simp; (try with_reducible rfl)
    simp only [List.setIfInBounds_toArray, List.set_cons_zero, List.set_cons_succ]
    refine twoT (i := 14) (j := 15) rfl rfl (by kernel_rfl) (fun K hK => ?_) (fun K hK => ?_)
    · skip
      go_simp
      have hb1 : Below w.heap.size w (wd.alloc (.cells #[.int .i64 0, .int .i64 0, .int .i64 0, .slice none 0 0] 65)) := hb0.alloc (by omega) _
      have hS1 := HKS.out _ hb1
      refine hK.out _ _ (fun _ => hS1) ?_
      clear hK
      try simp only [List.setIfInBounds_toArray, List.set_cons_zero, List.set_cons_succ, Act.put]
      refine oneT (i := 15) rfl (by kernel_rfl) (fun K hK => ?_)
      go_simp
      have hb2 : Below w.heap.size w ((wd.alloc (.cells #[.int .i64 0, .int .i64 0, .int .i64 0, .slice none 0 0] 65)).alloc (.cells #[.int .i64 0, .int .i64 0, .int .i64 0, .slice none 0 0] 65)) := hb1.alloc (by simp; omega) _
      have hS2 := HKS.out _ hb2
      have h1 : Has ((wd.alloc (.cells #[.int .i64 0, .int .i64 0, .int .i64 0, .slice none 0 0] 65)).alloc (.cells #[.int .i64 0, .int .i64 0, .int .i64 0, .slice none 0 0] 65)) wd.heap.size #[.int .i64 0, .int .i64 0, .int .i64 0, .slice none 0 0] 65 := (Has.new _ _ _).alloc _
      have h2 : Has ((wd.alloc (.cells #[.int .i64 0, .int .i64 0, .int .i64 0, .slice none 0 0] 65)).alloc (.cells #[.int .i64 0, .int .i64 0, .int .i64 0, .slice none 0 0] 65)) (wd.heap.size + 1) #[.int .i64 0, .int .i64 0, .int .i64 0, .slice none 0 0] 65 := by
        have := Has.new (wd.alloc (.cells #[.int .i64 0, .int .i64 0, .int .i64 0, .slice none 0 0] 65)) #[.int .i64 0, .int .i64 0, .int .i64 0, .slice none 0 0] 65
        simpa using this
      refine hK.out _ _ (fun _ => hS2) ?_
      clear hK hS0 hS1 hb1
      try simp only [List.setIfInBounds_toArray, List.set_cons_zero, List.set_cons_succ, Act.put]
      generalize hw2 : ((wd.alloc (.cells #[.int .i64 0, .int .i64 0, .int .i64 0, .slice none 0 0] 65)).alloc (.cells #[.int .i64 0, .int .i64 0, .int .i64 0, .slice none 0 0] 65)) = w2 at *
      have hX : w.heap.size ≤ wd.heap.size := by omega
      have hY : w.heap.size ≤ wd.heap.size + 1 := by omega
      have hXY : wd.heap.size ≠ wd.heap.size + 1 := by omega
      have hx := h1
      have hy := h2
      have hg2 : Gr w w2 := by
        rw [← hw2]
        exact (HG0.out.alloc _).alloc _
      clear h1 h2 hw2 hb2 hb0
      generalize wd.heap.size + 1 = Yb at *
      generalize wd.heap.size = Xb at *
      clear hz0
      have q0 := hx.cell 0
      have q1 := hx.cell 1
      have q2 := hx.cell 2
      have q3 := hx.cell 3
      have p0 := hx.fz 0
      have p1 := hx.fz 1
      have p2 := hx.fz 2
      have p3 := hx.fz 3
      have hg3 := st4_gr hg2 hX (.int .i64 x1) (.int .i64 x2) (.int .i64 x3) (.slice s1 n1 c1)
      have hx3 := st4_has hx (.int .i64 x1) (.int .i64 x2) (.int .i64 x3) (.slice s1 n1 c1)
      have hy3 := st4_other hy (Ne.symm hXY) (.int .i64 x1) (.int .i64 x2) (.int .i64 x3) (.slice s1 n1 c1)
      have hS3 := HKS.out _ hg3.1
      clear hx hy
      refine oneT (i := 16) rfl (by kernel_rfl) (fun K hK => ?_)
      go_simp
      refine hK.out _ (st4 w2 Xb (.int .i64 x1) (.int .i64 x2) (.int .i64 x3) (.slice s1 n1 c1)) (fun _ => hS3) ?_
      clear hK q0 q1 q2 q3 p0 p1 p2 p3
      try simp only [List.setIfInBounds_toArray, List.set_cons_zero, List.set_cons_succ, Act.put]
      generalize st4 w2 Xb (.int .i64 x1) (.int .i64 x2) (.int .i64 x3) (.slice s1 n1 c1) = w3 at *
      have q0 := hy3.cell 0
      have q1 := hy3.cell 1
      have q2 := hy3.cell 2
      have q3 := hy3.cell 3
      have p0 := hy3.fz 0
      have p1 := hy3.fz 1
      have p2 := hy3.fz 2
      have p3 := hy3.fz 3
      have hg4 := st4_gr hg3 hY (.int .i64 y1) (.int .i64 y2) (.int .i64 y3) (.slice s2 n2 c2)
      have hy4 := st4_has hy3 (.int .i64 y1) (.int .i64 y2) (.int .i64 y3) (.slice s2 n2 c2)
      have hx4 := st4_other hx3 hXY (.int .i64 y1) (.int .i64 y2) (.int .i64 y3) (.slice s2 n2 c2)
      have hS4 := HKS.out _ hg4.1
      refine oneT (i := 17) rfl (by kernel_rfl) (fun K hK => ?_)
      go_simp
      refine hK.out _ (st4 w3 Yb (.int .i64 y1) (.int .i64 y2) (.int .i64 y3) (.slice s2 n2 c2)) (fun _ => hS4) ?_
      refine doneT (by kernel_rfl) ?_ _
      clear hK
      go_wp2_with fail
      go_meet
      exact ⟨Xb, Yb, rfl, rfl, hx4, hy4, hg4⟩
    · skip
      go_simp
      have hb1 : Below w.heap.size w (wd.alloc (.cells #[.int .i64 0, .int .i64 0, .int .i64 0, .slice none 0 0] 65)) := hb0.alloc (by omega) _
      have hS1 := HKS.out _ hb1
      refine hK.out _ _ (fun _ => hS1) ?_
      clear hK
      try simp only [List.setIfInBounds_toArray, List.set_cons_zero, List.set_cons_succ, Act.put]
      refine oneT (i := 14) rfl (by kernel_rfl) (fun K hK => ?_)
      go_simp
      have hb2 : Below w.heap.size w ((wd.alloc (.cells #[.int .i64 0, .int .i64 0, .int .i64 0, .slice none 0 0] 65)).alloc (.cells #[.int .i64 0, .int .i64 0, .int .i64 0, .slice none 0 0] 65)) := hb1.alloc (by simp; omega) _
      have hS2 := HKS.out _ hb2
      have h1 : Has ((wd.alloc (.cells #[.int .i64 0, .int .i64 0, .int .i64 0, .slice none 0 0] 65)).alloc (.cells #[.int .i64 0, .int .i64 0, .int .i64 0, .slice none 0 0] 65)) wd.heap.size #[.int .i64 0, .int .i64 0, .int .i64 0, .slice none 0 0] 65 := (Has.new _ _ _).alloc _
      have h2 : Has ((wd.alloc (.cells #[.int .i64 0, .int .i64 0, .int .i64 0, .slice none 0 0] 65)).alloc (.cells #[.int .i64 0, .int .i64 0, .int .i64 0, .slice none 0 0] 65)) (wd.heap.size + 1) #[.int .i64 0, .int .i64 0, .int .i64 0, .slice none 0 0] 65 := by
        have := Has.new (wd.alloc (.cells #[.int .i64 0, .int .i64 0, .int .i64 0, .slice none 0 0] 65)) #[.int .i64 0, .int .i64 0, .int .i64 0, .slice none 0 0] 65
        simpa using this
      refine hK.out _ _ (fun _ => hS2) ?_
      clear hK hS0 hS1 hb1
      try simp only [List.setIfInBounds_toArray, List.set_cons_zero, List.set_cons_succ, Act.put]
      generalize hw2 : ((wd.alloc (.cells #[.int .i64 0, .int .i64 0, .int .i64 0, .slice none 0 0] 65)).alloc (.cells #[.int .i64 0, .int .i64 0, .int .i64 0, .slice none 0 0] 65)) = w2 at *
      have hX : w.heap.size ≤ wd.heap.size + 1 := by omega
      have hY : w.heap.size ≤ wd.heap.size := by omega
      have hXY : wd.heap.size + 1 ≠ wd.heap.size := by omega
      have hx := h2
      have hy := h1
      have hg2 : Gr w w2 := by
        rw [← hw2]
        exact (HG0.out.alloc _).alloc _
      clear h1 h2 hw2 hb2 hb0
      generalize wd.heap.size + 1 = Xb at *
      generalize wd.heap.size = Yb at *
      clear hz0
      have q0 := hx.cell 0
      have q1 := hx.cell 1
      have q2 := hx.cell 2
      have q3 := hx.cell 3
      have p0 := hx.fz 0
      have p1 := hx.fz 1
      have p2 := hx.fz 2
      have p3 := hx.fz 3
      have hg3 := st4_gr hg2 hX (.int .i64 x1) (.int .i64 x2) (.int .i64 x3) (.slice s1 n1 c1)
      have hx3 := st4_has hx (.int .i64 x1) (.int .i64 x2) (.int .i64 x3) (.slice s1 n1 c1)
      have hy3 := st4_other hy (Ne.symm hXY) (.int .i64 x1) (.int .i64 x2) (.int .i64 x3) (.slice s1 n1 c1)
      have hS3 := HKS.out _ hg3.1
      clear hx hy
      refine oneT (i := 16) rfl (by kernel_rfl) (fun K hK => ?_)
      go_simp
      refine hK.out _ (st4 w2 Xb (.int .i64 x1) (.int .i64 x2) (.int .i64 x3) (.slice s1 n1 c1)) (fun _ => hS3) ?_
      clear hK q0 q1 q2 q3 p0 p1 p2 p3
      try simp only [List.setIfInBounds_toArray, List.set_cons_zero, List.set_cons_succ, Act.put]
      generalize st4 w2 Xb (.int .i64 x1) (.int .i64 x2) (.int .i64 x3) (.slice s1 n1 c1) = w3 at *
      have q0 := hy3.cell 0
      have q1 := hy3.cell 1
      have q2 := hy3.cell 2
      have q3 := hy3.cell 3
      have p0 := hy3.fz 0
      have p1 := hy3.fz 1
      have p2 := hy3.fz 2
      have p3 := hy3.fz 3
      have hg4 := st4_gr hg3 hY (.int .i64 y1) (.int .i64 y2) (.int .i64 y3) (.slice s2 n2 c2)
      have hy4 := st4_has hy3 (.int .i64 y1) (.int .i64 y2) (.int .i64 y3) (.slice s2 n2 c2)
      have hx4 := st4_other hx3 hXY (.int .i64 y1) (.int .i64 y2) (.int .i64 y3) (.slice s2 n2 c2)
      have hS4 := HKS.out _ hg4.1
      refine oneT (i := 17) rfl (by kernel_rfl) (fun K hK => ?_)
      go_simp
      refine hK.out _ (st4 w3 Yb (.int .i64 y1) (.int .i64 y2) (.int .i64 y3) (.slice s2 n2 c2)) (fun _ => hS4) ?_
      refine doneT (by kernel_rfl) ?_ _
      clear hK
      go_wp2_with fail
      go_meet
      exact ⟨Xb, Yb, rfl, rfl, hx4, hy4, hg4⟩
  case rest =>
    obtain ⟨X, Y, rfl, rfl, hx, hy, hg⟩ := hcut
    have hXl := hx.lt
    have hYl := hy.lt
    have hc0 := HKD.out wc hg.1
    have hz := hg.1.size
    have hc : wc.cell? ⟨X, 0, none⟩ = some (.int .i64 x1) ∧ wc.cell? ⟨X, 1, none⟩ = some (.int .i64 x2) ∧ wc.cell? ⟨Y, 0, none⟩ = some (.int .i64 y1) ∧ wc.cell? ⟨Y, 1, none⟩ = some (.int .i64 y2) ∧ wc.cell? ⟨D, 2, none⟩ = some (.slice (some ⟨We, 0, none⟩) n n) ∧ wc.cell? ⟨D, 3, none⟩ = some (.slice (some ⟨La, 0, none⟩) n n) ∧ wc.cell? ⟨We, a, none⟩ = some (.int .i64 wa) ∧ wc.cell? ⟨We, b, none⟩ = some (.int .i64 wb) ∧ wc.cell? ⟨La, a, none⟩ = some (.int .i64 ta) ∧ wc.cell? ⟨La, b, none⟩ = some (.int .i64 tb) := ⟨hx.cell 0, hx.cell 1, hy.cell 0, hy.cell 1, hc0⟩
    have HG := Lib.hid hg.1
    have HKC := Lib.hid (fun W (hW : Below wc.heap.size wc W) => (⟨(below_cell hW hXl).trans (hx.cell 0), (below_cell hW hXl).trans (hx.cell 1), (below_cell hW hYl).trans (hy.cell 0), (below_cell hW hYl).trans (hy.cell 1), HKD.out W (hg.1.trans (hW.mono hg.1.size))⟩ : W.cell? ⟨X, 0, none⟩ = some (.int .i64 x1) ∧ W.cell? ⟨X, 1, none⟩ = some (.int .i64 x2) ∧ W.cell? ⟨Y, 0, none⟩ = some (.int .i64 y1) ∧ W.cell? ⟨Y, 1, none⟩ = some (.int .i64 y2) ∧ W.cell? ⟨D, 2, none⟩ = some (.slice (some ⟨We, 0, none⟩) n n) ∧ W.cell? ⟨D, 3, none⟩ = some (.slice (some ⟨La, 0, none⟩) n n) ∧ W.cell? ⟨We, a, none⟩ = some (.int .i64 wa) ∧ W.cell? ⟨We, b, none⟩ = some (.int .i64 wb) ∧ W.cell? ⟨La, a, none⟩ = some (.int .i64 ta) ∧ W.cell? ⟨La, b, none⟩ = some (.int .i64 tb)))
    clear HKS HKD hx hy hg hc0
    go_upto_region 2 with fail
    refine anyT_start (S := fun W : World => W.cell? ⟨X, 0, none⟩ = some (.int .i64 x1) ∧ W.cell? ⟨X, 1, none⟩ = some (.int .i64 x2) ∧ W.cell? ⟨Y, 0, none⟩ = some (.int .i64 y1) ∧ W.cell? ⟨Y, 1, none⟩ = some (.int .i64 y2) ∧ W.cell? ⟨D, 2, none⟩ = some (.slice (some ⟨We, 0, none⟩) n n) ∧ W.cell? ⟨D, 3, none⟩ = some (.slice (some ⟨La, 0, none⟩) n n) ∧ W.cell? ⟨We, a, none⟩ = some (.int .i64 wa) ∧ W.cell? ⟨We, b, none⟩ = some (.int .i64 wb) ∧ W.cell? ⟨La, a, none⟩ = some (.int .i64 ta) ∧ W.cell? ⟨La, b, none⟩ = some (.int .i64 tb)) (t := 44) (by kernel_rfl) ?_
    have hS0 : wc.drew.cell? ⟨X, 0, none⟩ = some (.int .i64 x1) ∧ wc.drew.cell? ⟨X, 1, none⟩ = some (.int .i64 x2) ∧ wc.drew.cell? ⟨Y, 0, none⟩ = some (.int .i64 y1) ∧ wc.drew.cell? ⟨Y, 1, none⟩ = some (.int .i64 y2) ∧ wc.drew.cell? ⟨D, 2, none⟩ = some (.slice (some ⟨We, 0, none⟩) n n) ∧ wc.drew.cell? ⟨D, 3, none⟩ = some (.slice (some ⟨La, 0, none⟩) n n) ∧ wc.drew.cell? ⟨We, a, none⟩ = some (.int .i64 wa) ∧ wc.drew.cell? ⟨We, b, none⟩ = some (.int .i64 wb) ∧ wc.drew.cell? ⟨La, a, none⟩ = some (.int .i64 ta) ∧ wc.drew.cell? ⟨La, b, none⟩ = some (.int .i64 tb) := hc
    have HBC := Lib.hid (show Below wc.heap.size wc wc.drew from (Below.refl _ _).drew)
    have hzd : wc.heap.size ≤ wc.drew.heap.size := Nat.le_refl _
    generalize wc.drew = wd at *
    clear hc
    refine takeS (i := 0) (v := ?_) rfl rfl (by kernel_rfl) (by kernel_rfl) (by kernel_rfl) (fun _ _ _ h => h) (by decide) (by kernel_rfl) ?_ hS0 ?_
    rotate_left
    · intro w hSw; (try dsimp only at hSw); go_simp; (try with_reducible rfl)
    simp only [List.setIfInBounds_toArray, List.set_cons_zero, List.set_cons_succ]
    refine takeS (i := 1) (v := ?_) rfl rfl (by kernel_rfl) (by kernel_rfl) (by kernel_rfl) (fun _ _ _ h => h) (by decide) (by kernel_rfl) ?_ hS0 ?_
    rotate_left
    · intro w hSw; (try dsimp only at hSw); go_simp; (try with_reducible rfl)
    simp only [List.setIfInBounds_toArray, List.set_cons_zero, List.set_cons_succ]
    refine takeS (i := 2) (v := ?_) rfl rfl (by kernel_rfl) (by kernel_rfl) (by kernel_rfl) (fun _ _ _ h => h) (by decide) (by kernel_rfl) ?_ hS0 ?_
    rotate_left
    · intro w hSw; (try dsimp only at hSw); go_simp; (try with_reducible rfl)
    simp only [List.setIfInBounds_toArray, List.set_cons_zero, List.set_cons_succ]
    refine takeS (i := 3) (v := ?_) rfl rfl (by kernel_rfl) (by kernel_rfl) (by kernel_rfl) (fun _ _ _ h => h) (by decide) (by kernel_rfl) ?_ hS0 ?_
    rotate_left
    · intro w hSw; (try dsimp only at hSw); go_simp; (try with_reducible rfl)
    simp only [List.setIfInBounds_toArray, List.set_cons_zero, List.set_cons_succ]
    refine takeS (i := 4) (v := ?_) rfl rfl (by kernel_rfl) (by kernel_rfl) (by kernel_rfl) (fun _ _ _ h => h) (by decide) (by kernel_rfl) ?_ hS0 ?_
    rotate_left
    · intro w hSw; (try dsimp only at hSw); go_simp; (try with_reducible rfl)
    simp only [List.setIfInBounds_toArray, List.set_cons_zero, List.set_cons_succ]
    refine takeS (i := 5) (v := ?_) rfl rfl (by kernel_rfl) (by kernel_rfl) (by kernel_rfl) (fun _ _ _ h => h) (by decide) (by kernel_rfl) ?_ hS0 ?_
    rotate_left
    · intro w hSw; (try dsimp only at hSw); go_simp; first | (with_reducible rfl) | (rw [if_pos (by omega)])
    simp only [List.setIfInBounds_toArray, List.set_cons_zero, List.set_cons_succ]
    refine takeS (i := 6) (v := ?_) rfl rfl (by kernel_rfl) (by kernel_rfl) (by kernel_rfl) (fun _ _ _ h => h) (by decide) (by kernel_rfl) ?_ hS0 ?_
    rotate_left
    · intro w hSw; (try dsimp only at hSw); go_simp; (try with_reducible rfl)
    simp only [List.setIfInBounds_toArray, List.set_cons_zero, List.set_cons_succ]
    refine takeS (i := 7) (v := ?_) rfl rfl (by kernel_rfl) (by kernel_rfl) (by kernel_rfl) (fun _ _ _ h => h) (by decide) (by kernel_rfl) ?_ hS0 ?_
    rotate_left
    · intro w hSw; (try dsimp only at hSw); go_simp; (try with_reducible rfl)
    simp only [List.setIfInBounds_toArray, List.set_cons_zero, List.set_cons_succ]
    refine takeS (i := 8) (v := ?_) rfl rfl (by kernel_rfl) (by kernel_rfl) (by kernel_rfl) (fun _ _ _ h => h) (by decide) (by kernel_rfl) ?_ hS0 ?_
    rotate_left
    · intro w hSw; (try dsimp only at hSw); go_simp; (try with_reducible rfl)
    simp only [List.setIfInBounds_toArray, List.set_cons_zero, List.set_cons_succ]
    refine takeS (i := 9) (v := ?_) rfl rfl (by kernel_rfl) (by kernel_rfl) (by kernel_rfl) (fun _ _ _ h => h) (by decide) (by kernel_rfl) ?_ hS0 ?_
    rotate_left
    · intro w hSw; (try dsimp only at hSw); go_simp; (try with_reducible rfl)
    simp only [List.setIfInBounds_toArray, List.set_cons_zero, List.set_cons_succ]
    refine takeS (i := 10) (v := ?_) rfl rfl (by kernel_rfl) (by kernel_rfl) (by kernel_rfl) (fun _ _ _ h => h) (by decide) (by kernel_rfl) ?_ hS0 ?_
    rotate_left
    · intro w hSw; (try dsimp only at hSw); go_simp; (try with_reducible rfl)
    simp only [List.setIfInBounds_toArray, List.set_cons_zero, List.set_cons_succ]
    refine takeS (i := 11) (v := ?_) rfl rfl (by kernel_rfl) (by kernel_rfl) (by kernel_rfl) (fun _ _ _ h => h) (by decide) (by kernel_rfl) ?_ hS0 ?_
    rotate_left
    · intro w hSw; (try dsimp only at hSw); go_simp; (try with_reducible rfl)
    simp only [List.setIfInBounds_toArray, List.set_cons_zero, List.set_cons_succ]
    refine takeS (i := 12) (v := ?_) rfl rfl (by kernel_rfl) (by kernel_rfl) (by kernel_rfl) (fun _ _ _ h => h) (by decide) (by kernel_rfl) ?_ hS0 ?_
    rotate_left
    · intro w hSw; (try dsimp only at hSw); go_simp; (try with_reducible rfl)
    simp only [List.setIfInBounds_toArray, List.set_cons_zero, List.set_cons_succ]
    refine takeS (i := 13) (v := ?_) rfl rfl (by kernel_rfl) (by kernel_rfl) (by kernel_rfl) (fun _ _ _ h => h) (by decide) (by kernel_rfl) ?_ hS0 ?_
    rotate_left
    · intro w hSw; (try dsimp only at hSw); go_simp; (try with_reducible rfl)
    simp only [List.setIfInBounds_toArray, List.set_cons_zero, List.set_cons_succ]
    refine takeS (i := 14) (v := ?_) rfl rfl (by kernel_rfl) (by kernel_rfl) (by kernel_rfl) (fun _ _ _ h => h) (by decide) (by kernel_rfl) ?_ hS0 ?_
    rotate_left
    · intro w hSw; (try dsimp only at hSw); go_simp; (try with_reducible rfl)
    simp only [List.setIfInBounds_toArray, List.set_cons_zero, List.set_cons_succ]
    refine takeS (i := 15) (v := ?_) rfl rfl (by kernel_rfl) (by kernel_rfl) (by kernel_rfl) (fun _ _ _ h => h) (by decide) (by kernel_rfl) ?_ hS0 ?_
    rotate_left
    · intro w hSw; (try dsimp only at hSw); go_simp; first | (with_reducible rfl) | (rw [if_pos (by omega)])
    simp only [List.setIfInBounds_toArray, List.set_cons_zero, List.set_cons_succ]
    refine takeS (i := 16) (v := ?_) rfl rfl (by kernel_rfl) (by kernel_rfl) (by kernel_rfl) (fun _ _ _ h => h) (by decide) (by kernel_rfl) ?_ hS0 ?_
    rotate_left
    · intro w hSw; (try dsimp only at hSw); go_simp; (try with_reducible rfl)
    simp only [List.setIfInBounds_toArray, List.set_cons_zero, List.set_cons_succ]
    refine takeS (i := 17) (v := ?_) rfl rfl (by kernel_rfl) (by kernel_rfl) (by kernel_rfl) (fun _ _ _ h => h) (by decide) (by kernel_rfl) ?_ hS0 ?_
    rotate_left
    · intro w hSw; (try dsimp only at hSw); go_simp; (try with_reducible rfl)
    simp only [List.setIfInBounds_toArray, List.set_cons_zero, List.set_cons_succ]
    refine takeS (i := 18) (v := ?_) rfl rfl (by kernel_rfl) (by kernel_rfl) (by kernel_rfl) (fun _ _ _ h => h) (by decide) (by kernel_rfl) ?_ hS0 ?_
    rotate_left
    · intro w hSw; (try dsimp only at hSw); go_simp; (try with_reducible rfl)
    simp only [List.setIfInBounds_toArray, List.set_cons_zero, List.set_cons_succ]
    refine takeS (i := 19) (v := ?_) rfl rfl (by kernel_rfl) (by kernel_rfl) (by kernel_rfl) (fun _ _ _ h => h) (by decide) (by kernel_rfl) ?_ hS0 ?_
    rotate_left
    · intro w hSw; (try dsimp only at hSw); go_simp; (try with_reducible rfl)
    simp only [List.setIfInBounds_toArray, List.set_cons_zero, List.set_cons_succ]
    refine takeS (i := 21) (v := ?_) rfl rfl (by kernel_rfl) (by kernel_rfl) (by kernel_rfl) (fun _ _ _ h => h) (by decide) (by kernel_rfl) ?_ hS0 ?_
    rotate_left
    · intro w hSw; (try dsimp only at hSw); go_simp; (try with_reducible rfl)
    simp only [List.setIfInBounds_toArray, List.set_cons_zero, List.set_cons_succ]
    refine takeS (i := 22) (v := ?_) rfl rfl (by kernel_rfl) (by kernel_rfl) (by kernel_rfl) (fun _ _ _ h => h) (by decide) (by kernel_rfl) ?_ hS0 ?_
    rotate_left
    · intro w hSw; (try dsimp only at hSw); go_simp; (try with_reducible rfl)
    simp only [List.setIfInBounds_toArray, List.set_cons_zero, List.set_cons_succ]
    refine takeS (i := 23) (v := ?_) rfl rfl (by kernel_rfl) (by kernel_rfl) (by kernel_rfl) (fun _ _ _ h => h) (by decide) (by kernel_rfl) ?_ hS0 ?_
    rotate_left
    · intro w hSw; (try dsimp only at hSw); go_simp; (try with_reducible rfl)
    simp only [List.setIfInBounds_toArray, List.set_cons_zero, List.set_cons_succ]
    refine takeS (i := 24) (v := ?_) rfl rfl (by kernel_rfl) (by kernel_rfl) (by kernel_rfl) (fun _ _ _ h => h) (by decide) (by kernel_rfl) ?_ hS0 ?_
    rotate_left
    · intro w hSw; (try dsimp only at hSw); go_simp; (try with_reducible rfl)
    simp only [List.setIfInBounds_toArray, List.set_cons_zero, List.set_cons_succ]
    refine takeS (i := 25) (v := ?_) rfl rfl (by kernel_rfl) (by kernel_rfl) (by kernel_rfl) (fun _ _ _ h => h) (by decide) (by kernel_rfl) ?_ hS0 ?_
    rotate_left
    · intro w hSw; (try dsimp only at hSw); go_simp; (try with_reducible rfl)
    simp only [List.setIfInBounds_toArray, List.set_cons_zero, List.set_cons_succ]
    refine takeS (i := 26) (v := ?_) rfl rfl (by kernel_rfl) (by kernel_rfl) (by kernel_rfl) (fun _ _ _ h => h) (by decide) (by kernel_rfl) ?_ hS0 ?_
    rotate_left
    · intro w hSw; (try dsimp only at hSw); go_simp; first | (with_reducible rfl) | (rw [if_pos (by omega)])
    simp only [List.setIfInBounds_toArray, List.set_cons_zero, List.set_cons_succ]
    refine takeS (i := 27) (v := ?_) rfl rfl (by kernel_rfl) (by kernel_rfl) (by kernel_rfl) (fun _ _ _ h => h) (by decide) (by kernel_rfl) ?_ hS0 ?_
    rotate_left
    · intro w hSw; (try dsimp only at hSw); go_simp; (try with_reducible rfl)
    simp only [List.setIfInBounds_toArray, List.set_cons_zero, List.set_cons_succ]
    refine takeS (i := 28) (v := ?_) rfl rfl (by kernel_rfl) (by kernel_rfl) (by kernel_rfl) (fun _ _ _ h => h) (by decide) (by kernel_rfl) ?_ hS0 ?_
    rotate_left
    · intro w hSw; (try dsimp only at hSw); go_simp; (try with_reducible rfl)
    simp only [List.setIfInBounds_toArray, List.set_cons_zero, List.set_cons_succ]
    refine takeS (i := 29) (v := ?_) rfl rfl (by kernel_rfl) (by kernel_rfl) (by kernel_rfl) (fun _ _ _ h => h) (by decide) (by kernel_rfl) ?_ hS0 ?_
    rotate_left
    · intro w hSw; (try dsimp only at hSw); go_simp; (try with_reducible rfl)
    simp only [List.setIfInBounds_toArray, List.set_cons_zero, List.set_cons_succ]
    refine takeS (i := 30) (v := ?_) rfl rfl (by kernel_rfl) (by kernel_rfl) (by kernel_rfl) (fun _ _ _ h => h) (by decide) (by kernel_rfl) ?_ hS0 ?_
    rotate_left
    · intro w hSw; (try dsimp only at hSw); go_simp; (try with_reducible rfl)
    simp only [List.setIfInBounds_toArray, List.set_cons_zero, List.set_cons_succ]
    refine takeS (i := 31) (v := ?_) rfl rfl (by kernel_rfl) (by kernel_rfl) (by kernel_rfl) (fun _ _ _ h => h) (by decide) (by kernel_rfl) ?_ hS0 ?_
    rotate_left
    · intro w hSw; (try dsimp only at hSw); go_simp; (try with_reducible rfl)
    simp only [List.setIfInBounds_toArray, List.set_cons_zero, List.set_cons_succ]
    refine takeS (i := 32) (v := ?_) rfl rfl (by kernel_rfl) (by kernel_rfl) (by kernel_rfl) (fun _ _ _ h => h) (by decide) (by kernel_rfl) ?_ hS0 ?_
    rotate_left
    · intro w hSw; (try dsimp only at hSw); go_simp; (try with_reducible rfl)
    simp only [List.setIfInBounds_toArray, List.set_cons_zero, List.set_cons_succ]
    refine takeS (i := 33) (v := ?_) rfl rfl (by kernel_rfl) (by kernel_rfl) (by kernel_rfl) (fun _ _ _ h => h) (by decide) (by kernel_rfl) ?_ hS0 ?_
    rotate_left
    · intro w hSw; (try dsimp only at hSw); go_simp; first | (with_reducible rfl) | (rw [if_pos (by omega)])
    simp only [List.setIfInBounds_toArray, List.set_cons_zero, List.set_cons_succ]
    refine takeS (i := 34) (v := ?_) rfl rfl (by kernel_rfl) (by kernel_rfl) (by kernel_rfl) (fun _ _ _ h => h) (by decide) (by kernel_rfl) ?_ hS0 ?_
    rotate_left
    · intro w hSw; (try dsimp only at hSw); go_simp; (try with_reducible rfl)
    simp only [List.setIfInBounds_toArray, List.set_cons_zero, List.set_cons_succ]
    refine takeS (i := 36) (v := ?_) rfl rfl (by kernel_rfl) (by kernel_rfl) (by kernel_rfl) (fun _ _ _ h => h) (by decide) (by kernel_rfl) ?_ hS0 ?_
    rotate_left
    · intro w hSw; (try dsimp only at hSw); go_simp; (try with_reducible rfl)
    simp only [List.setIfInBounds_toArray, List.set_cons_zero, List.set_cons_succ]
    refine takeS (i := 37) (v := ?_) rfl rfl (by kernel_rfl) (by kernel_rfl) (by kernel_rfl) (fun _ _ _ h => h) (by decide) (by kernel_rfl) ?_ hS0 ?_
    rotate_left
    · intro w hSw; (try dsimp only at hSw); go_simp; (try with_reducible rfl)
    simp only [List.setIfInBounds_toArray, List.set_cons_zero, List.set_cons_succ]
    refine takeS (i := 38) (v := ?_) rfl rfl (by kernel_rfl) (by kernel_rfl) (by kernel_rfl) (fun _ _ _ h => h) (by decide) (by kernel_rfl) ?_ hS0 ?_
    rotate_left
    · intro w hSw; (try dsimp only at hSw); go_simp; (try with_reducible rfl)
    simp only [List.setIfInBounds_toArray, List.set_cons_zero, List.set_cons_succ]
    refine takeS (i := 39) (v := ?_) rfl rfl (by kernel_rfl) (by kernel_rfl) (by kernel_rfl) (fun _ _ _ h => h) (by decide) (by kernel_rfl) ?_ hS0 ?_
    rotate_left
    · intro w hSw; (try dsimp only at hSw); go_simp; (try with_reducible rfl)
    simp only [List.setIfInBounds_toArray, List.set_cons_zero, List.set_cons_succ]
    refine oneT (i := 20) rfl (by kernel_rfl) (fun K hK => ?_)
    go_simp
    refine (cmp_any _ _ _).mono ?_
    rintro e w' ⟨rfl, rfl⟩
    refine hK.out _ _ (fun _ => hS0) ?_
    clear hK
    try simp only [List.setIfInBounds_toArray, List.set_cons_zero, List.set_cons_succ, Act.put]
    generalize cmpI _ _ = k1 at *
    refine oneT (i := 35) rfl (by kernel_rfl) (fun K hK => ?_)
    go_simp
    refine (cmp_any _ _ _).mono ?_
    rintro e w' ⟨rfl, rfl⟩
    refine hK.out _ _ (fun _ => hS0) ?_
    clear hK
    try simp only [List.setIfInBounds_toArray, List.set_cons_zero, List.set_cons_succ, Act.put]
    generalize cmpI _ _ = k2 at *
    refine oneT (i := 40) rfl (by kernel_rfl) (fun K hK => ?_)
    go_simp
    refine (cmp_any _ _ _).mono ?_
    rintro e w' ⟨rfl, rfl⟩
    refine hK.out _ _ (fun _ => hS0) ?_
    clear hK
    try simp only [List.setIfInBounds_toArray, List.set_cons_zero, List.set_cons_succ, Act.put]
    generalize cmpI _ _ = k3 at *
    have hor := orInt_any _ [k1, k2, k3] _ (ints3_at wd k1 k2 k3 3) (by simp)
    have hba : Below wc.heap.size wc (wd.alloc (.cells #[.int .i64 k1, .int .i64 k2, .int .i64 k3] 3)) := HBC.out.alloc hzd _
    have hS1 := HKC.out _ hba
    have HGE := Lib.hid (below_up HG.out hba HG.out.size)
    have HOR := Lib.hid hor
    clear hor hba
    refine oneT (i := 41) rfl (by kernel_rfl) (fun K hK => ?_)
    go_simp
    refine hK.out _ _ (fun _ => hS1) ?_
    clear hK
    try simp only [List.setIfInBounds_toArray, List.set_cons_zero, List.set_cons_succ, Act.put]
    refine oneT (i := 42) rfl (by kernel_rfl) (fun K hK => ?_)
    go_simp
    refine HOR.out.mono ?_
    rintro e w' ⟨rfl, rfl⟩
    refine hK.out _ _ (fun _ => hS1) ?_
    clear hK
    try simp only [List.setIfInBounds_toArray, List.set_cons_zero, List.set_cons_succ, Act.put]
    generalize orI [k1, k2, k3] = z at *
    refine oneT (i := 43) rfl (by kernel_rfl) (fun K hK => ?_)
    go_simp
    refine hK.out _ _ (fun _ => hS1) ?_
    refine doneT (by kernel_rfl) ?_ _
    clear hK
    try simp only [List.setIfInBounds_toArray, List.set_cons_zero, List.set_cons_succ, Act.put]
    go_wp2_with fail
    go_ret
    exact ⟨⟨z, rfl⟩, HGE.out⟩
end Go.Proofs.YtemikhnkjligdaaGreatDoor
