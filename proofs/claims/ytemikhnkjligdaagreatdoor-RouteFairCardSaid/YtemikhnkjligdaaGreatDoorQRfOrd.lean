/- The walk of route.order: the positions of work, in some order. -/
import Derived.Test.YtemikhnkjligdaaGreatDoorQRfBase
import Derived.Test.YtemikhnkjligdaaGreatDoorQSortK
import Derived.Test.YtemikhnkjligdaaGreatDoorQRfCln
import Derived.Test.YtemikhnkjligdaaGreatDoorShelf
namespace Go.Proofs.YtemikhnkjligdaaGreatDoor
open Go Go.RowKit Go.Sort Go.Shelf

/-- a world with new blocks and some numbers drawn -/
def Gr (w w' : World) : Prop := Below w.heap.size w w' ∧ w.drawn ≤ w'.drawn
theorem Gr.refl (w : World) : Gr w w := ⟨Below.refl _ _, Nat.le_refl _⟩
theorem Gr.drew {a w : World} (h : Gr a w) : Gr a w.drew := ⟨h.1.drew, Nat.le_succ_of_le h.2⟩
theorem Gr.alloc {a w : World} (h : Gr a w) (o : Obj) : Gr a (w.alloc o) := ⟨h.1.alloc h.1.size _, h.2⟩
theorem Gr.setCell {a w : World} (h : Gr a w) {p : Addr} (hp : a.heap.size ≤ p.block) (v : Value) : Gr a (w.setCell p v) := ⟨h.1.setCell hp v, h.2⟩
theorem Gr.trans {a b c : World} (h : Gr a b) (k : Gr b c) : Gr a c := ⟨below_up' h.1 k.1, Nat.le_trans h.2 k.2⟩
theorem Gr.grows {a w : World} (h : Gr a w) : ∃ q os', w = grow (a.drewN q) os' := by
  refine ⟨w.drawn - a.drawn, (w.heap.toList.drop a.heap.size).toArray, ?_⟩
  have hh : w.heap = a.heap ++ (w.heap.toList.drop a.heap.size).toArray := by
    apply Array.ext_getElem?
    intro k
    rw [Array.getElem?_append]
    split
    · rename_i hk
      exact h.1.block k hk
    · rename_i hk
      simp only [List.getElem?_toArray, List.getElem?_drop, Array.getElem?_toList]
      rw [Nat.add_sub_cancel' (by omega)]
  have hd : w.drawn = a.drawn + (w.drawn - a.drawn) := (Nat.add_sub_cancel' h.2).symm
  have ht := h.1.tape
  have ho := h.1.os
  have hu := h.1.output
  unfold grow World.drewN
  cases w
  cases a
  simp only at *
  subst ht ho hu
  rw [← hh, ← hd]
theorem or3_eq (a b c : Int) : orI [a, b, c] = or3 a b c := by
  unfold or3
  simp only [orI]
  by_cases h1 : a = 0 <;> by_cases h2 : b = 0 <;> by_cases h3 : c = 0 <;> simp [h1, h2, h3]
def st6 (w : World) (b : Nat) (v0 v1 v2 v3 v4 v5 : Value) : World := (((((w.setCell ⟨b, 0, none⟩ v0).setCell ⟨b, 1, none⟩ v1).setCell ⟨b, 2, none⟩ v2).setCell ⟨b, 3, none⟩ v3).setCell ⟨b, 4, none⟩ v4).setCell ⟨b, 5, none⟩ v5
theorem st6_gr {a w : World} (h : Gr a w) {b : Nat} (hb : a.heap.size ≤ b) (v0 v1 v2 v3 v4 v5 : Value) : Gr a (st6 w b v0 v1 v2 v3 v4 v5) :=
  (((((h.setCell (p := ⟨b, 0, none⟩) hb v0).setCell (p := ⟨b, 1, none⟩) hb v1).setCell (p := ⟨b, 2, none⟩) hb v2).setCell (p := ⟨b, 3, none⟩) hb v3).setCell (p := ⟨b, 4, none⟩) hb v4).setCell (p := ⟨b, 5, none⟩) hb v5
theorem st6_has {w : World} {b : Nat} {u0 u1 u2 u3 u4 u5 : Value} {t : TypeId} (h : Has w b #[u0, u1, u2, u3, u4, u5] t) (v0 v1 v2 v3 v4 v5 : Value) : Has (st6 w b v0 v1 v2 v3 v4 v5) b #[v0, v1, v2, v3, v4, v5] t :=
  (((((h.set 0 v0).set 1 v1).set 2 v2).set 3 v3).set 4 v4).set 5 v5
theorem st6_other {w : World} {b c : Nat} {cs : Array Value} {t : TypeId} (h : Has w c cs t) (hne : c ≠ b) (v0 v1 v2 v3 v4 v5 : Value) : Has (st6 w b v0 v1 v2 v3 v4 v5) c cs t :=
  (((((h.set_other 0 v0 hne).set_other 1 v1 hne).set_other 2 v2 hne).set_other 3 v3 hne).set_other 4 v4 hne).set_other 5 v5 hne
section
variable {α : Type} [Inhabited α]
theorem heap_put1 {w : World} {g : Nat} {cur : Array Value} {e : TypeId} {fr : Nat × Nat} {enc : α → Value} (F : Array α) (hb : w.heap[g]? = some (.cells cur e fr)) : (putRow enc w g 0 F).heap[g]? = some (.cells (putCells enc 0 F cur) e fr) := by
  simp [putRow, mapBlock, Array.getElem?_modify, hb, onCells]
theorem grownBy_sorted1 {w : World} {g n : Nat} {enc : α → Value} {os : Array Obj} (d : Array α) : w.grownBy (sortWorld enc w g 0 n d os) (some g) := by
  refine ⟨rfl, rfl, rfl, by simp [sortWorld], fun j hk hne => ?_⟩
  unfold sortWorld
  rw [heap_grow_old _ _ (by simpa using hk)]
  have : g ≠ j := fun e => hne (by rw [e])
  simp [putRow, mapBlock, Sort.ahead, Array.getElem?_modify, this]
theorem take_put1 {enc : α → Value} (cur : Array Value) (F : Array α) (h : F.size ≤ cur.size) : (putCells enc 0 F cur).toList.take F.size = F.toList.map enc := by
  apply List.ext_getElem?
  intro j
  by_cases hj : j < F.size
  · rw [List.getElem?_take_of_lt hj, Array.getElem?_toList]
    simp [putCells, hj, show j < cur.size by omega]
  · rw [List.getElem?_take_eq_none (by omega), List.getElem?_eq_none (by simp; omega)]
theorem owns_sort1 {w : World} {base g cap : Nat} {e : TypeId} {enc : α → Value} {l : List α}
    (h : w.ownsRow base e 1 (.slice (some ⟨g, 0, none⟩) l.length cap) l.length (l.map enc)) :
    Holds enc w g 0 l.toArray ∧ g < w.heap.size ∧ ∀ (d : Array α) n os, d.size = l.length →
      (sortWorld enc w g 0 n d os).ownsRow base e 1 (.slice (some ⟨g, 0, none⟩) l.length cap) l.length (d.toList.map enc) := by
  rcases h.2 with ⟨h0, _⟩ | ⟨g', cap', cur, hv, hg, hb, hn, hcap, hs, ht⟩
  · cases h0
  cases hv
  rw [Nat.mul_one] at ht hs
  refine ⟨?_, (Array.getElem?_eq_some_iff.1 hb).1, fun d n os hd => ⟨by simp [hd], .inr ⟨g, cap, putCells enc 0 d cur, rfl, hg, ?_, hn, hcap, by simpa [putCells] using hs, ?_⟩⟩⟩
  · intro j hj
    have hj' : j < l.length := by simpa using hj
    refine ⟨?_, by simp [World.frozen?, hb]⟩
    have h1 : (cur.toList.take l.length)[j]? = (l.map enc)[j]? := by rw [ht]
    rw [List.getElem?_take_of_lt hj'] at h1
    simp only [World.cell?, hb, Nat.zero_add]
    simp only [Option.isSome_none, Bool.false_eq_true, if_false]
    rw [← Array.getElem?_toList, h1]
    simp [hj']
  · unfold sortWorld
    rw [heap_grow_old _ _ (by simpa using (Array.getElem?_eq_some_iff.1 hb).1)]
    exact heap_put1 (w := Sort.ahead w n) d hb
  · rw [Nat.mul_one, ← hd]
    exact take_put1 _ _ (by rw [hd, hs]; exact hn)
end
set_option maxRecDepth 100000 in
set_option maxHeartbeats 1000000 in
theorem cloOrd (ls : List WkD) (V : Nat) (va : Value) (w : World) (hV : w.cell? ⟨V, 0, none⟩ = some va) (hVl : V < w.heap.size) (h : Wks w va ls) (a b : Nat) (ha : a < ls.length) (hb : b < ls.length) :
    Calls Tryz.prog 55 #[.int .i64 ((a : Nat) : Int), .int .i64 ((b : Nat) : Int), .pointer (some ⟨V, 0, none⟩)] w fun e w' => e = .returned (.int .i64 (cmpW ls[a] ls[b])) ∧ Gr w w' := by
  obtain ⟨bk, off, cap, rfl, hbk, hel⟩ := Wks.at h (by omega)
  obtain ⟨u, e0, e1, e2, e3, e4, e5, hsk⟩ := hel a ha
  obtain ⟨s1, c1, rfl⟩ := SliceAt.len hsk
  obtain ⟨u', f0, f1, f2, f3, f4, f5, hsk'⟩ := hel b hb
  obtain ⟨s2, c2, rfl⟩ := SliceAt.len hsk'
  clear h hel hsk hsk'
  generalize hla : ls[a] = x at *
  generalize hlb : ls[b] = y at *
  obtain ⟨x1, x2, x3, x4, x5, xs⟩ := x
  obtain ⟨y1, y2, y3, y4, y5, ys⟩ := y
  simp only at e0 e1 e2 e3 e4 e5 f0 f1 f2 f3 f4 f5
  generalize xs.length = n1 at *
  generalize ys.length = n2 at *
  have HG := Lib.hid (show cmpW ⟨x1, x2, x3, x4, x5, xs⟩ ⟨y1, y2, y3, y4, y5, ys⟩ = or3 (cmpI y3 x3) (cmpI x4 y4) (cmpI x1 y1) from rfl)
  rw [HG.out, ← or3_eq]
  clear hla hlb HG
  generalize ls.length = n at *
  have HKS := Lib.hid (fun W (hW : Below w.heap.size w W) => (⟨(below_cell hW hVl).trans hV, (below_cell hW hbk).trans e0, (below_cell hW hbk).trans e1, (below_cell hW hbk).trans e2, (below_cell hW hbk).trans e3, (below_cell hW hbk).trans e4, (below_cell hW hbk).trans e5,
    (below_cell hW hbk).trans f0, (below_cell hW hbk).trans f1, (below_cell hW hbk).trans f2, (below_cell hW hbk).trans f3, (below_cell hW hbk).trans f4, (below_cell hW hbk).trans f5⟩ : W.cell? ⟨V, 0, none⟩ = some (.slice (some ⟨bk, off, none⟩) n cap) ∧ W.cell? ⟨bk, off + a * 6, none⟩ = some (.int .i64 x1) ∧ W.cell? ⟨bk, off + a * 6 + 1, none⟩ = some (.int .i64 x2) ∧ W.cell? ⟨bk, off + a * 6 + 2, none⟩ = some (.int .i64 x3) ∧ W.cell? ⟨bk, off + a * 6 + 3, none⟩ = some (.int .i64 x4) ∧ W.cell? ⟨bk, off + a * 6 + 4, none⟩ = some (.int .i64 x5) ∧ W.cell? ⟨bk, off + a * 6 + 5, none⟩ = some (.slice s1 n1 c1) ∧ W.cell? ⟨bk, off + b * 6, none⟩ = some (.int .i64 y1) ∧ W.cell? ⟨bk, off + b * 6 + 1, none⟩ = some (.int .i64 y2) ∧ W.cell? ⟨bk, off + b * 6 + 2, none⟩ = some (.int .i64 y3) ∧ W.cell? ⟨bk, off + b * 6 + 3, none⟩ = some (.int .i64 y4) ∧ W.cell? ⟨bk, off + b * 6 + 4, none⟩ = some (.int .i64 y5) ∧ W.cell? ⟨bk, off + b * 6 + 5, none⟩ = some (.slice s2 n2 c2)))
  clear hV e0 e1 e2 e3 e4 e5 f0 f1 f2 f3 f4 f5
  go_enter Tryz.func55, Tryz.ntmps55
  go_upto_region 1 with fail
  go_cut [6, 7] (fun u v wx => ∃ X Y : Nat, u = .pointer (some ⟨X, 0, none⟩) ∧ v = .pointer (some ⟨Y, 0, none⟩) ∧ Has wx X #[.int .i64 x1, .int .i64 x2, .int .i64 x3, .int .i64 x4, .int .i64 x5, .slice s1 n1 c1] 38 ∧ Has wx Y #[.int .i64 y1, .int .i64 y2, .int .i64 y3, .int .i64 y4, .int .i64 y5, .slice s2 n2 c2] 38 ∧ Gr w wx)
  case first =>
    refine anyT_start (S := fun W : World => W.cell? ⟨V, 0, none⟩ = some (.slice (some ⟨bk, off, none⟩) n cap) ∧ W.cell? ⟨bk, off + a * 6, none⟩ = some (.int .i64 x1) ∧ W.cell? ⟨bk, off + a * 6 + 1, none⟩ = some (.int .i64 x2) ∧ W.cell? ⟨bk, off + a * 6 + 2, none⟩ = some (.int .i64 x3) ∧ W.cell? ⟨bk, off + a * 6 + 3, none⟩ = some (.int .i64 x4) ∧ W.cell? ⟨bk, off + a * 6 + 4, none⟩ = some (.int .i64 x5) ∧ W.cell? ⟨bk, off + a * 6 + 5, none⟩ = some (.slice s1 n1 c1) ∧ W.cell? ⟨bk, off + b * 6, none⟩ = some (.int .i64 y1) ∧ W.cell? ⟨bk, off + b * 6 + 1, none⟩ = some (.int .i64 y2) ∧ W.cell? ⟨bk, off + b * 6 + 2, none⟩ = some (.int .i64 y3) ∧ W.cell? ⟨bk, off + b * 6 + 3, none⟩ = some (.int .i64 y4) ∧ W.cell? ⟨bk, off + b * 6 + 4, none⟩ = some (.int .i64 y5) ∧ W.cell? ⟨bk, off + b * 6 + 5, none⟩ = some (.slice s2 n2 c2)) (t := 12) (by kernel_rfl) ?_
    have hS0 := HKS.out _ (Below.refl _ _).drew
    have hb0 : Below w.heap.size w w.drew := (Below.refl _ _).drew
    have HG0 := Lib.hid (Gr.refl w).drew
    have hz0 : w.heap.size ≤ w.drew.heap.size := Nat.le_refl _
    generalize w.drew = wd at *
    refine takeS (i := 0) (v := ?_) rfl rfl (by kernel_rfl) (by kernel_rfl) (by kernel_rfl) (fun _ _ _ h => h) (by decide) (by kernel_rfl) ?_ hS0 ?_
    rotate_left
    · intro w hSw; (try dsimp only at hSw); go_simp; (try with_reducible rfl)
    simp only [List.setIfInBounds_toArray, List.set_cons_zero, List.set_cons_succ]
    refine takeS (i := 1) (v := ?_) rfl rfl (by kernel_rfl) (by kernel_rfl) (by kernel_rfl) (fun _ _ _ h => h) (by decide) (by kernel_rfl) ?_ hS0 ?_
    rotate_left
    · intro w hSw; (try dsimp only at hSw); go_simp; (try with_reducible rfl)
    simp only [List.setIfInBounds_toArray, List.set_cons_zero, List.set_cons_succ]
    refine takeS (i := 2) (v := ?_) rfl rfl (by kernel_rfl) (by kernel_rfl) (by kernel_rfl) (fun _ _ _ h => h) (by decide) (by kernel_rfl) ?_ hS0 ?_
    rotate_left
    · intro w hSw; (try dsimp only at hSw); go_simp; first | (with_reducible rfl) | (rw [if_pos (by omega)])
    simp only [List.setIfInBounds_toArray, List.set_cons_zero, List.set_cons_succ]
    refine takeS (i := 3) (v := ?_) rfl rfl (by kernel_rfl) (by kernel_rfl) (by kernel_rfl) (fun _ _ _ h => h) (by decide) (by kernel_rfl) ?_ hS0 ?_
    rotate_left
    · intro w hSw; (try dsimp only at hSw); go_simp; (try with_reducible rfl)
    simp only [List.setIfInBounds_toArray, List.set_cons_zero, List.set_cons_succ]
    refine takeS (i := 4) (v := ?_) rfl rfl (by kernel_rfl) (by kernel_rfl) (by kernel_rfl) (fun _ _ _ h => h) (by decide) (by kernel_rfl) ?_ hS0 ?_
    rotate_left
    · intro w hSw; (try dsimp only at hSw); go_simp; (try with_reducible rfl)
    simp only [List.setIfInBounds_toArray, List.set_cons_zero, List.set_cons_succ]
    refine takeS (i := 5) (v := ?_) rfl rfl (by kernel_rfl) (by kernel_rfl) (by kernel_rfl) (fun _ _ _ h => h) (by decide) (by kernel_rfl) ?_ hS0 ?_
    rotate_left
    · intro w hSw; (try dsimp only at hSw); go_simp; (try with_reducible rfl)
    simp only [List.setIfInBounds_toArray, List.set_cons_zero, List.set_cons_succ]
    refine takeS (i := 6) (v := ?_) rfl rfl (by kernel_rfl) (by kernel_rfl) (by kernel_rfl) (fun _ _ _ h => h) (by decide) (by kernel_rfl) ?_ hS0 ?_
    rotate_left
    · intro w hSw; (try dsimp only at hSw); go_simp; first | (with_reducible rfl) | (rw [if_pos (by omega)])
    simp only [List.setIfInBounds_toArray, List.set_cons_zero, List.set_cons_succ]
    refine takeS (i := 7) (v := ?_) rfl rfl (by kernel_rfl) (by kernel_rfl) (by kernel_rfl) (fun _ _ _ h => h) (by decide) (by kernel_rfl) ?_ hS0 ?_
    rotate_left
    · intro w hSw; (try dsimp only at hSw); go_simp; (try with_reducible rfl)
    simp only [List.setIfInBounds_toArray, List.set_cons_zero, List.set_cons_succ]
    refine twoT (i := 8) (j := 9) rfl rfl (by kernel_rfl) (fun K hK => ?_) (fun K hK => ?_)
    · skip
      go_simp
      have hb1 : Below w.heap.size w (wd.alloc (.cells #[.int .i64 0, .int .i64 0, .int .i64 0, .int .i64 0, .int .i64 0, .slice none 0 0] 38)) := hb0.alloc (by omega) _
      have hS1 := HKS.out _ hb1
      refine hK.out _ _ (fun _ => hS1) ?_
      clear hK
      try simp only [List.setIfInBounds_toArray, List.set_cons_zero, List.set_cons_succ, Act.put]
      refine oneT (i := 9) rfl (by kernel_rfl) (fun K hK => ?_)
      go_simp
      have hb2 : Below w.heap.size w ((wd.alloc (.cells #[.int .i64 0, .int .i64 0, .int .i64 0, .int .i64 0, .int .i64 0, .slice none 0 0] 38)).alloc (.cells #[.int .i64 0, .int .i64 0, .int .i64 0, .int .i64 0, .int .i64 0, .slice none 0 0] 38)) := hb1.alloc (by simp; omega) _
      have hS2 := HKS.out _ hb2
      have h1 : Has ((wd.alloc (.cells #[.int .i64 0, .int .i64 0, .int .i64 0, .int .i64 0, .int .i64 0, .slice none 0 0] 38)).alloc (.cells #[.int .i64 0, .int .i64 0, .int .i64 0, .int .i64 0, .int .i64 0, .slice none 0 0] 38)) wd.heap.size #[.int .i64 0, .int .i64 0, .int .i64 0, .int .i64 0, .int .i64 0, .slice none 0 0] 38 := (Has.new _ _ _).alloc _
      have h2 : Has ((wd.alloc (.cells #[.int .i64 0, .int .i64 0, .int .i64 0, .int .i64 0, .int .i64 0, .slice none 0 0] 38)).alloc (.cells #[.int .i64 0, .int .i64 0, .int .i64 0, .int .i64 0, .int .i64 0, .slice none 0 0] 38)) (wd.heap.size + 1) #[.int .i64 0, .int .i64 0, .int .i64 0, .int .i64 0, .int .i64 0, .slice none 0 0] 38 := by
        have := Has.new (wd.alloc (.cells #[.int .i64 0, .int .i64 0, .int .i64 0, .int .i64 0, .int .i64 0, .slice none 0 0] 38)) #[.int .i64 0, .int .i64 0, .int .i64 0, .int .i64 0, .int .i64 0, .slice none 0 0] 38
        simpa using this
      refine hK.out _ _ (fun _ => hS2) ?_
      clear hK hS0 hS1 hb1
      try simp only [List.setIfInBounds_toArray, List.set_cons_zero, List.set_cons_succ, Act.put]
      generalize hw2 : (wd.alloc (.cells #[.int .i64 0, .int .i64 0, .int .i64 0, .int .i64 0, .int .i64 0, .slice none 0 0] 38)).alloc (.cells #[.int .i64 0, .int .i64 0, .int .i64 0, .int .i64 0, .int .i64 0, .slice none 0 0] 38) = w2 at *
      have hX : w.heap.size ≤ wd.heap.size := by omega
      have hY : w.heap.size ≤ wd.heap.size + 1 := by omega
      have hXY : wd.heap.size ≠ wd.heap.size + 1 := by omega
      have hx := h1
      have hy := h2
      have hg2 : Gr w w2 := by
        rw [← hw2]
        exact (HG0.out.alloc _).alloc _
      clear h1 h2 hw2 hb2 hb0
      generalize wd.heap.size + 1 = Yb at *
      generalize wd.heap.size = Xb at *
      clear hz0
      have q0 := hx.cell 0
      have q1 := hx.cell 1
      have q2 := hx.cell 2
      have q3 := hx.cell 3
      have q4 := hx.cell 4
      have q5 := hx.cell 5
      have p0 := hx.fz 0
      have p1 := hx.fz 1
      have p2 := hx.fz 2
      have p3 := hx.fz 3
      have p4 := hx.fz 4
      have p5 := hx.fz 5
      have hg3 := st6_gr hg2 hX (.int .i64 x1) (.int .i64 x2) (.int .i64 x3) (.int .i64 x4) (.int .i64 x5) (.slice s1 n1 c1)
      have hx3 := st6_has hx (.int .i64 x1) (.int .i64 x2) (.int .i64 x3) (.int .i64 x4) (.int .i64 x5) (.slice s1 n1 c1)
      have hy3 := st6_other hy (Ne.symm hXY) (.int .i64 x1) (.int .i64 x2) (.int .i64 x3) (.int .i64 x4) (.int .i64 x5) (.slice s1 n1 c1)
      have hS3 := HKS.out _ hg3.1
      clear hx hy
      refine oneT (i := 10) rfl (by kernel_rfl) (fun K hK => ?_)
      go_simp
      refine hK.out _ (st6 w2 Xb (.int .i64 x1) (.int .i64 x2) (.int .i64 x3) (.int .i64 x4) (.int .i64 x5) (.slice s1 n1 c1)) (fun _ => hS3) ?_
      clear hK q0 q1 q2 q3 q4 q5 p0 p1 p2 p3 p4 p5
      try simp only [List.setIfInBounds_toArray, List.set_cons_zero, List.set_cons_succ, Act.put]
      generalize st6 w2 Xb (.int .i64 x1) (.int .i64 x2) (.int .i64 x3) (.int .i64 x4) (.int .i64 x5) (.slice s1 n1 c1) = w3 at *
      have q0 := hy3.cell 0
      have q1 := hy3.cell 1
      have q2 := hy3.cell 2
      have q3 := hy3.cell 3
      have q4 := hy3.cell 4
      have q5 := hy3.cell 5
      have p0 := hy3.fz 0
      have p1 := hy3.fz 1
      have p2 := hy3.fz 2
      have p3 := hy3.fz 3
      have p4 := hy3.fz 4
      have p5 := hy3.fz 5
      have hg4 := st6_gr hg3 hY (.int .i64 y1) (.int .i64 y2) (.int .i64 y3) (.int .i64 y4) (.int .i64 y5) (.slice s2 n2 c2)
      have hy4 := st6_has hy3 (.int .i64 y1) (.int .i64 y2) (.int .i64 y3) (.int .i64 y4) (.int .i64 y5) (.slice s2 n2 c2)
      have hx4 := st6_other hx3 hXY (.int .i64 y1) (.int .i64 y2) (.int .i64 y3) (.int .i64 y4) (.int .i64 y5) (.slice s2 n2 c2)
      have hS4 := HKS.out _ hg4.1
      refine oneT (i := 11) rfl (by kernel_rfl) (fun K hK => ?_)
      go_simp
      refine hK.out _ (st6 w3 Yb (.int .i64 y1) (.int .i64 y2) (.int .i64 y3) (.int .i64 y4) (.int .i64 y5) (.slice s2 n2 c2)) (fun _ => hS4) ?_
      refine doneT (by kernel_rfl) ?_ _
      clear hK
      go_wp2_with fail
      go_meet
      exact ⟨Xb, Yb, rfl, rfl, hx4, hy4, hg4⟩
    · skip
      go_simp
      have hb1 : Below w.heap.size w (wd.alloc (.cells #[.int .i64 0, .int .i64 0, .int .i64 0, .int .i64 0, .int .i64 0, .slice none 0 0] 38)) := hb0.alloc (by omega) _
      have hS1 := HKS.out _ hb1
      refine hK.out _ _ (fun _ => hS1) ?_
      clear hK
      try simp only [List.setIfInBounds_toArray, List.set_cons_zero, List.set_cons_succ, Act.put]
      refine oneT (i := 8) rfl (by kernel_rfl) (fun K hK => ?_)
      go_simp
      have hb2 : Below w.heap.size w ((wd.alloc (.cells #[.int .i64 0, .int .i64 0, .int .i64 0, .int .i64 0, .int .i64 0, .slice none 0 0] 38)).alloc (.cells #[.int .i64 0, .int .i64 0, .int .i64 0, .int .i64 0, .int .i64 0, .slice none 0 0] 38)) := hb1.alloc (by simp; omega) _
      have hS2 := HKS.out _ hb2
      have h1 : Has ((wd.alloc (.cells #[.int .i64 0, .int .i64 0, .int .i64 0, .int .i64 0, .int .i64 0, .slice none 0 0] 38)).alloc (.cells #[.int .i64 0, .int .i64 0, .int .i64 0, .int .i64 0, .int .i64 0, .slice none 0 0] 38)) wd.heap.size #[.int .i64 0, .int .i64 0, .int .i64 0, .int .i64 0, .int .i64 0, .slice none 0 0] 38 := (Has.new _ _ _).alloc _
      have h2 : Has ((wd.alloc (.cells #[.int .i64 0, .int .i64 0, .int .i64 0, .int .i64 0, .int .i64 0, .slice none 0 0] 38)).alloc (.cells #[.int .i64 0, .int .i64 0, .int .i64 0, .int .i64 0, .int .i64 0, .slice none 0 0] 38)) (wd.heap.size + 1) #[.int .i64 0, .int .i64 0, .int .i64 0, .int .i64 0, .int .i64 0, .slice none 0 0] 38 := by
        have := Has.new (wd.alloc (.cells #[.int .i64 0, .int .i64 0, .int .i64 0, .int .i64 0, .int .i64 0, .slice none 0 0] 38)) #[.int .i64 0, .int .i64 0, .int .i64 0, .int .i64 0, .int .i64 0, .slice none 0 0] 38
        simpa using this
      refine hK.out _ _ (fun _ => hS2) ?_
      clear hK hS0 hS1 hb1
      try simp only [List.setIfInBounds_toArray, List.set_cons_zero, List.set_cons_succ, Act.put]
      generalize hw2 : (wd.alloc (.cells #[.int .i64 0, .int .i64 0, .int .i64 0, .int .i64 0, .int .i64 0, .slice none 0 0] 38)).alloc (.cells #[.int .i64 0, .int .i64 0, .int .i64 0, .int .i64 0, .int .i64 0, .slice none 0 0] 38) = w2 at *
      have hX : w.heap.size ≤ wd.heap.size + 1 := by omega
      have hY : w.heap.size ≤ wd.heap.size := by omega
      have hXY : wd.heap.size + 1 ≠ wd.heap.size := by omega
      have hx := h2
      have hy := h1
      have hg2 : Gr w w2 := by
        rw [← hw2]
        exact (HG0.out.alloc _).alloc _
      clear h1 h2 hw2 hb2 hb0
      generalize wd.heap.size + 1 = Xb at *
      generalize wd.heap.size = Yb at *
      clear hz0
      have q0 := hx.cell 0
      have q1 := hx.cell 1
      have q2 := hx.cell 2
      have q3 := hx.cell 3
      have q4 := hx.cell 4
      have q5 := hx.cell 5
      have p0 := hx.fz 0
      have p1 := hx.fz 1
      have p2 := hx.fz 2
      have p3 := hx.fz 3
      have p4 := hx.fz 4
      have p5 := hx.fz 5
      have hg3 := st6_gr hg2 hX (.int .i64 x1) (.int .i64 x2) (.int .i64 x3) (.int .i64 x4) (.int .i64 x5) (.slice s1 n1 c1)
      have hx3 := st6_has hx (.int .i64 x1) (.int .i64 x2) (.int .i64 x3) (.int .i64 x4) (.int .i64 x5) (.slice s1 n1 c1)
      have hy3 := st6_other hy (Ne.symm hXY) (.int .i64 x1) (.int .i64 x2) (.int .i64 x3) (.int .i64 x4) (.int .i64 x5) (.slice s1 n1 c1)
      have hS3 := HKS.out _ hg3.1
      clear hx hy
      refine oneT (i := 10) rfl (by kernel_rfl) (fun K hK => ?_)
      go_simp
      refine hK.out _ (st6 w2 Xb (.int .i64 x1) (.int .i64 x2) (.int .i64 x3) (.int .i64 x4) (.int .i64 x5) (.slice s1 n1 c1)) (fun _ => hS3) ?_
      clear hK q0 q1 q2 q3 q4 q5 p0 p1 p2 p3 p4 p5
      try simp only [List.setIfInBounds_toArray, List.set_cons_zero, List.set_cons_succ, Act.put]
      generalize st6 w2 Xb (.int .i64 x1) (.int .i64 x2) (.int .i64 x3) (.int .i64 x4) (.int .i64 x5) (.slice s1 n1 c1) = w3 at *
      have q0 := hy3.cell 0
      have q1 := hy3.cell 1
      have q2 := hy3.cell 2
      have q3 := hy3.cell 3
      have q4 := hy3.cell 4
      have q5 := hy3.cell 5
      have p0 := hy3.fz 0
      have p1 := hy3.fz 1
      have p2 := hy3.fz 2
      have p3 := hy3.fz 3
      have p4 := hy3.fz 4
      have p5 := hy3.fz 5
      have hg4 := st6_gr hg3 hY (.int .i64 y1) (.int .i64 y2) (.int .i64 y3) (.int .i64 y4) (.int .i64 y5) (.slice s2 n2 c2)
      have hy4 := st6_has hy3 (.int .i64 y1) (.int .i64 y2) (.int .i64 y3) (.int .i64 y4) (.int .i64 y5) (.slice s2 n2 c2)
      have hx4 := st6_other hx3 hXY (.int .i64 y1) (.int .i64 y2) (.int .i64 y3) (.int .i64 y4) (.int .i64 y5) (.slice s2 n2 c2)
      have hS4 := HKS.out _ hg4.1
      refine oneT (i := 11) rfl (by kernel_rfl) (fun K hK => ?_)
      go_simp
      refine hK.out _ (st6 w3 Yb (.int .i64 y1) (.int .i64 y2) (.int .i64 y3) (.int .i64 y4) (.int .i64 y5) (.slice s2 n2 c2)) (fun _ => hS4) ?_
      refine doneT (by kernel_rfl) ?_ _
      clear hK
      go_wp2_with fail
      go_meet
      exact ⟨Xb, Yb, rfl, rfl, hx4, hy4, hg4⟩
  case rest =>
    obtain ⟨X, Y, rfl, rfl, hx, hy, hg⟩ := hcut
    have hc : wc.cell? ⟨X, 0, none⟩ = some (.int .i64 x1) ∧ wc.cell? ⟨X, 2, none⟩ = some (.int .i64 x3) ∧ wc.cell? ⟨X, 3, none⟩ = some (.int .i64 x4) ∧ wc.cell? ⟨Y, 0, none⟩ = some (.int .i64 y1) ∧ wc.cell? ⟨Y, 2, none⟩ = some (.int .i64 y3) ∧ wc.cell? ⟨Y, 3, none⟩ = some (.int .i64 y4) := ⟨hx.cell 0, hx.cell 2, hx.cell 3, hy.cell 0, hy.cell 2, hy.cell 3⟩
    have HG := Lib.hid hg
    have hXl := hx.lt
    have hYl := hy.lt
    clear HKS hx hy hg
    go_upto_region 2 with fail
    refine anyT_start (S := fun W : World => W.cell? ⟨X, 0, none⟩ = some (.int .i64 x1) ∧ W.cell? ⟨X, 2, none⟩ = some (.int .i64 x3) ∧ W.cell? ⟨X, 3, none⟩ = some (.int .i64 x4) ∧ W.cell? ⟨Y, 0, none⟩ = some (.int .i64 y1) ∧ W.cell? ⟨Y, 2, none⟩ = some (.int .i64 y3) ∧ W.cell? ⟨Y, 3, none⟩ = some (.int .i64 y4)) (t := 18) (by kernel_rfl) ?_
    have hS0 : wc.drew.cell? ⟨X, 0, none⟩ = some (.int .i64 x1) ∧ wc.drew.cell? ⟨X, 2, none⟩ = some (.int .i64 x3) ∧ wc.drew.cell? ⟨X, 3, none⟩ = some (.int .i64 x4) ∧ wc.drew.cell? ⟨Y, 0, none⟩ = some (.int .i64 y1) ∧ wc.drew.cell? ⟨Y, 2, none⟩ = some (.int .i64 y3) ∧ wc.drew.cell? ⟨Y, 3, none⟩ = some (.int .i64 y4) := hc
    have HGD := Lib.hid HG.out.drew
    have hz : wc.heap.size ≤ wc.drew.heap.size := Nat.le_refl _
    generalize wc.drew = wd at *
    refine takeS (i := 0) (v := ?_) rfl rfl (by kernel_rfl) (by kernel_rfl) (by kernel_rfl) (fun _ _ _ h => h) (by decide) (by kernel_rfl) ?_ hS0 ?_
    rotate_left
    · intro w hSw; (try dsimp only at hSw); go_simp; (try with_reducible rfl)
    simp only [List.setIfInBounds_toArray, List.set_cons_zero, List.set_cons_succ]
    refine takeS (i := 1) (v := ?_) rfl rfl (by kernel_rfl) (by kernel_rfl) (by kernel_rfl) (fun _ _ _ h => h) (by decide) (by kernel_rfl) ?_ hS0 ?_
    rotate_left
    · intro w hSw; (try dsimp only at hSw); go_simp; (try with_reducible rfl)
    simp only [List.setIfInBounds_toArray, List.set_cons_zero, List.set_cons_succ]
    refine takeS (i := 2) (v := ?_) rfl rfl (by kernel_rfl) (by kernel_rfl) (by kernel_rfl) (fun _ _ _ h => h) (by decide) (by kernel_rfl) ?_ hS0 ?_
    rotate_left
    · intro w hSw; (try dsimp only at hSw); go_simp; (try with_reducible rfl)
    simp only [List.setIfInBounds_toArray, List.set_cons_zero, List.set_cons_succ]
    refine takeS (i := 3) (v := ?_) rfl rfl (by kernel_rfl) (by kernel_rfl) (by kernel_rfl) (fun _ _ _ h => h) (by decide) (by kernel_rfl) ?_ hS0 ?_
    rotate_left
    · intro w hSw; (try dsimp only at hSw); go_simp; (try with_reducible rfl)
    simp only [List.setIfInBounds_toArray, List.set_cons_zero, List.set_cons_succ]
    refine takeS (i := 5) (v := ?_) rfl rfl (by kernel_rfl) (by kernel_rfl) (by kernel_rfl) (fun _ _ _ h => h) (by decide) (by kernel_rfl) ?_ hS0 ?_
    rotate_left
    · intro w hSw; (try dsimp only at hSw); go_simp; (try with_reducible rfl)
    simp only [List.setIfInBounds_toArray, List.set_cons_zero, List.set_cons_succ]
    refine takeS (i := 6) (v := ?_) rfl rfl (by kernel_rfl) (by kernel_rfl) (by kernel_rfl) (fun _ _ _ h => h) (by decide) (by kernel_rfl) ?_ hS0 ?_
    rotate_left
    · intro w hSw; (try dsimp only at hSw); go_simp; (try with_reducible rfl)
    simp only [List.setIfInBounds_toArray, List.set_cons_zero, List.set_cons_succ]
    refine takeS (i := 7) (v := ?_) rfl rfl (by kernel_rfl) (by kernel_rfl) (by kernel_rfl) (fun _ _ _ h => h) (by decide) (by kernel_rfl) ?_ hS0 ?_
    rotate_left
    · intro w hSw; (try dsimp only at hSw); go_simp; (try with_reducible rfl)
    simp only [List.setIfInBounds_toArray, List.set_cons_zero, List.set_cons_succ]
    refine takeS (i := 8) (v := ?_) rfl rfl (by kernel_rfl) (by kernel_rfl) (by kernel_rfl) (fun _ _ _ h => h) (by decide) (by kernel_rfl) ?_ hS0 ?_
    rotate_left
    · intro w hSw; (try dsimp only at hSw); go_simp; (try with_reducible rfl)
    simp only [List.setIfInBounds_toArray, List.set_cons_zero, List.set_cons_succ]
    refine takeS (i := 10) (v := ?_) rfl rfl (by kernel_rfl) (by kernel_rfl) (by kernel_rfl) (fun _ _ _ h => h) (by decide) (by kernel_rfl) ?_ hS0 ?_
    rotate_left
    · intro w hSw; (try dsimp only at hSw); go_simp; (try with_reducible rfl)
    simp only [List.setIfInBounds_toArray, List.set_cons_zero, List.set_cons_succ]
    refine takeS (i := 11) (v := ?_) rfl rfl (by kernel_rfl) (by kernel_rfl) (by kernel_rfl) (fun _ _ _ h => h) (by decide) (by kernel_rfl) ?_ hS0 ?_
    rotate_left
    · intro w hSw; (try dsimp only at hSw); go_simp; (try with_reducible rfl)
    simp only [List.setIfInBounds_toArray, List.set_cons_zero, List.set_cons_succ]
    refine takeS (i := 12) (v := ?_) rfl rfl (by kernel_rfl) (by kernel_rfl) (by kernel_rfl) (fun _ _ _ h => h) (by decide) (by kernel_rfl) ?_ hS0 ?_
    rotate_left
    · intro w hSw; (try dsimp only at hSw); go_simp; (try with_reducible rfl)
    simp only [List.setIfInBounds_toArray, List.set_cons_zero, List.set_cons_succ]
    refine takeS (i := 13) (v := ?_) rfl rfl (by kernel_rfl) (by kernel_rfl) (by kernel_rfl) (fun _ _ _ h => h) (by decide) (by kernel_rfl) ?_ hS0 ?_
    rotate_left
    · intro w hSw; (try dsimp only at hSw); go_simp; (try with_reducible rfl)
    simp only [List.setIfInBounds_toArray, List.set_cons_zero, List.set_cons_succ]
    refine oneT (i := 4) rfl (by kernel_rfl) (fun K hK => ?_)
    go_simp
    refine (cmp_any _ _ _).mono ?_
    rintro e w' ⟨rfl, rfl⟩
    refine hK.out _ _ (fun _ => hS0) ?_
    clear hK
    try simp only [List.setIfInBounds_toArray, List.set_cons_zero, List.set_cons_succ, Act.put]
    refine oneT (i := 9) rfl (by kernel_rfl) (fun K hK => ?_)
    go_simp
    refine (cmp_any _ _ _).mono ?_
    rintro e w' ⟨rfl, rfl⟩
    refine hK.out _ _ (fun _ => hS0) ?_
    clear hK
    try simp only [List.setIfInBounds_toArray, List.set_cons_zero, List.set_cons_succ, Act.put]
    refine oneT (i := 14) rfl (by kernel_rfl) (fun K hK => ?_)
    go_simp
    refine (cmp_any _ _ _).mono ?_
    rintro e w' ⟨rfl, rfl⟩
    refine hK.out _ _ (fun _ => hS0) ?_
    clear hK
    try simp only [List.setIfInBounds_toArray, List.set_cons_zero, List.set_cons_succ, Act.put]
    generalize hk1 : cmpI y3 x3 = k1 at *
    generalize hk2 : cmpI x4 y4 = k2 at *
    generalize hk3 : cmpI x1 y1 = k3 at *
    have hor := orInt_any _ [k1, k2, k3] _ (ints3_at wd k1 k2 k3 3) (by simp)
    have hba : Below wd.heap.size wd (wd.alloc (.cells #[.int .i64 k1, .int .i64 k2, .int .i64 k3] 3)) := (Below.refl _ _).alloc (Nat.le_refl _) _
    have hS1 : (wd.alloc (.cells #[.int .i64 k1, .int .i64 k2, .int .i64 k3] 3)).cell? ⟨X, 0, none⟩ = some (.int .i64 x1) ∧ (wd.alloc (.cells #[.int .i64 k1, .int .i64 k2, .int .i64 k3] 3)).cell? ⟨X, 2, none⟩ = some (.int .i64 x3) ∧ (wd.alloc (.cells #[.int .i64 k1, .int .i64 k2, .int .i64 k3] 3)).cell? ⟨X, 3, none⟩ = some (.int .i64 x4) ∧ (wd.alloc (.cells #[.int .i64 k1, .int .i64 k2, .int .i64 k3] 3)).cell? ⟨Y, 0, none⟩ = some (.int .i64 y1) ∧ (wd.alloc (.cells #[.int .i64 k1, .int .i64 k2, .int .i64 k3] 3)).cell? ⟨Y, 2, none⟩ = some (.int .i64 y3) ∧ (wd.alloc (.cells #[.int .i64 k1, .int .i64 k2, .int .i64 k3] 3)).cell? ⟨Y, 3, none⟩ = some (.int .i64 y4) := ⟨(below_cell hba (by omega)).trans hS0.1, (below_cell hba (by omega)).trans hS0.2.1, (below_cell hba (by omega)).trans hS0.2.2.1, (below_cell hba (by omega)).trans hS0.2.2.2.1, (below_cell hba (by omega)).trans hS0.2.2.2.2.1, (below_cell hba (by omega)).trans hS0.2.2.2.2.2⟩
    have HGE := Lib.hid (HGD.out.alloc (.cells #[.int .i64 k1, .int .i64 k2, .int .i64 k3] 3))
    have HOR := Lib.hid hor
    have HKK := Lib.hid (show orI [cmpI y3 x3, cmpI x4 y4, cmpI x1 y1] = orI [k1, k2, k3] by rw [hk1, hk2, hk3])
    clear hor hk1 hk2 hk3
    refine oneT (i := 15) rfl (by kernel_rfl) (fun K hK => ?_)
    go_simp
    refine hK.out _ _ (fun _ => hS1) ?_
    clear hK
    try simp only [List.setIfInBounds_toArray, List.set_cons_zero, List.set_cons_succ, Act.put]
    refine oneT (i := 16) rfl (by kernel_rfl) (fun K hK => ?_)
    go_simp
    refine HOR.out.mono ?_
    rintro e w' ⟨rfl, rfl⟩
    refine hK.out _ _ (fun _ => hS1) ?_
    clear hK
    try simp only [List.setIfInBounds_toArray, List.set_cons_zero, List.set_cons_succ, Act.put]
    generalize hz9 : orI [k1, k2, k3] = z at *
    have HKZ := Lib.hid hz9
    clear hz9
    refine oneT (i := 17) rfl (by kernel_rfl) (fun K hK => ?_)
    go_simp
    refine hK.out _ _ (fun _ => hS1) ?_
    refine doneT (by kernel_rfl) ?_ _
    clear hK
    try simp only [List.setIfInBounds_toArray, List.set_cons_zero, List.set_cons_succ, Act.put]
    go_wp2_with fail
    go_ret
    exact ⟨by rw [HKK.out]; rfl, HGE.out⟩
end Go.Proofs.YtemikhnkjligdaaGreatDoor
