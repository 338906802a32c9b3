/- From the form's reading of an argument to a policy and to points. -/
import Derived.Test.YtllcgcnebofdoaaGreatDoorCOpen
import Derived.Test.YtllcgcnebofdoaaGreatDoorPoChk3
import Derived.Test.YtllcgcnebofdoaaGreatDoorCkHist
namespace Go.Proofs.YtllcgcnebofdoaaGreatDoor
open Go.ChangeShapes Go.WideShapes Go.ChangeAt Go.RowKit Go.Joins

theorem cellsStr : Tryz.prog.cellsOf 9 = 1 := by kernel_rfl
theorem cellsTest : Tryz.prog.cellsOf 144 = 4 := by kernel_rfl
theorem cellsValue : Tryz.prog.cellsOf 142 = 3 := by kernel_rfl
theorem cellsTarget : Tryz.prog.cellsOf 72 = 3 := by kernel_rfl
theorem cellsLevel : Tryz.prog.cellsOf 106 = 3 := by kernel_rfl
theorem cellsPolicy : Tryz.prog.cellsOf 25 = 2 := by kernel_rfl
theorem cellsTests : Tryz.prog.cellsOf 103 = 1 := by kernel_rfl
theorem cellsTargets : Tryz.prog.cellsOf 104 = 1 := by kernel_rfl
theorem cellsInts : Tryz.prog.cellsOf 22 = 1 := by kernel_rfl
theorem cellsLevels : Tryz.prog.cellsOf 23 = 1 := by kernel_rfl
instance : Inhabited TstD := ⟨⟨0, 0, 0, ⟨#[]⟩⟩⟩
instance : Inhabited LevD := ⟨⟨⟨#[]⟩, [], []⟩⟩
theorem cellsPoint : Tryz.prog.cellsOf 43 = 6 := by kernel_rfl
theorem cellsValues : Tryz.prog.cellsOf 41 = 1 := by kernel_rfl
instance : Inhabited ValD := ⟨(0, 0, ⟨#[]⟩)⟩
section
variable {H : Type} {enc : TypeId × Value → H} {w : World} {spare : Nat → Bool} {held : Bool}
theorem lenA2 {α : Type} {l : Array α} (h : l.size = 2) : ∃ a b, l = #[a, b] := by
  obtain ⟨l⟩ := l
  simp only [List.size_toArray] at h
  match l, h with
  | [a, b], _ => exact ⟨a, b, rfl⟩
theorem lenL1 {α : Type} {l : List α} (h : l.length = 1) : ∃ a, l = [a] := by
  match l, h with
  | [a], _ => exact ⟨a, rfl⟩
theorem lenL4 {α : Type} {l : List α} (h : l.length = 4) : ∃ a b c d, l = [a, b, c, d] := by
  match l, h with
  | [a, b, c, d], _ => exact ⟨a, b, c, d, rfl⟩
theorem lenL6 {α : Type} {l : List α} (h : l.length = 6) : ∃ a b c d e f, l = [a, b, c, d, e, f] := by
  match l, h with
  | [a, b, c, d, e, f], _ => exact ⟨a, b, c, d, e, f, rfl⟩
theorem trod_struct6 {P : Program} {base : Nat} {t : TypeId} {f0 f1 f2 f3 f4 f5 : Field} {fuel : Nat} {cs : List Value} {x : DataW H × List MemPlace} (ht : P.underlying t = some (.struct #[f0, f1, f2, f3, f4, f5])) (h : DataW.trod enc P w base spare held fuel t cs = some x) :
    ∃ y0 y1 y2 y3 y4 y5 n, DataW.trod enc P w base spare held n f0.type ((cs.drop f0.offset).take (P.cellsOf f0.type)) = some y0 ∧ DataW.trod enc P w base spare held n f1.type ((cs.drop f1.offset).take (P.cellsOf f1.type)) = some y1 ∧
      DataW.trod enc P w base spare held n f2.type ((cs.drop f2.offset).take (P.cellsOf f2.type)) = some y2 ∧ DataW.trod enc P w base spare held n f3.type ((cs.drop f3.offset).take (P.cellsOf f3.type)) = some y3 ∧
      DataW.trod enc P w base spare held n f4.type ((cs.drop f4.offset).take (P.cellsOf f4.type)) = some y4 ∧ DataW.trod enc P w base spare held n f5.type ((cs.drop f5.offset).take (P.cellsOf f5.type)) = some y5 := by
  obtain ⟨xs, n, _, rfl, hl, hlen, hf⟩ := DataW.trod_struct ht h
  match xs, hlen with
  | [y0, y1, y2, y3, y4, y5], _ => exact ⟨y0, y1, y2, y3, y4, y5, n, by simpa using hf 0 f0 rfl, by simpa using hf 1 f1 rfl, by simpa using hf 2 f2 rfl, by simpa using hf 3 f3 rfl, by simpa using hf 4 f4 rfl, by simpa using hf 5 f5 rfl⟩
theorem int_elem : ∀ n cs (x : DataW H × List MemPlace), cs.length = 1 → DataW.trod enc Tryz.prog w 0 spare held n 3 cs = some x → ∃ y, intR w cs y ∧ True := by
  intro n cs x hl h
  obtain ⟨c0, rfl⟩ := lenL1 hl
  obtain ⟨k0, e0, _, _⟩ := DataW.trod_int Tryz.underlying3 h
  cases e0
  exact ⟨k0, rfl, trivial⟩
set_option maxRecDepth 100000 in
theorem test_elem : ∀ n cs (x : DataW H × List MemPlace), cs.length = 4 → DataW.trod enc Tryz.prog w 0 spare held n 144 cs = some x → ∃ y, tstR w cs y ∧ True := by
  intro n cs x hl h
  obtain ⟨y0, y1, m, hx, _, h0, h1⟩ := trod_struct2 Tryz.underlying144 h
  obtain ⟨c0, c1, c2, c3, rfl⟩ := lenL4 hl
  simp only [List.drop_zero, List.drop_succ_cons, cellsInt, cellsValue, List.take_succ_cons, List.take_zero] at h0 h1
  obtain ⟨k0, e0, _, _⟩ := DataW.trod_int Tryz.underlying3 h0
  obtain ⟨z0, z1, z2, m2, hz, _, g0, g1, g2⟩ := Go.Deep.trod_struct3 Tryz.underlying142 h1
  simp only [List.drop_zero, List.drop_succ_cons, cellsInt, cellsStr, List.take_succ_cons, List.take_zero] at g0 g1 g2
  obtain ⟨k1, e1, _, _⟩ := DataW.trod_int Tryz.underlying3 g0
  obtain ⟨k2, e2, _, _⟩ := DataW.trod_int Tryz.underlying3 g1
  obtain ⟨s, e3, _, hs⟩ := DataW.trod_string Tryz.underlying9 g2
  cases e0; cases e1; cases e2; cases e3
  exact ⟨⟨k0, k1, k2, s⟩, ⟨rfl, hs⟩, trivial⟩
theorem target_elem : ∀ n cs (x : DataW H × List MemPlace), cs.length = 3 → DataW.trod enc Tryz.prog w 0 spare held n 72 cs = some x → ∃ y, tgtR w cs y ∧ True := by
  intro n cs x hl h
  obtain ⟨y0, y1, y2, m, hx, _, h0, h1, h2⟩ := Go.Deep.trod_struct3 Tryz.underlying72 h
  obtain ⟨c0, c1, c2, rfl⟩ := len3 hl
  simp only [List.drop_zero, List.drop_succ_cons, cellsInt, List.take_succ_cons, List.take_zero] at h0 h1 h2
  obtain ⟨k0, e0, _, _⟩ := DataW.trod_int Tryz.underlying3 h0
  obtain ⟨k1, e1, _, _⟩ := DataW.trod_int Tryz.underlying3 h1
  obtain ⟨k2, e2, _, _⟩ := DataW.trod_int Tryz.underlying3 h2
  cases e0; cases e1; cases e2
  exact ⟨(k0, k1, k2), rfl, trivial⟩
set_option maxRecDepth 100000 in
theorem level_elem : ∀ n cs (x : DataW H × List MemPlace), cs.length = 3 → DataW.trod enc Tryz.prog w 0 spare held n 106 cs = some x → ∃ y, levR w cs y ∧ True := by
  intro n cs x hl h
  obtain ⟨y0, y1, y2, m, hx, _, h0, h1, h2⟩ := Go.Deep.trod_struct3 Tryz.underlying106 h
  obtain ⟨c0, c1, c2, rfl⟩ := len3 hl
  simp only [List.drop_zero, List.drop_succ_cons, cellsStr, cellsTests, cellsTargets, List.take_succ_cons, List.take_zero] at h0 h1 h2
  obtain ⟨s, e0, _, hs⟩ := DataW.trod_string Tryz.underlying9 h0
  obtain ⟨u1, l1, e1, hs1, _⟩ := open_list (α := TstD) (R := tstR) (Q := fun _ _ => True) Tryz.underlying103 cellsTest (by decide) test_elem h1
  obtain ⟨u2, l2, e2, hs2, _⟩ := open_list (α := TgtD) (R := tgtR) (Q := fun _ _ => True) Tryz.underlying104 cellsTarget (by decide) target_elem h2
  cases e0; cases e1; cases e2
  exact ⟨⟨s, l1, l2⟩, ⟨_, _, rfl, hs, hs1, hs2⟩, trivial⟩
set_option maxRecDepth 100000 in
theorem open_policy {r : Reach} {b0 : Nat} {v : Value} {d : DataW H} {p : List MemPlace} (hv : Value.okWide Tryz.prog w r b0 25 v) (h : DataW.Trod enc Tryz.prog w 0 spare held 25 v d p) : ∃ vp vl q, v = .agg #[vp, vl] ∧ PolAt w vp vl q := by
  obtain ⟨cs, rfl, hsz⟩ := okWide_struct Tryz.underlying25 hv
  obtain ⟨v0, v1, rfl⟩ := lenA2 (hsz.trans cellsPolicy)
  obtain ⟨fuel, hf⟩ := h
  obtain ⟨y0, y1, n, hx, _, h0, h1⟩ := trod_struct2 Tryz.underlying25 hf
  simp only [Value.cells, List.drop_zero, List.drop_succ_cons, cellsInts, cellsLevels, List.take_succ_cons, List.take_zero] at h0 h1
  obtain ⟨u1, l1, e1, hs1, _⟩ := open_list (α := Int) (R := intR) (Q := fun _ _ => True) Tryz.underlying22 cellsInt (by decide) int_elem h0
  obtain ⟨u2, l2, e2, hs2, _⟩ := open_list (α := LevD) (R := levR) (Q := fun _ _ => True) Tryz.underlying23 cellsLevel (by decide) level_elem h1
  cases e1; cases e2
  exact ⟨_, _, ⟨l1, l2⟩, rfl, ⟨hs1, hs2⟩⟩
theorem value_elem : ∀ n cs (x : DataW H × List MemPlace), cs.length = 3 → DataW.trod enc Tryz.prog w 0 spare held n 142 cs = some x → ∃ y, valR w cs y ∧ True := by
  intro n cs x hl h
  obtain ⟨z0, z1, z2, m2, hz, _, g0, g1, g2⟩ := Go.Deep.trod_struct3 Tryz.underlying142 h
  obtain ⟨c0, c1, c2, rfl⟩ := len3 hl
  simp only [List.drop_zero, List.drop_succ_cons, cellsInt, cellsStr, List.take_succ_cons, List.take_zero] at g0 g1 g2
  obtain ⟨k1, e1, _, _⟩ := DataW.trod_int Tryz.underlying3 g0
  obtain ⟨k2, e2, _, _⟩ := DataW.trod_int Tryz.underlying3 g1
  obtain ⟨s, e3, _, _⟩ := DataW.trod_string Tryz.underlying9 g2
  cases e1; cases e2; cases e3
  exact ⟨(k1, k2, s), rfl, trivial⟩
set_option maxRecDepth 100000 in
theorem point_elem : ∀ n cs (x : DataW H × List MemPlace), cs.length = 6 → DataW.trod enc Tryz.prog w 0 spare held n 43 cs = some x → ∃ y, pntR w cs y ∧ True := by
  intro n cs x hl h
  obtain ⟨c0, c1, c2, c3, c4, c5, rfl⟩ := lenL6 hl
  obtain ⟨y0, y1, y2, y3, y4, y5, m, h0, h1, h2, h3, h4, h5⟩ := trod_struct6 Tryz.underlying43 h
  simp only [List.drop_zero, List.drop_succ_cons, cellsInt, cellsValues, List.take_succ_cons, List.take_zero] at h0 h1 h2 h3 h4 h5
  obtain ⟨k0, e0, _, _⟩ := DataW.trod_int Tryz.underlying3 h0
  obtain ⟨k1, e1, _, _⟩ := DataW.trod_int Tryz.underlying3 h1
  obtain ⟨k2, e2, _, _⟩ := DataW.trod_int Tryz.underlying3 h2
  obtain ⟨k3, e3, _, _⟩ := DataW.trod_int Tryz.underlying3 h3
  obtain ⟨k4, e4, _, _⟩ := DataW.trod_int Tryz.underlying3 h4
  obtain ⟨u, l, e, hs, _⟩ := open_list (α := ValD) (R := valR) (Q := fun _ _ => True) Tryz.underlying41 cellsValue (by decide) value_elem h5
  cases e0; cases e1; cases e2; cases e3; cases e4; cases e
  exact ⟨⟨k0, k1, k2, k3, k4, l⟩, ⟨_, rfl, hs⟩, trivial⟩
set_option maxRecDepth 100000 in
theorem open_points {r : Reach} {b0 : Nat} {v : Value} {d : DataW H} {p : List MemPlace} (hv : Value.okWide Tryz.prog w r b0 26 v) (h : DataW.Trod enc Tryz.prog w 0 spare held 26 v d p) : ∃ l, Pnts w v l := by
  obtain ⟨fuel, hf⟩ := h
  obtain ⟨a, n, c, rfl⟩ := okWide_slice Tryz.underlying26 hv
  obtain ⟨u, l, e, hs, _⟩ := open_list (α := PntD) (R := pntR) (Q := fun _ _ => True) Tryz.underlying26 cellsPoint (by decide) point_elem hf
  cases e
  exact ⟨l, hs⟩
end
end Go.Proofs.YtllcgcnebofdoaaGreatDoor
