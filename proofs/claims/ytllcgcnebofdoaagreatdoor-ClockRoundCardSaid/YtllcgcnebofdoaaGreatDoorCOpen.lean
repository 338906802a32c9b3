/- From the form's reading of an argument to a calendar. -/
import Derived.Test.YtllcgcnebofdoaaGreatDoorOpen
import Derived.Test.YtllcgcnebofdoaaGreatDoorCalChk
namespace Go.Proofs.YtllcgcnebofdoaaGreatDoor
open Go.ChangeShapes Go.WideShapes Go.ChangeAt Go.RowKit Go.Joins

theorem laidOut : laidOutB Tryz.prog = true := by kernel_rfl
theorem cellsCal : Tryz.prog.cellsOf 54 = 4 := by kernel_rfl
theorem cellsZone : Tryz.prog.cellsOf 50 = 2 := by kernel_rfl
theorem cellsChange : Tryz.prog.cellsOf 129 = 2 := by kernel_rfl
theorem cellsShift : Tryz.prog.cellsOf 131 = 3 := by kernel_rfl
theorem cellsSpc : Tryz.prog.cellsOf 92 = 2 := by kernel_rfl
theorem cellsInt : Tryz.prog.cellsOf 3 = 1 := by kernel_rfl
theorem cellsChanges : Tryz.prog.cellsOf 48 = 1 := by kernel_rfl
theorem cellsShifts : Tryz.prog.cellsOf 51 = 1 := by kernel_rfl
theorem cellsSpcs : Tryz.prog.cellsOf 52 = 1 := by kernel_rfl
section
variable {H : Type} {enc : TypeId × Value → H} {w : World} {spare : Nat → Bool} {held : Bool}
theorem len2 {α : Type} {l : List α} (h : l.length = 2) : ∃ a b, l = [a, b] := by
  match l, h with
  | [a, b], _ => exact ⟨a, b, rfl⟩
theorem len3 {α : Type} {l : List α} (h : l.length = 3) : ∃ a b c, l = [a, b, c] := by
  match l, h with
  | [a, b, c], _ => exact ⟨a, b, c, rfl⟩
theorem len4 {α : Type} {l : Array α} (h : l.size = 4) : ∃ a b c d, l = #[a, b, c, d] := by
  obtain ⟨l⟩ := l
  simp only [List.size_toArray] at h
  match l, h with
  | [a, b, c, d], _ => exact ⟨a, b, c, d, rfl⟩
theorem change_elem : ∀ n cs (x : DataW H × List MemPlace), cs.length = 2 → DataW.trod enc Tryz.prog w 0 spare held n 129 cs = some x → ∃ y, pairR w cs y ∧ True := by
  intro n cs x hl h
  obtain ⟨y0, y1, m, hx, _, h0, h1⟩ := trod_struct2 Tryz.underlying129 h
  obtain ⟨c0, c1, rfl⟩ := len2 hl
  simp only [List.drop_zero, List.drop_succ_cons, cellsInt, List.take_succ_cons, List.take_zero] at h0 h1
  obtain ⟨k0, e0, _, _⟩ := DataW.trod_int Tryz.underlying3 h0
  obtain ⟨k1, e1, _, _⟩ := DataW.trod_int Tryz.underlying3 h1
  cases e0; cases e1
  exact ⟨(k0, k1), rfl, trivial⟩
theorem shift_elem : ∀ n cs (x : DataW H × List MemPlace), cs.length = 3 → DataW.trod enc Tryz.prog w 0 spare held n 131 cs = some x → ∃ y, shfR w cs y ∧ True := by
  intro n cs x hl h
  obtain ⟨y0, y1, y2, m, hx, _, h0, h1, h2⟩ := Go.Deep.trod_struct3 Tryz.underlying131 h
  obtain ⟨c0, c1, c2, rfl⟩ := len3 hl
  simp only [List.drop_zero, List.drop_succ_cons, cellsInt, List.take_succ_cons, List.take_zero] at h0 h1 h2
  obtain ⟨k0, e0, _, _⟩ := DataW.trod_int Tryz.underlying3 h0
  obtain ⟨k1, e1, _, _⟩ := DataW.trod_int Tryz.underlying3 h1
  obtain ⟨k2, e2, _, _⟩ := DataW.trod_int Tryz.underlying3 h2
  cases e0; cases e1; cases e2
  exact ⟨(k0, k1, k2), rfl, trivial⟩
set_option maxRecDepth 100000 in
theorem spc_elem : ∀ n cs (x : DataW H × List MemPlace), cs.length = 2 → DataW.trod enc Tryz.prog w 0 spare held n 92 cs = some x → ∃ y, spcR w cs y ∧ True := by
  intro n cs x hl h
  obtain ⟨y0, y1, m, hx, _, h0, h1⟩ := trod_struct2 Tryz.underlying92 h
  obtain ⟨c0, c1, rfl⟩ := len2 hl
  simp only [List.drop_zero, List.drop_succ_cons, cellsInt, cellsShifts, List.take_succ_cons, List.take_zero] at h0 h1
  obtain ⟨k0, e0, _, _⟩ := DataW.trod_int Tryz.underlying3 h0
  obtain ⟨u, l, e, hs, _⟩ := open_list (α := Shf) (R := shfR) (Q := fun _ _ => True) Tryz.underlying51 cellsShift (by decide) shift_elem h1
  cases e0; cases e
  exact ⟨(k0, l), ⟨_, rfl, hs⟩, trivial⟩
set_option maxRecDepth 100000 in
theorem open_cal {r : Reach} {b0 : Nat} {v : Value} {d : DataW H} {p : List MemPlace} (hv : Value.okWide Tryz.prog w r b0 54 v) (h : DataW.Trod enc Tryz.prog w 0 spare held 54 v d p) :
    ∃ c vcs vwk vsp, v = .agg #[.int .i64 (CalD.off c), vcs, vwk, vsp] ∧ CalAt w vcs vwk vsp c := by
  obtain ⟨cs, rfl, hsz⟩ := okWide_struct Tryz.underlying54 hv
  obtain ⟨v0, v1, v2, v3, rfl⟩ := len4 (hsz.trans cellsCal)
  obtain ⟨fuel, hf⟩ := h
  obtain ⟨y0, y1, y2, n, hx, _, h0, h1, h2⟩ := Go.Deep.trod_struct3 Tryz.underlying54 hf
  simp only [Value.cells, List.drop_zero, List.drop_succ_cons, cellsZone, cellsShifts, cellsSpcs, List.take_succ_cons, List.take_zero] at h0 h1 h2
  obtain ⟨z0, z1, m, hz, _, g0, g1⟩ := trod_struct2 Tryz.underlying50 h0
  simp only [List.drop_zero, List.drop_succ_cons, cellsInt, cellsChanges, List.take_succ_cons, List.take_zero] at g0 g1
  obtain ⟨k0, e0, _, _⟩ := DataW.trod_int Tryz.underlying3 g0
  obtain ⟨u1, l1, e1, hs1, _⟩ := open_list (α := Int × Int) (R := pairR) (Q := fun _ _ => True) Tryz.underlying48 cellsChange (by decide) change_elem g1
  obtain ⟨u2, l2, e2, hs2, _⟩ := open_list (α := Shf) (R := shfR) (Q := fun _ _ => True) Tryz.underlying51 cellsShift (by decide) shift_elem h1
  obtain ⟨u3, l3, e3, hs3, _⟩ := open_list (α := Int × List Shf) (R := spcR) (Q := fun _ _ => True) Tryz.underlying52 cellsSpc (by decide) spc_elem h2
  cases e0; cases e1; cases e2; cases e3
  exact ⟨⟨k0, l1, l2, l3⟩, _, _, _, rfl, ⟨hs1, hs2, hs3⟩⟩
end
end Go.Proofs.YtllcgcnebofdoaaGreatDoor
