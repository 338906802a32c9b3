/- From the form's reading of an argument to a list: slices whose elements are of whatever type. -/
import Derived.Test.YtemikhnkjligdaaGreatDoorQBase
import Derived.Deep.Slices
import Derived.Lib.SmallJoins
import Derived.ProofKit
import Derived.OpenShut
import Derived.JoinedCond
import Derived.Test.YtemikhnkjligdaaGreatDoorQCalChk
import Derived.Test.YtemikhnkjligdaaGreatDoorQRfBase
import Derived.ChangeArms
namespace Go.Proofs.YtemikhnkjligdaaGreatDoor
open Go.RowKit

section
variable {H : Type} {enc : TypeId × Value → H} {P : Program} {w : World} {spare : Nat → Bool} {held : Bool}

theorem addr_plain {w : World} {a : Addr} {v : Value} (h : w.cell? a = some v) : a.spot = none := by
  unfold World.cell? at h
  split at h
  · cases hs : a.spot with
    | none => rfl
    | some _ => simp [hs] at h
  · cases h
theorem add_spot (a : Addr) (i : Nat) (h : (a.add i).spot = none) : (a.add i) = ⟨a.block, a.off + i, none⟩ := by
  unfold Addr.add at h ⊢
  split at h
  · rename_i h0
    subst h0
    cases a
    simp_all
  · rename_i h0
    rw [if_neg h0]
theorem add_first {a : Addr} {i j : Nat} (h : ((a.add i).add j).spot = none) : (a.add i).add j = ⟨a.block, a.off + i + j, none⟩ := by
  have h1 := add_spot (a.add i) j h
  rw [h1]
  have h2 : (a.add i).block = a.block ∧ (a.add i).off = a.off + i := by
    unfold Addr.add
    split
    · rename_i h0; subst h0; simp
    · simp
  rw [h2.1, h2.2]

/-- A SLICE THAT READS: as a list. -/
theorem open_list {α : Type} [Inhabited α] {R : World → List Value → α → Prop} {Q : DataW H → α → Prop} {t e : TypeId} {sz : Nat} (ht : P.underlying t = some (.slice e)) (hsz : P.cellsOf e = sz) (h0 : 0 < sz)
    (elem : ∀ n cs x, cs.length = sz → DataW.trod enc P w 0 spare held n e cs = some x → ∃ y, R w cs y ∧ Q x.1 y) {fuel : Nat} {cs : List Value} {x : DataW H × List MemPlace} (h : DataW.trod enc P w 0 spare held fuel t cs = some x) :
    ∃ v l, cs = [v] ∧ SliceAt sz R w v l ∧ ((x.1 = .nil ∧ l = []) ∨ ∃ es sp, x.1 = .slice es sp ∧ es.length = l.length ∧ ∀ i (hi : i < l.length), ∃ d, es[i]? = some d ∧ Q d l[i]) := by
  rcases Go.Deep.open_slice ht h with ⟨rfl, rfl⟩ | ⟨a, len, cap, m, n, D, Pl, rfl, hb, hl, hm, hmm, rfl, hx⟩
  · exact ⟨_, [], rfl, .inl ⟨none, 0, rfl, rfl⟩, .inl ⟨rfl, rfl⟩⟩
  · have hle : len ≤ m := by rw [hmm]; split <;> omega
    have hY : ∃ Y : Nat → α, ∀ i, i < len → (∃ cs', w.cells? 0 (a.add (i * sz)) sz = some cs' ∧ R w cs' (Y i)) ∧ Q (D i) (Y i) := by
      refine Go.Deep.choose_lt (α := α) (p := fun i y => (∃ cs', w.cells? 0 (a.add (i * sz)) sz = some cs' ∧ R w cs' y) ∧ Q (D i) y) fun i hi => ?_
      obtain ⟨cs', h1, h2⟩ := hx i (by omega)
      rw [hsz] at h1
      obtain ⟨_, h3, _⟩ := World.cells?_some h1
      obtain ⟨y, hr, hq⟩ := elem n cs' _ h3 h2
      exact ⟨y, ⟨cs', h1, hr⟩, hq⟩
    obtain ⟨Y, hY⟩ := hY
    refine ⟨_, (List.range len).map Y, rfl, ?_, .inr ⟨_, _, rfl, by simp, fun i hi => ?_⟩⟩
    · by_cases hl0 : len = 0
      · subst hl0
        exact .inl ⟨some a, cap, rfl, rfl⟩
      · obtain ⟨⟨cs', h1, _⟩, _⟩ := hY 0 (by omega)
        obtain ⟨_, h3, h4⟩ := World.cells?_some h1
        have h5 := h4 0 h0
        rw [List.getElem?_eq_getElem (by omega)] at h5
        have h6 := World.block_lt_of_cell? w _ h5
        have h7 := addr_plain h5
        have hzero : (a.add (0 * sz)).add 0 = a := by simp [Addr.add]
        rw [hzero] at h6 h7
        have ha : a = ⟨a.block, a.off, none⟩ := by cases a; simp_all
        refine .inr ⟨a.block, a.off, cap, ?_, by simpa using hl, h6, fun i hi => ?_⟩
        · rw [List.length_map, List.length_range, ← ha]
        · have hi' : i < len := by simpa using hi
          obtain ⟨⟨cs2, g1, g2⟩, _⟩ := hY i hi'
          obtain ⟨_, g3, g4⟩ := World.cells?_some g1
          refine ⟨cs2, ⟨g3, fun j hj => ?_⟩, by simpa using g2⟩
          have g5 := g4 j (by omega)
          rw [List.getElem?_eq_getElem hj] at g5
          rw [add_first (addr_plain g5)] at g5
          exact g5
    · have hi' : i < len := by simpa using hi
      exact ⟨D i, by simp [hi'], by simpa using (hY i hi').2⟩

theorem open_str_elem {e : TypeId} (he : P.underlying e = some .string) : ∀ n cs (x : DataW H × List MemPlace), cs.length = 1 → DataW.trod enc P w 0 spare held n e cs = some x → ∃ y, strR w cs y ∧ x.1 = .lit (.string y.data.toList) := by
  intro n cs x _ h
  obtain ⟨s, rfl, rfl, _⟩ := DataW.trod_string he h
  exact ⟨s, rfl, rfl⟩
theorem open_int_elem {e : TypeId} (he : P.underlying e = some (.int .i64)) : ∀ n cs (x : DataW H × List MemPlace), cs.length = 1 → DataW.trod enc P w 0 spare held n e cs = some x → ∃ y, (intR w cs y ∧ -9223372036854775808 ≤ y ∧ y ≤ 9223372036854775807) ∧ x.1 = .lit (.int .i64 y) := by
  intro n cs x _ h
  obtain ⟨y, rfl, rfl, hw⟩ := DataW.trod_int he h
  refine ⟨y, ⟨rfl, ?_⟩, rfl⟩
  have h2 : (Lit.int .i64 y).wf = (decide (IntKind.i64.min ≤ y) && decide (y ≤ IntKind.i64.max)) := rfl
  rw [h2, show IntKind.i64.min = -9223372036854775808 from by decide, show IntKind.i64.max = 9223372036854775807 from by decide] at hw
  simpa using hw
end

/-! ### A law's end: it returned true, and nothing that was there has turned -/
section
open Go.ChangeShapes Go.WideShapes
variable {H : Type} {enc : TypeId × Value → H} {P : Program}
theorem args_below (hl : laidOutB P = true) {W W' : World} (hb : Below W.heap.size W W') : ∀ (ts : List TypeId) (vs : List Value) (ds : List (DataW H)) (ps : List MemPlace), (∀ t ∈ ts, P.readableRec t = true ∧ t < P.types.size) →
    DataW.TrodAll enc P W 0 (fun _ => true) true ts vs ds ps → (∀ x ∈ ps, x.block < W.heap.size) → DataW.TrodAll enc P W' 0 (fun b => decide (b < W.heap.size)) true ts vs ds ps
  | [], vs, ds, ps, _, h, _ => by
    obtain ⟨rfl, rfl, rfl⟩ := trodAll_nil h
    exact trodAll_mk0
  | t :: ts, vs, ds, ps, ht, h, hlt => by
    obtain ⟨v, vs', d, ds', p, q, rfl, rfl, rfl, h0, h1⟩ := trodAll_cons h
    have h2 := ht t List.mem_cons_self
    exact trodAll_cons_mk (Below.trod hl h2.1 h2.2 h0 hb (fun x hx => hlt x (List.mem_append.2 (.inl hx))))
      (args_below hl hb ts vs' ds' q (fun t' h' => ht t' (List.mem_cons_of_mem _ h')) h1 (fun x hx => hlt x (List.mem_append.2 (.inr hx))))

theorem law_post {f : Func} {s : ChangeSpec} {W W' : World} {args : Array Value} {ds gs : List (DataW H)} {before : List MemPlace} {tb : TypeId} (hl : laidOutB P = true)
    (hr : ∀ t ∈ f.params.toList, P.readableRec t = true ∧ t < P.types.size) (hres : f.resultTypes = #[tb]) (htb : P.underlying tb = some .bool) (hsv : s.vars = [])
    (hfn : s.fn H (ds ++ gs) = { results := [.lit (.bool true)], args := ds }) (hW : DataW.Whole enc P f.params.toList s.vars false W args.toList ds gs before) (hb : Below W.heap.size W W') :
    s.post enc P f false true false false W args (.bool true) W' := by
  have hlt := fun p hp => hW.lt (p := p) hp
  have hW' := hW
  obtain ⟨p, q, hA, hV, rfl, _, _⟩ := hW
  rw [hsv] at hV
  obtain ⟨rfl, rfl⟩ := trodVars_none hV
  refine ⟨ds, [], _, [], p, [], hW', ?_, ?_, ?_, hb.frame _, fun h => by cases h⟩
  · rw [hfn, hres]
    exact trodAll_mk1 (shut_bool htb true)
  · rw [hfn]
    exact args_below hl hb _ _ _ _ hr hA (fun x hx => hlt x (by simpa using hx))
  · rw [hfn, hsv]
    rfl
end

end Go.Proofs.YtemikhnkjligdaaGreatDoor

/- From the form's reading of an argument to a calendar. -/
namespace Go.Proofs.YtemikhnkjligdaaGreatDoor
open Go.ChangeShapes Go.WideShapes Go.ChangeAt Go.RowKit Go.Joins

theorem laidOut : laidOutB Tryz.prog = true := by kernel_rfl
theorem cellsCal : Tryz.prog.cellsOf 77 = 4 := by kernel_rfl
theorem cellsZone : Tryz.prog.cellsOf 73 = 2 := by kernel_rfl
theorem cellsChange : Tryz.prog.cellsOf 136 = 2 := by kernel_rfl
theorem cellsShift : Tryz.prog.cellsOf 138 = 3 := by kernel_rfl
theorem cellsSpc : Tryz.prog.cellsOf 111 = 2 := by kernel_rfl
theorem cellsInt : Tryz.prog.cellsOf 3 = 1 := by kernel_rfl
theorem cellsChanges : Tryz.prog.cellsOf 71 = 1 := by kernel_rfl
theorem cellsShifts : Tryz.prog.cellsOf 74 = 1 := by kernel_rfl
theorem cellsSpcs : Tryz.prog.cellsOf 75 = 1 := by kernel_rfl
section
variable {H : Type} {enc : TypeId × Value → H} {w : World} {spare : Nat → Bool} {held : Bool}
theorem len2 {α : Type} {l : List α} (h : l.length = 2) : ∃ a b, l = [a, b] := by
  match l, h with
  | [a, b], _ => exact ⟨a, b, rfl⟩
theorem len3 {α : Type} {l : List α} (h : l.length = 3) : ∃ a b c, l = [a, b, c] := by
  match l, h with
  | [a, b, c], _ => exact ⟨a, b, c, rfl⟩
theorem len4 {α : Type} {l : Array α} (h : l.size = 4) : ∃ a b c d, l = #[a, b, c, d] := by
  obtain ⟨l⟩ := l
  simp only [List.size_toArray] at h
  match l, h with
  | [a, b, c, d], _ => exact ⟨a, b, c, d, rfl⟩
theorem change_elem : ∀ n cs (x : DataW H × List MemPlace), cs.length = 2 → DataW.trod enc Tryz.prog w 0 spare held n 136 cs = some x → ∃ y, pairR w cs y ∧ True := by
  intro n cs x hl h
  obtain ⟨y0, y1, m, hx, _, h0, h1⟩ := trod_struct2 Tryz.underlying136 h
  obtain ⟨c0, c1, rfl⟩ := len2 hl
  simp only [List.drop_zero, List.drop_succ_cons, cellsInt, List.take_succ_cons, List.take_zero] at h0 h1
  obtain ⟨k0, e0, _, _⟩ := DataW.trod_int Tryz.underlying3 h0
  obtain ⟨k1, e1, _, _⟩ := DataW.trod_int Tryz.underlying3 h1
  cases e0; cases e1
  exact ⟨(k0, k1), rfl, trivial⟩
theorem shift_elem : ∀ n cs (x : DataW H × List MemPlace), cs.length = 3 → DataW.trod enc Tryz.prog w 0 spare held n 138 cs = some x → ∃ y, shfR w cs y ∧ True := by
  intro n cs x hl h
  obtain ⟨y0, y1, y2, m, hx, _, h0, h1, h2⟩ := Go.Deep.trod_struct3 Tryz.underlying138 h
  obtain ⟨c0, c1, c2, rfl⟩ := len3 hl
  simp only [List.drop_zero, List.drop_succ_cons, cellsInt, List.take_succ_cons, List.take_zero] at h0 h1 h2
  obtain ⟨k0, e0, _, _⟩ := DataW.trod_int Tryz.underlying3 h0
  obtain ⟨k1, e1, _, _⟩ := DataW.trod_int Tryz.underlying3 h1
  obtain ⟨k2, e2, _, _⟩ := DataW.trod_int Tryz.underlying3 h2
  cases e0; cases e1; cases e2
  exact ⟨(k0, k1, k2), rfl, trivial⟩
set_option maxRecDepth 100000 in
theorem spc_elem : ∀ n cs (x : DataW H × List MemPlace), cs.length = 2 → DataW.trod enc Tryz.prog w 0 spare held n 111 cs = some x → ∃ y, spcR w cs y ∧ True := by
  intro n cs x hl h
  obtain ⟨y0, y1, m, hx, _, h0, h1⟩ := trod_struct2 Tryz.underlying111 h
  obtain ⟨c0, c1, rfl⟩ := len2 hl
  simp only [List.drop_zero, List.drop_succ_cons, cellsInt, cellsShifts, List.take_succ_cons, List.take_zero] at h0 h1
  obtain ⟨k0, e0, _, _⟩ := DataW.trod_int Tryz.underlying3 h0
  obtain ⟨u, l, e, hs, _⟩ := open_list (α := Shf) (R := shfR) (Q := fun _ _ => True) Tryz.underlying74 cellsShift (by decide) shift_elem h1
  cases e0; cases e
  exact ⟨(k0, l), ⟨_, rfl, hs⟩, trivial⟩
set_option maxRecDepth 100000 in
theorem open_cal {r : Reach} {b0 : Nat} {v : Value} {d : DataW H} {p : List MemPlace} (hv : Value.okWide Tryz.prog w r b0 77 v) (h : DataW.Trod enc Tryz.prog w 0 spare held 77 v d p) :
    ∃ c vcs vwk vsp, v = .agg #[.int .i64 (CalD.off c), vcs, vwk, vsp] ∧ CalAt w vcs vwk vsp c := by
  obtain ⟨cs, rfl, hsz⟩ := okWide_struct Tryz.underlying77 hv
  obtain ⟨v0, v1, v2, v3, rfl⟩ := len4 (hsz.trans cellsCal)
  obtain ⟨fuel, hf⟩ := h
  obtain ⟨y0, y1, y2, n, hx, _, h0, h1, h2⟩ := Go.Deep.trod_struct3 Tryz.underlying77 hf
  simp only [Value.cells, List.drop_zero, List.drop_succ_cons, cellsZone, cellsShifts, cellsSpcs, List.take_succ_cons, List.take_zero] at h0 h1 h2
  obtain ⟨z0, z1, m, hz, _, g0, g1⟩ := trod_struct2 Tryz.underlying73 h0
  simp only [List.drop_zero, List.drop_succ_cons, cellsInt, cellsChanges, List.take_succ_cons, List.take_zero] at g0 g1
  obtain ⟨k0, e0, _, _⟩ := DataW.trod_int Tryz.underlying3 g0
  obtain ⟨u1, l1, e1, hs1, _⟩ := open_list (α := Int × Int) (R := pairR) (Q := fun _ _ => True) Tryz.underlying71 cellsChange (by decide) change_elem g1
  obtain ⟨u2, l2, e2, hs2, _⟩ := open_list (α := Shf) (R := shfR) (Q := fun _ _ => True) Tryz.underlying74 cellsShift (by decide) shift_elem h1
  obtain ⟨u3, l3, e3, hs3, _⟩ := open_list (α := Int × List Shf) (R := spcR) (Q := fun _ _ => True) Tryz.underlying75 cellsSpc (by decide) spc_elem h2
  cases e0; cases e1; cases e2; cases e3
  exact ⟨⟨k0, l1, l2, l3⟩, _, _, _, rfl, ⟨hs1, hs2, hs3⟩⟩
end
end Go.Proofs.YtemikhnkjligdaaGreatDoor

/- From the form's reading of RouteFair's arguments to people, calendars, what is held, work, steps. -/
namespace Go.Proofs.YtemikhnkjligdaaGreatDoor
open Go.ChangeShapes Go.WideShapes Go.ChangeAt Go.RowKit Go.Joins

theorem cellsStr : Tryz.prog.cellsOf 9 = 1 := by kernel_rfl
theorem cellsBool : Tryz.prog.cellsOf 4 = 1 := by kernel_rfl
theorem cellsSkill : Tryz.prog.cellsOf 96 = 2 := by kernel_rfl
theorem cellsPerson : Tryz.prog.cellsOf 65 = 4 := by kernel_rfl
theorem cellsSkills : Tryz.prog.cellsOf 36 = 1 := by kernel_rfl
theorem cellsHeld : Tryz.prog.cellsOf 33 = 4 := by kernel_rfl
theorem cellsWork : Tryz.prog.cellsOf 38 = 6 := by kernel_rfl
theorem cellsStep : Tryz.prog.cellsOf 85 = 3 := by kernel_rfl
instance : Inhabited PerD := ⟨⟨0, 0, 0, []⟩⟩
instance : Inhabited WkD := ⟨⟨0, 0, 0, 0, 0, []⟩⟩
instance : Inhabited StD := ⟨⟨0, 0, false⟩⟩
instance : Inhabited CalD := ⟨⟨0, [], [], []⟩⟩
instance : Inhabited HdD := ⟨⟨0, 0, 0, 0⟩⟩
section
variable {H : Type} {enc : TypeId × Value → H} {w : World} {spare : Nat → Bool} {held : Bool}
theorem len4' {α : Type} {l : List α} (h : l.length = 4) : ∃ a b c d, l = [a, b, c, d] := by
  match l, h with
  | [a, b, c, d], _ => exact ⟨a, b, c, d, rfl⟩
theorem lenL6 {α : Type} {l : List α} (h : l.length = 6) : ∃ a b c d e f, l = [a, b, c, d, e, f] := by
  match l, h with
  | [a, b, c, d, e, f], _ => exact ⟨a, b, c, d, e, f, rfl⟩
theorem trod_struct6 {P : Program} {base : Nat} {t : TypeId} {f0 f1 f2 f3 f4 f5 : Field} {fuel : Nat} {cs : List Value} {x : DataW H × List MemPlace} (ht : P.underlying t = some (.struct #[f0, f1, f2, f3, f4, f5])) (h : DataW.trod enc P w base spare held fuel t cs = some x) :
    ∃ y0 y1 y2 y3 y4 y5 n, DataW.trod enc P w base spare held n f0.type ((cs.drop f0.offset).take (P.cellsOf f0.type)) = some y0 ∧ DataW.trod enc P w base spare held n f1.type ((cs.drop f1.offset).take (P.cellsOf f1.type)) = some y1 ∧
      DataW.trod enc P w base spare held n f2.type ((cs.drop f2.offset).take (P.cellsOf f2.type)) = some y2 ∧ DataW.trod enc P w base spare held n f3.type ((cs.drop f3.offset).take (P.cellsOf f3.type)) = some y3 ∧
      DataW.trod enc P w base spare held n f4.type ((cs.drop f4.offset).take (P.cellsOf f4.type)) = some y4 ∧ DataW.trod enc P w base spare held n f5.type ((cs.drop f5.offset).take (P.cellsOf f5.type)) = some y5 := by
  obtain ⟨xs, n, _, rfl, hl, hlen, hf⟩ := DataW.trod_struct ht h
  match xs, hlen with
  | [y0, y1, y2, y3, y4, y5], _ => exact ⟨y0, y1, y2, y3, y4, y5, n, by simpa using hf 0 f0 rfl, by simpa using hf 1 f1 rfl, by simpa using hf 2 f2 rfl, by simpa using hf 3 f3 rfl, by simpa using hf 4 f4 rfl, by simpa using hf 5 f5 rfl⟩
theorem skill_elem : ∀ n cs (x : DataW H × List MemPlace), cs.length = 2 → DataW.trod enc Tryz.prog w 0 spare held n 96 cs = some x → ∃ y, sklR w cs y ∧ True := by
  intro n cs x hl h
  obtain ⟨y0, y1, m, hx, _, h0, h1⟩ := trod_struct2 Tryz.underlying96 h
  obtain ⟨c0, c1, rfl⟩ := len2 hl
  simp only [List.drop_zero, List.drop_succ_cons, cellsStr, cellsInt, List.take_succ_cons, List.take_zero] at h0 h1
  obtain ⟨s, e0, _, hs⟩ := DataW.trod_string Tryz.underlying9 h0
  obtain ⟨k1, e1, _, _⟩ := DataW.trod_int Tryz.underlying3 h1
  cases e0; cases e1
  exact ⟨(s, k1), ⟨rfl, hs⟩, trivial⟩
set_option maxRecDepth 100000 in
theorem person_elem : ∀ n cs (x : DataW H × List MemPlace), cs.length = 4 → DataW.trod enc Tryz.prog w 0 spare held n 65 cs = some x → ∃ y, perR w cs y ∧ True := by
  intro n cs x hl h
  obtain ⟨y0, y1, y2, y3, m, hx, _, h0, h1, h2, h3⟩ := trod_struct4 Tryz.underlying65 h
  obtain ⟨c0, c1, c2, c3, rfl⟩ := len4' hl
  simp only [List.drop_zero, List.drop_succ_cons, cellsInt, cellsSkills, List.take_succ_cons, List.take_zero] at h0 h1 h2 h3
  obtain ⟨k0, e0, _, _⟩ := DataW.trod_int Tryz.underlying3 h0
  obtain ⟨k1, e1, _, _⟩ := DataW.trod_int Tryz.underlying3 h1
  obtain ⟨k2, e2, _, _⟩ := DataW.trod_int Tryz.underlying3 h2
  obtain ⟨u, l, e, hs, _⟩ := open_list (α := Skl) (R := sklR) (Q := fun _ _ => True) Tryz.underlying36 cellsSkill (by decide) skill_elem h3
  cases e0; cases e1; cases e2; cases e
  exact ⟨⟨k0, k1, k2, l⟩, ⟨_, rfl, hs⟩, trivial⟩
set_option maxRecDepth 100000 in
theorem open_people_len {r : Reach} {b0 : Nat} {v : Value} {d : DataW H} {p : List MemPlace} (hv : Value.okWide Tryz.prog w r b0 22 v) (h : DataW.Trod enc Tryz.prog w 0 spare held 22 v d p) :
    ∃ l, Pers w v l ∧ (l = [] ∨ ∃ es sp, d = .slice es sp ∧ es.length = l.length) := by
  obtain ⟨fuel, hf⟩ := h
  obtain ⟨a, n, c, rfl⟩ := okWide_slice Tryz.underlying22 hv
  obtain ⟨u, l, e, hs, hd⟩ := open_list (α := PerD) (R := perR) (Q := fun _ _ => True) Tryz.underlying22 cellsPerson (by decide) person_elem hf
  cases e
  refine ⟨l, hs, ?_⟩
  rcases hd with ⟨_, h0⟩ | ⟨es, sp, h1, h2, _⟩
  · exact .inl h0
  · exact .inr ⟨es, sp, h1, h2⟩
set_option maxRecDepth 100000 in
theorem cals_elem : ∀ n cs (x : DataW H × List MemPlace), cs.length = 4 → DataW.trod enc Tryz.prog w 0 spare held n 77 cs = some x → ∃ y, calsR w cs y ∧ True := by
  intro n cs x hl h
  obtain ⟨v0, v1, v2, v3, rfl⟩ := len4' hl
  obtain ⟨y0, y1, y2, n, hx, _, h0, h1, h2⟩ := Go.Deep.trod_struct3 Tryz.underlying77 h
  simp only [List.drop_zero, List.drop_succ_cons, cellsZone, cellsShifts, cellsSpcs, List.take_succ_cons, List.take_zero] at h0 h1 h2
  obtain ⟨z0, z1, m, hz, _, g0, g1⟩ := trod_struct2 Tryz.underlying73 h0
  simp only [List.drop_zero, List.drop_succ_cons, cellsInt, cellsChanges, List.take_succ_cons, List.take_zero] at g0 g1
  obtain ⟨k0, e0, _, _⟩ := DataW.trod_int Tryz.underlying3 g0
  obtain ⟨u1, l1, e1, hs1, _⟩ := open_list (α := Int × Int) (R := pairR) (Q := fun _ _ => True) Tryz.underlying71 cellsChange (by decide) change_elem g1
  obtain ⟨u2, l2, e2, hs2, _⟩ := open_list (α := Shf) (R := shfR) (Q := fun _ _ => True) Tryz.underlying74 cellsShift (by decide) shift_elem h1
  obtain ⟨u3, l3, e3, hs3, _⟩ := open_list (α := Int × List Shf) (R := spcR) (Q := fun _ _ => True) Tryz.underlying75 cellsSpc (by decide) spc_elem h2
  cases e0; cases e1; cases e2; cases e3
  exact ⟨⟨k0, l1, l2, l3⟩, ⟨_, _, _, rfl, ⟨hs1, hs2, hs3⟩⟩, trivial⟩
set_option maxRecDepth 100000 in
theorem open_clds {r : Reach} {b0 : Nat} {v : Value} {d : DataW H} {p : List MemPlace} (hv : Value.okWide Tryz.prog w r b0 23 v) (h : DataW.Trod enc Tryz.prog w 0 spare held 23 v d p) : ∃ l, Clds w v l := by
  obtain ⟨fuel, hf⟩ := h
  obtain ⟨a, n, c, rfl⟩ := okWide_slice Tryz.underlying23 hv
  obtain ⟨u, l, e, hs, _⟩ := open_list (α := CalD) (R := calsR) (Q := fun _ _ => True) Tryz.underlying23 cellsCal (by decide) cals_elem hf
  cases e
  exact ⟨l, hs⟩
theorem held_elem : ∀ n cs (x : DataW H × List MemPlace), cs.length = 4 → DataW.trod enc Tryz.prog w 0 spare held n 33 cs = some x → ∃ y, hdR w cs y ∧ True := by
  intro n cs x hl h
  obtain ⟨y0, y1, y2, y3, m, hx, _, h0, h1, h2, h3⟩ := trod_struct4 Tryz.underlying33 h
  obtain ⟨c0, c1, c2, c3, rfl⟩ := len4' hl
  simp only [List.drop_zero, List.drop_succ_cons, cellsInt, List.take_succ_cons, List.take_zero] at h0 h1 h2 h3
  obtain ⟨k0, e0, _, _⟩ := DataW.trod_int Tryz.underlying3 h0
  obtain ⟨k1, e1, _, _⟩ := DataW.trod_int Tryz.underlying3 h1
  obtain ⟨k2, e2, _, _⟩ := DataW.trod_int Tryz.underlying3 h2
  obtain ⟨k3, e3, _, _⟩ := DataW.trod_int Tryz.underlying3 h3
  cases e0; cases e1; cases e2; cases e3
  exact ⟨⟨k0, k1, k2, k3⟩, rfl, trivial⟩
set_option maxRecDepth 100000 in
theorem open_hds {r : Reach} {b0 : Nat} {v : Value} {d : DataW H} {p : List MemPlace} (hv : Value.okWide Tryz.prog w r b0 24 v) (h : DataW.Trod enc Tryz.prog w 0 spare held 24 v d p) : ∃ l, Hds w v l := by
  obtain ⟨fuel, hf⟩ := h
  obtain ⟨a, n, c, rfl⟩ := okWide_slice Tryz.underlying24 hv
  obtain ⟨u, l, e, hs, _⟩ := open_list (α := HdD) (R := hdR) (Q := fun _ _ => True) Tryz.underlying24 cellsHeld (by decide) held_elem hf
  cases e
  exact ⟨l, hs⟩
set_option maxRecDepth 100000 in
theorem work_elem : ∀ n cs (x : DataW H × List MemPlace), cs.length = 6 → DataW.trod enc Tryz.prog w 0 spare held n 38 cs = some x → ∃ y, wkR w cs y ∧ True := by
  intro n cs x hl h
  obtain ⟨y0, y1, y2, y3, y4, y5, m, h0, h1, h2, h3, h4, h5⟩ := trod_struct6 Tryz.underlying38 h
  obtain ⟨c0, c1, c2, c3, c4, c5, rfl⟩ := lenL6 hl
  simp only [List.drop_zero, List.drop_succ_cons, cellsInt, cellsSkills, List.take_succ_cons, List.take_zero] at h0 h1 h2 h3 h4 h5
  obtain ⟨k0, e0, _, _⟩ := DataW.trod_int Tryz.underlying3 h0
  obtain ⟨k1, e1, _, _⟩ := DataW.trod_int Tryz.underlying3 h1
  obtain ⟨k2, e2, _, _⟩ := DataW.trod_int Tryz.underlying3 h2
  obtain ⟨k3, e3, _, _⟩ := DataW.trod_int Tryz.underlying3 h3
  obtain ⟨k4, e4, _, _⟩ := DataW.trod_int Tryz.underlying3 h4
  obtain ⟨u, l, e, hs, _⟩ := open_list (α := Skl) (R := sklR) (Q := fun _ _ => True) Tryz.underlying36 cellsSkill (by decide) skill_elem h5
  cases e0; cases e1; cases e2; cases e3; cases e4; cases e
  exact ⟨⟨k0, k1, k2, k3, k4, l⟩, ⟨_, rfl, hs⟩, trivial⟩
set_option maxRecDepth 100000 in
theorem open_wks {r : Reach} {b0 : Nat} {v : Value} {d : DataW H} {p : List MemPlace} (hv : Value.okWide Tryz.prog w r b0 25 v) (h : DataW.Trod enc Tryz.prog w 0 spare held 25 v d p) : ∃ l, Wks w v l := by
  obtain ⟨fuel, hf⟩ := h
  obtain ⟨a, n, c, rfl⟩ := okWide_slice Tryz.underlying25 hv
  obtain ⟨u, l, e, hs, _⟩ := open_list (α := WkD) (R := wkR) (Q := fun _ _ => True) Tryz.underlying25 cellsWork (by decide) work_elem hf
  cases e
  exact ⟨l, hs⟩
theorem step_elem : ∀ n cs (x : DataW H × List MemPlace), cs.length = 3 → DataW.trod enc Tryz.prog w 0 spare held n 85 cs = some x → ∃ y, stR w cs y ∧ True := by
  intro n cs x hl h
  obtain ⟨y0, y1, y2, m, hx, _, h0, h1, h2⟩ := Go.Deep.trod_struct3 Tryz.underlying85 h
  obtain ⟨c0, c1, c2, rfl⟩ := len3 hl
  simp only [List.drop_zero, List.drop_succ_cons, cellsInt, cellsBool, List.take_succ_cons, List.take_zero] at h0 h1 h2
  obtain ⟨k0, e0, _, _⟩ := DataW.trod_int Tryz.underlying3 h0
  obtain ⟨k1, e1, _, _⟩ := DataW.trod_int Tryz.underlying3 h1
  obtain ⟨b, e2, _⟩ := DataW.trod_bool Tryz.underlying4 h2
  cases e0; cases e1; cases e2
  exact ⟨⟨k0, k1, b⟩, rfl, trivial⟩
set_option maxRecDepth 100000 in
theorem open_sts {r : Reach} {b0 : Nat} {v : Value} {d : DataW H} {p : List MemPlace} (hv : Value.okWide Tryz.prog w r b0 26 v) (h : DataW.Trod enc Tryz.prog w 0 spare held 26 v d p) : ∃ l, Sts w v l := by
  obtain ⟨fuel, hf⟩ := h
  obtain ⟨a, n, c, rfl⟩ := okWide_slice Tryz.underlying26 hv
  obtain ⟨u, l, e, hs, _⟩ := open_list (α := StD) (R := stR) (Q := fun _ _ => True) Tryz.underlying26 cellsStep (by decide) step_elem hf
  cases e
  exact ⟨l, hs⟩
end
end Go.Proofs.YtemikhnkjligdaaGreatDoor
