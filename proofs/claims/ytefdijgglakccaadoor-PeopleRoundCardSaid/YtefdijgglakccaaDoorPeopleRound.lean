/- For every input: the people that PeopleText writes are the people that ReadPeople reads: the law portkeep2.PeopleRound returns true, and its arguments read as before. Package-level tables of the library start as the program's text lays them (the card ties them). -/
import Derived.Test.YtefdijgglakccaaDoorCards
import Derived.Test.YtefdijgglakccaaDoorTie
import Derived.Test.YtefdijgglakccaaDoorPpWalk
import Derived.Test.YtefdijgglakccaaDoorOpen
import Derived.Lib.SmallJoins
import Derived.ProofKit
import Derived.OpenShut
import Derived.LaidMore
import Derived.Lay
import Derived.Deep.DeepHandedRow
import Derived.Lib.LaidTab
import Derived.Stop.LaidErr
import Derived.MakeChecks
import Derived.Shelf.Vars
namespace Go.Proofs.YtefdijgglakccaaDoor.peopleRound
open Go.ChangeShapes Go.WideShapes Go.ChangeAt Go.RowKit Go.Joins

theorem own : ownKnob Tryd.prog.godebug = none := by kernel_rfl
theorem laidOut : laidOutB Tryd.prog = true := by kernel_rfl
theorem cellsInt : Tryd.prog.cellsOf 3 = 1 := by kernel_rfl
theorem cellsStr : Tryd.prog.cellsOf 9 = 1 := by kernel_rfl
theorem cellsSkill : Tryd.prog.cellsOf 41 = 2 := by kernel_rfl
theorem cellsPerson : Tryd.prog.cellsOf 37 = 4 := by kernel_rfl
theorem cellsSkills : Tryd.prog.cellsOf 35 = 1 := by kernel_rfl
instance : Inhabited PerD := ⟨⟨0, 0, 0, []⟩⟩
section
variable {H : Type} {enc : TypeId × Value → H} {w : World} {spare : Nat → Bool} {held : Bool}
theorem len2 {α : Type} {l : List α} (h : l.length = 2) : ∃ a b, l = [a, b] := by
  match l, h with
  | [a, b], _ => exact ⟨a, b, rfl⟩
theorem len4 {α : Type} {l : List α} (h : l.length = 4) : ∃ a b c d, l = [a, b, c, d] := by
  match l, h with
  | [a, b, c, d], _ => exact ⟨a, b, c, d, rfl⟩
theorem skill_elem : ∀ n cs (x : DataW H × List MemPlace), cs.length = 2 → DataW.trod enc Tryd.prog w 0 spare held n 41 cs = some x → ∃ y, sklR w cs y ∧ True := by
  intro n cs x hl h
  obtain ⟨y0, y1, m, hx, _, h0, h1⟩ := trod_struct2 Tryd.underlying41 h
  obtain ⟨c0, c1, rfl⟩ := len2 hl
  simp only [List.drop_zero, List.drop_succ_cons, cellsStr, cellsInt, List.take_succ_cons, List.take_zero] at h0 h1
  obtain ⟨s, e0, _, hs⟩ := DataW.trod_string Tryd.underlying9 h0
  obtain ⟨k1, e1, _, _⟩ := DataW.trod_int Tryd.underlying3 h1
  cases e0; cases e1
  exact ⟨(s, k1), ⟨rfl, hs⟩, trivial⟩
set_option maxRecDepth 100000 in
theorem person_elem : ∀ n cs (x : DataW H × List MemPlace), cs.length = 4 → DataW.trod enc Tryd.prog w 0 spare held n 37 cs = some x → ∃ y, perR w cs y ∧ True := by
  intro n cs x hl h
  obtain ⟨y0, y1, y2, y3, m, hx, _, h0, h1, h2, h3⟩ := trod_struct4 Tryd.underlying37 h
  obtain ⟨c0, c1, c2, c3, rfl⟩ := len4 hl
  simp only [List.drop_zero, List.drop_succ_cons, cellsInt, cellsSkills, List.take_succ_cons, List.take_zero] at h0 h1 h2 h3
  obtain ⟨k0, e0, _, _⟩ := DataW.trod_int Tryd.underlying3 h0
  obtain ⟨k1, e1, _, _⟩ := DataW.trod_int Tryd.underlying3 h1
  obtain ⟨k2, e2, _, _⟩ := DataW.trod_int Tryd.underlying3 h2
  obtain ⟨u, l, e, hs, _⟩ := open_list (α := Skl) (R := sklR) (Q := fun _ _ => True) Tryd.underlying35 cellsSkill (by decide) skill_elem h3
  cases e0; cases e1; cases e2; cases e
  exact ⟨⟨k0, k1, k2, l⟩, ⟨_, rfl, hs⟩, trivial⟩
set_option maxRecDepth 100000 in
theorem open_people {r : Reach} {b0 : Nat} {v : Value} {d : DataW H} {p : List MemPlace} (hv : Value.okWide Tryd.prog w r b0 22 v) (h : DataW.Trod enc Tryd.prog w 0 spare held 22 v d p) : ∃ l, Pers w v l := by
  obtain ⟨fuel, hf⟩ := h
  obtain ⟨a, n, c, rfl⟩ := okWide_slice Tryd.underlying22 hv
  obtain ⟨u, l, e, hs, _⟩ := open_list (α := PerD) (R := perR) (Q := fun _ _ => True) Tryd.underlying22 cellsPerson (by decide) person_elem hf
  cases e
  exact ⟨l, hs⟩
end
theorem readable : ∀ t ∈ Tryd.f3.params.toList, Tryd.prog.readableRec t = true ∧ t < Tryd.prog.types.size := by
  intro t ht
  rw [Tryd.params3] at ht
  have h : t = 22 := by
    simp at ht; omega
  subst h
  exact ⟨by kernel_rfl, of_decide_eq_true (by kernel_rfl)⟩

set_option maxRecDepth 100000 in
theorem contract (H : Type) (enc : TypeId × Value → H) (W : World) (base : Nat) (args : Array Value) (ds gs : List (DataW H)) (before : List MemPlace)
    (hval : ∀ (j : Nat) t v, Tryd.f3.params[j]? = some t → args[j]? = some v → Value.okWide Tryd.prog W .any base t v)
    (hW : DataW.Whole enc Tryd.prog Tryd.f3.params.toList Rows.peopleRoundSpec.vars false W args.toList ds gs before)
    (hL : laidMetH Tryd.prog Rows.peopleRoundRow.laid W) (hsh : W.ShapedOpen Tryd.prog) :
    Calls Tryd.prog 3 args W fun e W' => ∃ v, e = .returned v ∧ Rows.peopleRoundSpec.post enc Tryd.prog Tryd.f3 false true false false W args v W' := by
  have hW' := hW
  obtain ⟨p, q, hA0, hV, rfl, hfz, hnd⟩ := hW
  have hA : DataW.TrodAll enc Tryd.prog W 0 (fun _ => true) true Tryd.f3.params.toList args.toList ds p := hA0
  rw [Tryd.params3] at hA hval
  obtain ⟨v0, vs0, d0, ds0, p0, q0, hargs, rfl, rfl, h0, r0⟩ := trodAll_cons hA
  obtain ⟨rfl, rfl, rfl⟩ := trodAll_nil r0
  obtain rfl : args = #[v0] := by cases args; simp_all
  obtain ⟨rfl, rfl⟩ := trodVars_none hV
  clear hA0 hA
  obtain ⟨l, hl⟩ := open_people (hval 0 22 v0 rfl rfl) h0
  rw [MakeChecks.laidMetH_plain _ _ _ (by kernel_rfl)] at hL
  have hE : Env W := ⟨cell_of_shapedOpen_int (zero := #[.int .i64 0]) (t := 3) hsh (of_decide_eq_true (by kernel_rfl)) (by kernel_rfl) rfl (by kernel_rfl) (by kernel_rfl) Tryd.underlying3,
    Lib.tabIs_of_head (show Tryd.prog.globalNamed "internal/strconv.uint64pow10" = some 1 by kernel_rfl) (show (Tryd.prog.globals[1]?).map (·.type) = some 81 by kernel_rfl) Tryd.underlying81 Tryd.underlying69 (by kernel_rfl) (by kernel_rfl) hL.tail.tail⟩
  refine (people_walk l v0 W hl hE).mono fun e W' ⟨he, hg⟩ => ?_
  subst he
  exact ⟨_, rfl, law_post laidOut readable rfl Tryd.underlying4 rfl rfl hW' hg⟩

noncomputable def args0 : Array Value := #[.slice none 0 0]
theorem laid_met (os : Os) : laidMet Tryd.prog Rows.peopleRoundRow.laid ((World.laidAll Tryd.prog os Rows.peopleRoundRow.laid).forCall (fun _ _ => 0) ⟨#[], args0, []⟩).memory :=
  laidMet_laidAll _ (by kernel_rfl) (by kernel_rfl)
theorem reads (os : Os) {H : Type} (enc : TypeId × Value → H) : ∃ places, DataW.whole enc Tryd.prog ((World.laidAll Tryd.prog os Rows.peopleRoundRow.laid).forCall (fun _ _ => 0) ⟨#[], args0, []⟩).memory Tryd.f3.params.toList Rows.peopleRoundSpec.vars false args0.toList 8 =
    some ([.nil], [], places) :=
  ⟨[], by kernel_rfl⟩

set_option maxRecDepth 100000 in
theorem lifted (os : Os) (started : os.Started) (H : Type) (enc : TypeId × Value → H) (F : Stop.Interp) :
    ReturnsInHanded {} Tryd.checked os 3 .any ((OpenSpec.ofChange Rows.peopleRoundSpec).preRow enc Tryd.prog Tryd.f3 Rows.peopleRoundRow.domain false Rows.peopleRoundRow.laid) (((OpenSpec.ofChange Rows.peopleRoundSpec).at F).post enc Tryd.prog Tryd.f3 false true false false) := by
  obtain ⟨places, hx⟩ := reads os enc
  refine returnsInHanded_of_row (C := Tryd.checked) (s := OpenSpec.ofChange Rows.peopleRoundSpec) own started (by kernel_rfl) Tryd.func3
    (witness_row_at (enc := enc) (C := Tryd.checked) false (World.laidAll Tryd.prog os Rows.peopleRoundRow.laid) args0 (World.laidAll_os _ _ _) (by kernel_rfl) (by kernel_rfl) (by kernel_rfl)
      (OpenSpec.preRow_of_cond 8 hx (by kernel_rfl) (fun k hk => by cases hk) (by kernel_rfl) (laid_met os))) ?_
  intro W base args ds gs before hval hW _ _ _ hL hsh _
  exact contract H enc W base args ds gs before hval hW hL hsh

theorem said : Rows.PeopleRoundSaid :=
  OpenClaim.holds_of_cond 3 Tryd.f3 rfl rfl rfl rfl rfl rfl rfl ⟨rfl, rfl, rfl, rfl, rfl⟩ rfl rfl rfl rfl rfl (by kernel_rfl) Tryd.func3 (by kernel_rfl)
    (of_decide_eq_true (by kernel_rfl)) (by unfold Func.isWrapper; first | (rw [if_pos (by decide +kernel)]; kernel_rfl) | (rw [if_neg (by decide +kernel)]; exact ⟨rfl, rfl⟩))
    (fun os started H enc _ F => by rw [OpenClaim.pre_eq_preRow]; exact lifted os started H enc F)

theorem plain (f : FuncId) (fn : Func) (hf : Tryd.pinned.checked.prog.funcNamed "porterslodge/portkeep2.PeopleRound" = some f) (hfn : Tryd.pinned.checked.prog.funcs[f]? = some fn) :
    true = Tryd.pinned.checked.prog.looks [] ∧ ∀ (j : Nat) t, fn.params[j]? = some t → Tryd.pinned.checked.prog.wantsStandIn t = false := by
  obtain rfl : f = 3 := Option.some.inj ((show Tryd.prog.funcNamed "porterslodge/portkeep2.PeopleRound" = some 3 by kernel_rfl).symm.trans hf) |>.symm
  obtain rfl : fn = Tryd.f3 := (Option.some.inj (Tryd.func3.symm.trans hfn)).symm
  refine ⟨by kernel_rfl, fun j t ht => ?_⟩
  rw [Tryd.params3] at ht
  have hm : t ∈ [22] := by simpa using Array.mem_of_getElem? ht
  have hall : ([22].all fun u => !Tryd.prog.wantsStandIn u) = true := by kernel_rfl
  exact (show Tryd.prog.wantsStandIn t = false by simpa using List.all_eq_true.1 hall t hm)

/-- THE STATEMENT: the card -/
theorem proved : Rows.PeopleRoundCardSaid :=
  Claim7.holds_tied_plain_at .later [] _ _ _ _ said (fun _ h => by cases h) (by kernel_rfl) (fun _ h => by cases h) peopleRound_row_tie rfl ⟨rfl, rfl⟩ (by kernel_rfl) rfl plain (by kernel_rfl)
#print axioms proved
end Go.Proofs.YtefdijgglakccaaDoor.peopleRound
