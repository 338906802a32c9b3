/- For every input: of the shifts of a plan that is needed each is somebody's or open, the rules hold, and without any one form's shift the demand is not covered: the law porttop.TopRosters returns true, and its arguments read as before. Package-level tables of the library start as the program's text lays them (the card ties them). -/
import Derived.Test.YtfoehmieklldkaaDoorCards
import Derived.Test.YtfoehmieklldkaaDoorTie
import Derived.Test.YtfoehmieklldkaaDoorTRWalk
import Derived.Test.YtfoehmieklldkaaDoorOpen
import Derived.ProofKit
import Derived.OpenShut
import Derived.LaidMore
import Derived.Deep.DeepHandedRow
import Derived.Lib.LaidTab
namespace Go.Proofs.YtfoehmieklldkaaDoor.topRosters
open Go.ChangeShapes Go.WideShapes Go.ChangeAt Go.RowKit Go.Joins

theorem own : ownKnob Tryd.prog.godebug = none := by kernel_rfl
theorem laidOut : laidOutB Tryd.prog = true := by kernel_rfl
theorem cellsForm : Tryd.prog.cellsOf 76 = 2 := by kernel_rfl
theorem cellsRules : Tryd.prog.cellsOf 50 = 3 := by kernel_rfl
theorem cellsInt : Tryd.prog.cellsOf 3 = 1 := by kernel_rfl
theorem readable : ∀ t ∈ Tryd.f6.params.toList, Tryd.prog.readableRec t = true ∧ t < Tryd.prog.types.size := by
  intro t ht
  rw [Tryd.params6] at ht
  have h : t = 33 ∨ t = 34 ∨ t = 50 := by
    simp at ht; omega
  rcases h with rfl | rfl | rfl
  · exact ⟨by kernel_rfl, of_decide_eq_true (by kernel_rfl)⟩
  · exact ⟨by kernel_rfl, of_decide_eq_true (by kernel_rfl)⟩
  · exact ⟨by kernel_rfl, of_decide_eq_true (by kernel_rfl)⟩

section
variable {H : Type} {enc : TypeId × Value → H} {w : World} {spare : Nat → Bool} {held : Bool}
theorem len2 {α : Type} {l : List α} (h : l.length = 2) : ∃ a b, l = [a, b] := by
  cases l with
  | nil => cases h
  | cons a l => cases l with
    | nil => cases h
    | cons b l => cases l with
      | nil => exact ⟨a, b, rfl⟩
      | cons c l => simp at h
theorem form_elem : ∀ n cs (x : DataW H × List MemPlace), cs.length = 2 → DataW.trod enc Tryd.prog w 0 spare held n 76 cs = some x → ∃ y, formR w cs y ∧ True := by
  intro n cs x hl h
  obtain ⟨y0, y1, m, hx, _, h0, h1⟩ := trod_struct2 Tryd.underlying76 h
  obtain ⟨c0, c1, rfl⟩ := len2 hl
  simp only [List.drop_zero, List.drop_succ_cons, cellsInt, List.take_succ_cons, List.take_zero] at h0 h1
  obtain ⟨k0, e0, _, _⟩ := DataW.trod_int Tryd.underlying3 h0
  obtain ⟨k1, e1, _, _⟩ := DataW.trod_int Tryd.underlying3 h1
  cases e0; cases e1
  exact ⟨(k0, k1), rfl, trivial⟩
theorem int_elem : ∀ n cs (x : DataW H × List MemPlace), cs.length = 1 → DataW.trod enc Tryd.prog w 0 spare held n 3 cs = some x → ∃ y, intR w cs y ∧ True := by
  intro n cs x _ h
  obtain ⟨k, e, _, _⟩ := DataW.trod_int Tryd.underlying3 h
  exact ⟨k, e, trivial⟩
set_option maxRecDepth 100000 in
theorem open_ints {r : Reach} {b0 : Nat} {v : Value} {d : DataW H} {p : List MemPlace} (hv : Value.okWide Tryd.prog w r b0 34 v) (h : DataW.Trod enc Tryd.prog w 0 spare held 34 v d p) : ∃ l, SliceAt 1 intR w v l := by
  obtain ⟨fuel, hf⟩ := h
  obtain ⟨u, l, e, hs, _⟩ := open_list (α := Int) (R := intR) (Q := fun _ _ => True) Tryd.underlying34 cellsInt (by decide) int_elem hf
  obtain ⟨aa, ll, cc, rfl⟩ := okWide_slice Tryd.underlying34 hv
  cases e
  exact ⟨l, hs⟩
set_option maxRecDepth 100000 in
theorem open_forms {r : Reach} {b0 : Nat} {v : Value} {d : DataW H} {p : List MemPlace} (hv : Value.okWide Tryd.prog w r b0 33 v) (h : DataW.Trod enc Tryd.prog w 0 spare held 33 v d p) :
    ∃ l, SliceAt 2 formR w v l ∧ (l = [] ∨ ∃ es sp, d = .slice es sp ∧ es.length = l.length) := by
  obtain ⟨fuel, hf⟩ := h
  obtain ⟨u, l, e, hs, hd⟩ := open_list (α := Int × Int) (R := formR) (Q := fun _ _ => True) Tryd.underlying33 cellsForm (by decide) form_elem hf
  obtain ⟨aa, ll, cc, rfl⟩ := okWide_slice Tryd.underlying33 hv
  cases e
  refine ⟨l, hs, ?_⟩
  rcases hd with ⟨_, h0⟩ | ⟨es, sp, h1, h2, _⟩
  · exact .inl h0
  · exact .inr ⟨es, sp, h1, h2⟩
end

set_option maxRecDepth 100000 in
theorem contract (H : Type) (enc : TypeId × Value → H) (W : World) (base : Nat) (args : Array Value) (ds gs : List (DataW H)) (before : List MemPlace)
    (hval : ∀ (j : Nat) t v, Tryd.f6.params[j]? = some t → args[j]? = some v → Value.okWide Tryd.prog W .any base t v)
    (hW : DataW.Whole enc Tryd.prog Tryd.f6.params.toList Rows.topRostersSpec.vars false W args.toList ds gs before) :
    Calls Tryd.prog 6 args W fun e W' => ∃ v, e = .returned v ∧ Rows.topRostersSpec.post enc Tryd.prog Tryd.f6 false true false false W args v W' := by
  have hW' := hW
  obtain ⟨p, q, hA0, hV, rfl, hfz, hnd⟩ := hW
  have hA : DataW.TrodAll enc Tryd.prog W 0 (fun _ => true) true Tryd.f6.params.toList args.toList ds p := hA0
  rw [Tryd.params6] at hA hval
  obtain ⟨v0, vs0, d0, ds0, p0, q0, hargs, rfl, rfl, h0, r0⟩ := trodAll_cons hA
  obtain ⟨v1, vs1, d1, ds1, p1, q1, rfl, rfl, rfl, h1, r1⟩ := trodAll_cons r0
  obtain ⟨v2, vs2, d2, ds2, p2, q2, rfl, rfl, rfl, h2, r2⟩ := trodAll_cons r1
  obtain ⟨rfl, rfl, rfl⟩ := trodAll_nil r2
  obtain rfl : args = #[v0, v1, v2] := by cases args; simp_all
  obtain ⟨rfl, rfl⟩ := trodVars_none hV
  clear hA0 hA
  obtain ⟨l, hl, _⟩ := open_forms (hval 0 33 v0 rfl rfl) h0
  obtain ⟨pl, hP⟩ := open_ints (hval 1 34 v1 rfl rfl) h1
  obtain ⟨u0, u1, u2, y0, y1, y2, n, rfl, rfl, _, g0, g1, g2⟩ := open_agg3 Tryd.underlying50 (by kernel_rfl) cellsRules (hval 2 50 v2 rfl rfl) h2
  obtain ⟨P, e0, _, _⟩ := DataW.trod_int Tryd.underlying3 g0
  obtain ⟨R, e1, _, _⟩ := DataW.trod_int Tryd.underlying3 g1
  obtain ⟨M, e2, _, _⟩ := DataW.trod_int Tryd.underlying3 g2
  cases e0; cases e1; cases e2
  refine (tr_walk v0 v1 l pl P R M W hl hP).mono fun e W' ⟨he, hg⟩ => ?_
  subst he
  exact ⟨_, rfl, law_post laidOut readable rfl Tryd.underlying4 rfl rfl hW' hg⟩

noncomputable def args0 : Array Value := #[.slice none 0 0, .slice none 0 0, .agg #[.int .i64 0, .int .i64 0, .int .i64 0]]
theorem laid_met (os : Os) : laidMet Tryd.prog Rows.topRostersRow.laid ((World.doorLaid Tryd.prog 62 os).forCall (fun _ _ => 0) ⟨#[], args0, []⟩).memory :=
  laidMet_of_run' 8 (by kernel_rfl) (by kernel_rfl)
theorem reads (os : Os) {H : Type} (enc : TypeId × Value → H) : ∃ places, DataW.whole enc Tryd.prog ((World.doorLaid Tryd.prog 62 os).forCall (fun _ _ => 0) ⟨#[], args0, []⟩).memory Tryd.f6.params.toList Rows.topRostersSpec.vars false args0.toList 8 =
    some ([.nil, .nil, .agg [.lit (.int .i64 0), .lit (.int .i64 0), .lit (.int .i64 0)]], [], places) :=
  ⟨[], by kernel_rfl⟩

set_option maxRecDepth 100000 in
theorem lifted (os : Os) (started : os.Started) (H : Type) (enc : TypeId × Value → H) (F : Stop.Interp) :
    ReturnsInHanded {} Tryd.checked os 6 .any ((OpenSpec.ofChange Rows.topRostersSpec).preRow enc Tryd.prog Tryd.f6 Rows.topRostersRow.domain false Rows.topRostersRow.laid) (((OpenSpec.ofChange Rows.topRostersSpec).at F).post enc Tryd.prog Tryd.f6 false true false false) := by
  obtain ⟨places, hx⟩ := reads os enc
  refine returnsInHanded_of_row (C := Tryd.checked) (s := OpenSpec.ofChange Rows.topRostersSpec) own started (by kernel_rfl) Tryd.func6
    (witness_row_at (enc := enc) (C := Tryd.checked) false (World.doorLaid Tryd.prog 62 os) args0 rfl (by kernel_rfl) (by kernel_rfl) (by kernel_rfl)
      (OpenSpec.preRow_of_cond 8 hx (by kernel_rfl) (fun k hk => by cases hk) (by kernel_rfl) (laid_met os))) ?_
  intro W base args ds gs before hval hW _ _ _ _ _ _
  exact contract H enc W base args ds gs before hval hW

theorem said : Rows.TopRostersSaid :=
  OpenClaim.holds_of_cond 6 Tryd.f6 rfl rfl rfl rfl rfl rfl rfl ⟨rfl, rfl, rfl, rfl, rfl⟩ rfl rfl rfl rfl rfl (by kernel_rfl) Tryd.func6 (by kernel_rfl)
    (of_decide_eq_true (by kernel_rfl)) (by unfold Func.isWrapper; first | (rw [if_pos (by decide +kernel)]; kernel_rfl) | (rw [if_neg (by decide +kernel)]; exact ⟨rfl, rfl⟩))
    (fun os started H enc _ F => by rw [OpenClaim.pre_eq_preRow]; exact lifted os started H enc F)

theorem plain (f : FuncId) (fn : Func) (hf : Tryd.pinned.checked.prog.funcNamed "porterslodge/porttop.TopRosters" = some f) (hfn : Tryd.pinned.checked.prog.funcs[f]? = some fn) :
    true = Tryd.pinned.checked.prog.looks [] ∧ ∀ (j : Nat) t, fn.params[j]? = some t → Tryd.pinned.checked.prog.wantsStandIn t = false := by
  obtain rfl : f = 6 := Option.some.inj ((show Tryd.prog.funcNamed "porterslodge/porttop.TopRosters" = some 6 by kernel_rfl).symm.trans hf) |>.symm
  obtain rfl : fn = Tryd.f6 := (Option.some.inj (Tryd.func6.symm.trans hfn)).symm
  refine ⟨by kernel_rfl, fun j t ht => ?_⟩
  rw [Tryd.params6] at ht
  have hm : t ∈ [33, 34, 50] := by simpa using Array.mem_of_getElem? ht
  have hall : ([33, 34, 50].all fun u => !Tryd.prog.wantsStandIn u) = true := by kernel_rfl
  exact (show Tryd.prog.wantsStandIn t = false by simpa using List.all_eq_true.1 hall t hm)

/-- THE STATEMENT: the card -/
theorem proved : Rows.TopRostersCardSaid :=
  Claim7.holds_tied_plain_at .later [] _ _ _ _ said (fun _ h => by cases h) (by kernel_rfl) (fun _ h => by cases h) topRosters_row_tie rfl ⟨rfl, rfl⟩ (by kernel_rfl) rfl plain (by kernel_rfl)
#print axioms proved
end Go.Proofs.YtfoehmieklldkaaDoor.topRosters
