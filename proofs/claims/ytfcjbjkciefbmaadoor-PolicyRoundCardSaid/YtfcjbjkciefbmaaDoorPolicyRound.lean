/- For every input: the policy that PolicyText writes is the policy that ReadPolicy reads: the law portkeep2.PolicyRound returns true, and its arguments read as before. Package-level tables of the library start as the program's text lays them (the card ties them). -/
import Derived.Test.YtfcjbjkciefbmaaDoorCards
import Derived.Test.YtfcjbjkciefbmaaDoorTie
import Derived.Test.YtfcjbjkciefbmaaDoorPoWalk
import Derived.Test.YtfcjbjkciefbmaaDoorOpen
import Derived.Lib.SmallJoins
import Derived.ProofKit
import Derived.OpenShut
import Derived.LaidMore
import Derived.Lay
import Derived.Deep.DeepHandedRow
import Derived.Lib.LaidTab
import Derived.Stop.LaidErr
import Derived.MakeChecks
import Derived.Shelf.Vars
namespace Go.Proofs.YtfcjbjkciefbmaaDoor.policyRound
open Go.ChangeShapes Go.WideShapes Go.ChangeAt Go.RowKit Go.Joins

theorem own : ownKnob Tryd.prog.godebug = none := by kernel_rfl
theorem laidOut : laidOutB Tryd.prog = true := by kernel_rfl
theorem cellsInt : Tryd.prog.cellsOf 3 = 1 := by kernel_rfl
theorem cellsStr : Tryd.prog.cellsOf 9 = 1 := by kernel_rfl
theorem cellsTest : Tryd.prog.cellsOf 51 = 4 := by kernel_rfl
theorem cellsValue : Tryd.prog.cellsOf 49 = 3 := by kernel_rfl
theorem cellsTarget : Tryd.prog.cellsOf 55 = 3 := by kernel_rfl
theorem cellsLevel : Tryd.prog.cellsOf 47 = 3 := by kernel_rfl
theorem cellsPolicy : Tryd.prog.cellsOf 25 = 2 := by kernel_rfl
theorem cellsTests : Tryd.prog.cellsOf 44 = 1 := by kernel_rfl
theorem cellsTargets : Tryd.prog.cellsOf 45 = 1 := by kernel_rfl
theorem cellsInts : Tryd.prog.cellsOf 22 = 1 := by kernel_rfl
theorem cellsLevels : Tryd.prog.cellsOf 23 = 1 := by kernel_rfl
instance : Inhabited TstD := ⟨⟨0, 0, 0, ⟨#[]⟩⟩⟩
instance : Inhabited LevD := ⟨⟨⟨#[]⟩, [], []⟩⟩
section
variable {H : Type} {enc : TypeId × Value → H} {w : World} {spare : Nat → Bool} {held : Bool}
theorem len2 {α : Type} {l : Array α} (h : l.size = 2) : ∃ a b, l = #[a, b] := by
  obtain ⟨l⟩ := l
  simp only [List.size_toArray] at h
  match l, h with
  | [a, b], _ => exact ⟨a, b, rfl⟩
theorem len1 {α : Type} {l : List α} (h : l.length = 1) : ∃ a, l = [a] := by
  match l, h with
  | [a], _ => exact ⟨a, rfl⟩
theorem len3 {α : Type} {l : List α} (h : l.length = 3) : ∃ a b c, l = [a, b, c] := by
  match l, h with
  | [a, b, c], _ => exact ⟨a, b, c, rfl⟩
theorem len4 {α : Type} {l : List α} (h : l.length = 4) : ∃ a b c d, l = [a, b, c, d] := by
  match l, h with
  | [a, b, c, d], _ => exact ⟨a, b, c, d, rfl⟩
theorem int_elem : ∀ n cs (x : DataW H × List MemPlace), cs.length = 1 → DataW.trod enc Tryd.prog w 0 spare held n 3 cs = some x → ∃ y, intR w cs y ∧ True := by
  intro n cs x hl h
  obtain ⟨c0, rfl⟩ := len1 hl
  obtain ⟨k0, e0, _, _⟩ := DataW.trod_int Tryd.underlying3 h
  cases e0
  exact ⟨k0, rfl, trivial⟩
set_option maxRecDepth 100000 in
theorem test_elem : ∀ n cs (x : DataW H × List MemPlace), cs.length = 4 → DataW.trod enc Tryd.prog w 0 spare held n 51 cs = some x → ∃ y, tstR w cs y ∧ True := by
  intro n cs x hl h
  obtain ⟨y0, y1, m, hx, _, h0, h1⟩ := trod_struct2 Tryd.underlying51 h
  obtain ⟨c0, c1, c2, c3, rfl⟩ := len4 hl
  simp only [List.drop_zero, List.drop_succ_cons, cellsInt, cellsValue, List.take_succ_cons, List.take_zero] at h0 h1
  obtain ⟨k0, e0, _, _⟩ := DataW.trod_int Tryd.underlying3 h0
  obtain ⟨z0, z1, z2, m2, hz, _, g0, g1, g2⟩ := Go.Deep.trod_struct3 Tryd.underlying49 h1
  simp only [List.drop_zero, List.drop_succ_cons, cellsInt, cellsStr, List.take_succ_cons, List.take_zero] at g0 g1 g2
  obtain ⟨k1, e1, _, _⟩ := DataW.trod_int Tryd.underlying3 g0
  obtain ⟨k2, e2, _, _⟩ := DataW.trod_int Tryd.underlying3 g1
  obtain ⟨s, e3, _, hs⟩ := DataW.trod_string Tryd.underlying9 g2
  cases e0; cases e1; cases e2; cases e3
  exact ⟨⟨k0, k1, k2, s⟩, ⟨rfl, hs⟩, trivial⟩
theorem target_elem : ∀ n cs (x : DataW H × List MemPlace), cs.length = 3 → DataW.trod enc Tryd.prog w 0 spare held n 55 cs = some x → ∃ y, tgtR w cs y ∧ True := by
  intro n cs x hl h
  obtain ⟨y0, y1, y2, m, hx, _, h0, h1, h2⟩ := Go.Deep.trod_struct3 Tryd.underlying55 h
  obtain ⟨c0, c1, c2, rfl⟩ := len3 hl
  simp only [List.drop_zero, List.drop_succ_cons, cellsInt, List.take_succ_cons, List.take_zero] at h0 h1 h2
  obtain ⟨k0, e0, _, _⟩ := DataW.trod_int Tryd.underlying3 h0
  obtain ⟨k1, e1, _, _⟩ := DataW.trod_int Tryd.underlying3 h1
  obtain ⟨k2, e2, _, _⟩ := DataW.trod_int Tryd.underlying3 h2
  cases e0; cases e1; cases e2
  exact ⟨(k0, k1, k2), rfl, trivial⟩
set_option maxRecDepth 100000 in
theorem level_elem : ∀ n cs (x : DataW H × List MemPlace), cs.length = 3 → DataW.trod enc Tryd.prog w 0 spare held n 47 cs = some x → ∃ y, levR w cs y ∧ True := by
  intro n cs x hl h
  obtain ⟨y0, y1, y2, m, hx, _, h0, h1, h2⟩ := Go.Deep.trod_struct3 Tryd.underlying47 h
  obtain ⟨c0, c1, c2, rfl⟩ := len3 hl
  simp only [List.drop_zero, List.drop_succ_cons, cellsStr, cellsTests, cellsTargets, List.take_succ_cons, List.take_zero] at h0 h1 h2
  obtain ⟨s, e0, _, hs⟩ := DataW.trod_string Tryd.underlying9 h0
  obtain ⟨u1, l1, e1, hs1, _⟩ := open_list (α := TstD) (R := tstR) (Q := fun _ _ => True) Tryd.underlying44 cellsTest (by decide) test_elem h1
  obtain ⟨u2, l2, e2, hs2, _⟩ := open_list (α := TgtD) (R := tgtR) (Q := fun _ _ => True) Tryd.underlying45 cellsTarget (by decide) target_elem h2
  cases e0; cases e1; cases e2
  exact ⟨⟨s, l1, l2⟩, ⟨_, _, rfl, hs, hs1, hs2⟩, trivial⟩
set_option maxRecDepth 100000 in
theorem open_policy {r : Reach} {b0 : Nat} {v : Value} {d : DataW H} {p : List MemPlace} (hv : Value.okWide Tryd.prog w r b0 25 v) (h : DataW.Trod enc Tryd.prog w 0 spare held 25 v d p) : ∃ vp vl q, v = .agg #[vp, vl] ∧ PolAt w vp vl q := by
  obtain ⟨cs, rfl, hsz⟩ := okWide_struct Tryd.underlying25 hv
  obtain ⟨v0, v1, rfl⟩ := len2 (hsz.trans cellsPolicy)
  obtain ⟨fuel, hf⟩ := h
  obtain ⟨y0, y1, n, hx, _, h0, h1⟩ := trod_struct2 Tryd.underlying25 hf
  simp only [Value.cells, List.drop_zero, List.drop_succ_cons, cellsInts, cellsLevels, List.take_succ_cons, List.take_zero] at h0 h1
  obtain ⟨u1, l1, e1, hs1, _⟩ := open_list (α := Int) (R := intR) (Q := fun _ _ => True) Tryd.underlying22 cellsInt (by decide) int_elem h0
  obtain ⟨u2, l2, e2, hs2, _⟩ := open_list (α := LevD) (R := levR) (Q := fun _ _ => True) Tryd.underlying23 cellsLevel (by decide) level_elem h1
  cases e1; cases e2
  exact ⟨_, _, ⟨l1, l2⟩, rfl, ⟨hs1, hs2⟩⟩
end
theorem readable : ∀ t ∈ Tryd.f3.params.toList, Tryd.prog.readableRec t = true ∧ t < Tryd.prog.types.size := by
  intro t ht
  rw [Tryd.params3] at ht
  have h : t = 25 := by
    simp at ht; omega
  subst h
  exact ⟨by kernel_rfl, of_decide_eq_true (by kernel_rfl)⟩

set_option maxRecDepth 100000 in
theorem contract (H : Type) (enc : TypeId × Value → H) (W : World) (base : Nat) (args : Array Value) (ds gs : List (DataW H)) (before : List MemPlace)
    (hval : ∀ (j : Nat) t v, Tryd.f3.params[j]? = some t → args[j]? = some v → Value.okWide Tryd.prog W .any base t v)
    (hW : DataW.Whole enc Tryd.prog Tryd.f3.params.toList Rows.policyRoundSpec.vars false W args.toList ds gs before)
    (hL : laidMetH Tryd.prog Rows.policyRoundRow.laid W) (hsh : W.ShapedOpen Tryd.prog) :
    Calls Tryd.prog 3 args W fun e W' => ∃ v, e = .returned v ∧ Rows.policyRoundSpec.post enc Tryd.prog Tryd.f3 false true false false W args v W' := by
  have hW' := hW
  obtain ⟨p, q, hA0, hV, rfl, hfz, hnd⟩ := hW
  have hA : DataW.TrodAll enc Tryd.prog W 0 (fun _ => true) true Tryd.f3.params.toList args.toList ds p := hA0
  rw [Tryd.params3] at hA hval
  obtain ⟨v0, vs0, d0, ds0, p0, q0, hargs, rfl, rfl, h0, r0⟩ := trodAll_cons hA
  obtain ⟨rfl, rfl, rfl⟩ := trodAll_nil r0
  obtain rfl : args = #[v0] := by cases args; simp_all
  obtain ⟨rfl, rfl⟩ := trodVars_none hV
  clear hA0 hA
  obtain ⟨vp, vl, pol, rfl, hl⟩ := open_policy (hval 0 25 v0 rfl rfl) h0
  rw [MakeChecks.laidMetH_plain _ _ _ (by kernel_rfl)] at hL
  have hE : Env W := ⟨cell_of_shapedOpen_int (zero := #[.int .i64 0]) (t := 3) hsh (of_decide_eq_true (by kernel_rfl)) (by kernel_rfl) rfl (by kernel_rfl) (by kernel_rfl) Tryd.underlying3,
    Lib.tabIs_of_head (show Tryd.prog.globalNamed "internal/strconv.uint64pow10" = some 1 by kernel_rfl) (show (Tryd.prog.globals[1]?).map (·.type) = some 97 by kernel_rfl) Tryd.underlying97 Tryd.underlying86 (by kernel_rfl) (by kernel_rfl) hL.tail.tail⟩
  refine (policy_walk pol vp vl W hl hE).mono fun e W' ⟨he, hg⟩ => ?_
  subst he
  exact ⟨_, rfl, law_post laidOut readable rfl Tryd.underlying4 rfl rfl hW' hg⟩

noncomputable def args0 : Array Value := #[.agg #[.slice none 0 0, .slice none 0 0]]
theorem laid_met (os : Os) : laidMet Tryd.prog Rows.policyRoundRow.laid ((World.laidAll Tryd.prog os Rows.policyRoundRow.laid).forCall (fun _ _ => 0) ⟨#[], args0, []⟩).memory :=
  laidMet_laidAll _ (by kernel_rfl) (by kernel_rfl)
theorem reads (os : Os) {H : Type} (enc : TypeId × Value → H) : ∃ places, DataW.whole enc Tryd.prog ((World.laidAll Tryd.prog os Rows.policyRoundRow.laid).forCall (fun _ _ => 0) ⟨#[], args0, []⟩).memory Tryd.f3.params.toList Rows.policyRoundSpec.vars false args0.toList 8 =
    some ([.agg [.nil, .nil]], [], places) :=
  ⟨[], by kernel_rfl⟩

set_option maxRecDepth 100000 in
theorem lifted (os : Os) (started : os.Started) (H : Type) (enc : TypeId × Value → H) (F : Stop.Interp) :
    ReturnsInHanded {} Tryd.checked os 3 .any ((OpenSpec.ofChange Rows.policyRoundSpec).preRow enc Tryd.prog Tryd.f3 Rows.policyRoundRow.domain false Rows.policyRoundRow.laid) (((OpenSpec.ofChange Rows.policyRoundSpec).at F).post enc Tryd.prog Tryd.f3 false true false false) := by
  obtain ⟨places, hx⟩ := reads os enc
  refine returnsInHanded_of_row (C := Tryd.checked) (s := OpenSpec.ofChange Rows.policyRoundSpec) own started (by kernel_rfl) Tryd.func3
    (witness_row_at (enc := enc) (C := Tryd.checked) false (World.laidAll Tryd.prog os Rows.policyRoundRow.laid) args0 (World.laidAll_os _ _ _) (by kernel_rfl) (by kernel_rfl) (by kernel_rfl)
      (OpenSpec.preRow_of_cond 8 hx (by kernel_rfl) (fun k hk => by cases hk) (by kernel_rfl) (laid_met os))) ?_
  intro W base args ds gs before hval hW _ _ _ hL hsh _
  exact contract H enc W base args ds gs before hval hW hL hsh

theorem said : Rows.PolicyRoundSaid :=
  OpenClaim.holds_of_cond 3 Tryd.f3 rfl rfl rfl rfl rfl rfl rfl ⟨rfl, rfl, rfl, rfl, rfl⟩ rfl rfl rfl rfl rfl (by kernel_rfl) Tryd.func3 (by kernel_rfl)
    (of_decide_eq_true (by kernel_rfl)) (by unfold Func.isWrapper; first | (rw [if_pos (by decide +kernel)]; kernel_rfl) | (rw [if_neg (by decide +kernel)]; exact ⟨rfl, rfl⟩))
    (fun os started H enc _ F => by rw [OpenClaim.pre_eq_preRow]; exact lifted os started H enc F)

theorem plain (f : FuncId) (fn : Func) (hf : Tryd.pinned.checked.prog.funcNamed "porterslodge/portkeep2.PolicyRound" = some f) (hfn : Tryd.pinned.checked.prog.funcs[f]? = some fn) :
    true = Tryd.pinned.checked.prog.looks [] ∧ ∀ (j : Nat) t, fn.params[j]? = some t → Tryd.pinned.checked.prog.wantsStandIn t = false := by
  obtain rfl : f = 3 := Option.some.inj ((show Tryd.prog.funcNamed "porterslodge/portkeep2.PolicyRound" = some 3 by kernel_rfl).symm.trans hf) |>.symm
  obtain rfl : fn = Tryd.f3 := (Option.some.inj (Tryd.func3.symm.trans hfn)).symm
  refine ⟨by kernel_rfl, fun j t ht => ?_⟩
  rw [Tryd.params3] at ht
  have hm : t ∈ [25] := by simpa using Array.mem_of_getElem? ht
  have hall : ([25].all fun u => !Tryd.prog.wantsStandIn u) = true := by kernel_rfl
  exact (show Tryd.prog.wantsStandIn t = false by simpa using List.all_eq_true.1 hall t hm)

/-- THE STATEMENT: the card -/
theorem proved : Rows.PolicyRoundCardSaid :=
  Claim7.holds_tied_plain_at .later [] _ _ _ _ said (fun _ h => by cases h) (by kernel_rfl) (fun _ h => by cases h) policyRound_row_tie rfl ⟨rfl, rfl⟩ (by kernel_rfl) rfl plain (by kernel_rfl)
#print axioms proved
end Go.Proofs.YtfcjbjkciefbmaaDoor.policyRound
