/- For every input: a template of quoted strings and fields becomes these strings with the values, byte by byte: the law porttop.TopFilled returns true, and its arguments read as before. -/
import Derived.Test.YtfohehldkchnjaaRows
import Derived.Test.YtfohehldkchnjaaTpTop
import Derived.Test.YtfohehldkchnjaaOpen
import Derived.ProofKit
import Derived.OpenShut
import Derived.Handed
import Derived.SizedLaws
namespace Go.Proofs.Ytfohehldkchnjaa.topFilled
open Go.ChangeShapes Go.WideShapes Go.ChangeAt Go.RowKit Go.Joins

theorem cellsString : Try.prog.cellsOf 9 = 1 := by kernel_rfl
theorem weights_in {H : Type} {P : Program} {e : TypeId} : ∀ {es : List (DataW H)} {d : DataW H} {n : Nat}, d ∈ es → n ∈ d.weights P e → n ∈ DataW.weightsAll P e es
  | x :: r, d, n, hd, hn => by
    simp only [DataW.weightsAll, List.mem_append]
    rcases List.mem_cons.1 hd with rfl | hd
    · exact .inl hn
    · exact .inr (weights_in hd hn)
section
variable {H : Type} {enc : TypeId × Value → H} {w : World} {spare : Nat → Bool} {held : Bool}
def QS (d : DataW H) (ws : List ByteArray) : Prop := ws = [] ∨ ∃ es sp, d = .slice es sp ∧ es.length = ws.length ∧ ∀ i (hi : i < ws.length), ∃ d', es[i]? = some d' ∧ d' = .lit (.string ws[i].data.toList)
theorem string_le {ts : List TypeId} {ds : List (DataW H)} {ws : List ByteArray} {j : Nat} {d : DataW H} (hsz : (DataW.weightsEach Try.prog ts ds).all (· ≤ reachBytes) = true) (ht : ts[j]? = some 22) (hd : ds[j]? = some d) (h : QS d ws) :
    ws.length ≤ 140737488351232 ∧ ∀ s ∈ ws, s.size ≤ 140737488351232 := by
  have g3 : reachBytes = 140737488351232 := rfl
  rcases h with rfl | ⟨es, sp, rfl, hl, he⟩
  · exact ⟨by simp, by simp⟩
  · have g1 := sized_slice hsz ht hd Try.underlying22
    have g2 : Try.prog.bytesOf 9 = 16 := by kernel_rfl
    rw [g2] at g1
    refine ⟨by omega, fun s hs => ?_⟩
    obtain ⟨i, hi, rfl⟩ := List.getElem_of_mem hs
    obtain ⟨d', h3, rfl⟩ := he i hi
    have h4 := List.all_eq_true.1 hsz _ (DataW.weights_mem_each ht hd (ws[i].data.toList).length (by
      simp only [DataW.weights, Try.underlying22]
      refine List.mem_cons_of_mem _ (List.mem_append_left _ (weights_in (List.mem_of_getElem? h3) ?_))
      simp [DataW.weights]))
    have h5 : ws[i].data.toList.length = ws[i].size := by simp
    have h6 : (ws[i].data.toList).length ≤ reachBytes := by simpa using h4
    omega
set_option maxRecDepth 100000 in
theorem open_strs {r : Reach} {b0 : Nat} {v : Value} {d : DataW H} {p : List MemPlace} (hv : Value.okWide Try.prog w r b0 22 v) (h : DataW.Trod enc Try.prog w 0 spare held 22 v d p) : ∃ l, SliceAt 1 strR w v l ∧ QS d l := by
  obtain ⟨fuel, hf⟩ := h
  obtain ⟨a, n, c, rfl⟩ := okWide_slice Try.underlying22 hv
  obtain ⟨u, l, e, hs, hq⟩ := open_list (α := ByteArray) (R := strR) (Q := fun d s => d = .lit (.string s.data.toList)) Try.underlying22 cellsString (by decide) (open_str_elem Try.underlying9) hf
  cases e
  refine ⟨l, hs, ?_⟩
  rcases hq with ⟨_, h0⟩ | h
  · exact .inl h0
  · exact .inr h
end

theorem own : ownKnob Try.prog.godebug = none := by kernel_rfl
theorem laid : laidOutB Try.prog = true := by kernel_rfl
theorem readable : ∀ t ∈ Try.f3.params.toList, Try.prog.readableRec t = true ∧ t < Try.prog.types.size := by
  intro t ht
  rw [Try.params3] at ht
  obtain rfl : t = 22 := by simpa using ht
  exact ⟨by kernel_rfl, of_decide_eq_true (by kernel_rfl)⟩

set_option maxRecDepth 100000 in
theorem contract (H : Type) (enc : TypeId × Value → H) (W : World) (base : Nat) (args : Array Value) (ds gs : List (DataW H)) (before : List MemPlace)
    (hval : ∀ (j : Nat) t v, Try.f3.params[j]? = some t → args[j]? = some v → Value.okWide Try.prog W .any base t v)
    (hW : DataW.Whole enc Try.prog Try.f3.params.toList Rows.topFilledSpec.vars false W args.toList ds gs before)
    (hsz : (DataW.weightsEach Try.prog (Try.f3.params.toList ++ Rows.topFilledSpec.plain.varTypes Try.prog) (ds ++ gs)).all (· ≤ reachBytes) = true) :
    Calls Try.prog 3 args W fun e W' => ∃ v, e = .returned v ∧ Rows.topFilledSpec.post enc Try.prog Try.f3 false true false false W args v W' := by
  have hW' := hW
  obtain ⟨p, q, hA0, hV, rfl, hfz, hnd⟩ := hW
  have hA : DataW.TrodAll enc Try.prog W 0 (fun _ => true) true Try.f3.params.toList args.toList ds p := hA0
  rw [Try.params3] at hA hval
  obtain ⟨v0, vs0, d0, ds0, p0, q0, hargs, rfl, rfl, h0, r0⟩ := trodAll_cons hA
  obtain ⟨v1, vs1, d1, ds1, p1, q1, rfl, rfl, rfl, h1, r1⟩ := trodAll_cons r0
  obtain ⟨rfl, rfl, rfl⟩ := trodAll_nil r1
  obtain rfl : args = #[v0, v1] := by cases args; simp_all
  obtain ⟨rfl, rfl⟩ := trodVars_none hV
  clear hA0 hA
  obtain ⟨ls, hs1, q1⟩ := open_strs (hval 0 22 v0 rfl rfl) h0
  obtain ⟨vs, hs2, q2⟩ := open_strs (hval 1 22 v1 rfl rfl) h1
  have g1 := string_le hsz (j := 0) (by rw [Try.params3]; rfl) rfl q1
  have g2 := string_le hsz (j := 1) (by rw [Try.params3]; rfl) rfl q2
  refine (filled_walk ls vs v0 v1 W hs1 hs2 g1.2 g2.2 g1.1 g2.1).mono fun e W' ⟨he, hg⟩ => ?_
  subst he
  exact ⟨_, rfl, law_post laid readable rfl Try.underlying4 rfl rfl hW' hg⟩

set_option maxRecDepth 100000 in
theorem lifted (os : Os) (started : os.Started) (H : Type) (enc : TypeId × Value → H) :
    ReturnsInHanded {} Try.checked os 3 .any (Rows.topFilledSpec.pre6 enc Try.prog Try.f3 Rows.topFilledRow.domain false) (Rows.topFilledSpec.post enc Try.prog Try.f3 false true false false) := by
  refine returnsInHanded_of_change_sized (C := Try.checked) own started (by kernel_rfl) Try.func3
    (ChangeSpec.witness6 (enc := enc) (C := Try.checked) false ⟨#[], #[.slice none 0 0, .slice none 0 0], []⟩ 8 (by kernel_rfl) (by kernel_rfl) (by kernel_rfl) (by kernel_rfl)) ?_
  intro W base args ds gs before hval hW _ hsz _
  exact contract H enc W base args ds gs before hval hW hsz

/-- THE STATEMENT -/
theorem proved : Rows.TopFilledSaid :=
  OpenClaim.holds_of_wide 3 Try.f3 rfl rfl rfl rfl rfl rfl rfl ⟨rfl, rfl, rfl, rfl, rfl⟩ rfl rfl rfl rfl rfl (by kernel_rfl) Try.func3 (by kernel_rfl)
    (of_decide_eq_true (by kernel_rfl)) (by unfold Func.isWrapper; first | (rw [if_pos (by decide +kernel)]; kernel_rfl) | (rw [if_neg (by decide +kernel)]; exact ⟨rfl, rfl⟩))
    (fun os started H enc _ => lifted os started H enc)
#print axioms proved
end Go.Proofs.Ytfohehldkchnjaa.topFilled
