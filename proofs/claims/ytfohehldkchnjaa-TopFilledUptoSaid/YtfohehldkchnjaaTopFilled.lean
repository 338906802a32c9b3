/- For all parts and values of small bulk: a template of quoted parts is filled as it should be: the law porttop.TopFilled, where what it reads is of bulk at most 1048576, returns true. -/
import Derived.Test.YtfohehldkchnjaaTpTop
import Derived.Test.YtfohehldkchnjaaOpen
import Derived.Test.YtfohehldkchnjaaBulk
import Derived.ProofKit
import Derived.OpenShut
import Derived.JoinedCond
namespace Go.Proofs.Ytfohehldkchnjaa.topFilled
open Go.ChangeShapes Go.WideShapes Go.ChangeAt Go.RowKit

theorem cellsString : Try.prog.cellsOf 9 = 1 := by kernel_rfl
section
variable {H : Type} {enc : TypeId × Value → H} {w : World} {spare : Nat → Bool} {held : Bool}
def QS (d : DataW H) (ws : List ByteArray) : Prop := (d = .nil ∧ ws = []) ∨ ∃ es sp, d = .slice es sp ∧ es.length = ws.length ∧ ∀ i (hi : i < ws.length), ∃ d', es[i]? = some d' ∧ d' = .lit (.string ws[i].data.toList)
theorem string_le {ws : List ByteArray} {d : DataW H} (h : QS d ws) : ws.length ≤ Rows.uptoBulk d ∧ ∀ s ∈ ws, s.size ≤ Rows.uptoBulk d := by
  rcases h with ⟨rfl, rfl⟩ | ⟨es, sp, rfl, hl, he⟩
  · exact ⟨by simp, by simp⟩
  · have h1 := bulks.length_le es
    have h2 : Rows.uptoBulkAll es ≤ Rows.uptoBulk (.slice es sp) := by simp only [Rows.uptoBulk]; omega
    refine ⟨by omega, fun s hs => ?_⟩
    obtain ⟨i, hi, rfl⟩ := List.getElem_of_mem hs
    obtain ⟨d', h3, rfl⟩ := he i hi
    have h4 := bulks.part_le (List.mem_of_getElem? h3)
    rw [bulks.string_eq] at h4
    have h5 : ws[i].data.toList.length = ws[i].size := by simp
    omega
set_option maxRecDepth 100000 in
theorem open_strs {r : Reach} {b0 : Nat} {v : Value} {d : DataW H} {p : List MemPlace} (hv : Value.okWide Try.prog w r b0 22 v) (h : DataW.Trod enc Try.prog w 0 spare held 22 v d p) : ∃ l, SliceAt 1 strR w v l ∧ QS d l := by
  obtain ⟨fuel, hf⟩ := h
  obtain ⟨a, n, c, rfl⟩ := okWide_slice Try.underlying22 hv
  obtain ⟨u, l, e, hs, hq⟩ := open_list (α := ByteArray) (R := strR) (Q := fun d s => d = .lit (.string s.data.toList)) Try.underlying22 cellsString (by decide) (open_str_elem Try.underlying9) hf
  cases e
  exact ⟨l, hs, hq⟩
end

theorem own : ownKnob Try.prog.godebug = none := by kernel_rfl
theorem laid : laidOutB Try.prog = true := by kernel_rfl
theorem readable : ∀ t ∈ Try.f3.params.toList, Try.prog.readableRec t = true ∧ t < Try.prog.types.size := by
  intro t ht
  rw [Try.params3] at ht
  obtain rfl : t = 22 := by simpa using ht
  exact ⟨by kernel_rfl, of_decide_eq_true (by kernel_rfl)⟩

set_option maxRecDepth 100000 in
theorem contract (H : Type) (enc : TypeId × Value → H) (W : World) (base : Nat) (args : Array Value) (ds gs : List (DataW H)) (before : List MemPlace)
    (hval : ∀ (j : Nat) t v, Try.f3.params[j]? = some t → args[j]? = some v → Value.okWide Try.prog W .any base t v)
    (hW : DataW.Whole enc Try.prog Try.f3.params.toList Rows.topFilledSpec.vars false W args.toList ds gs before) (hk : Rows.uptoSmall H (ds ++ gs) = true) :
    Calls Try.prog 3 args W fun e W' => ∃ v, e = .returned v ∧ Rows.topFilledSpec.post enc Try.prog Try.f3 false true false false W args v W' := by
  have hW' := hW
  obtain ⟨p, q, hA0, hV, rfl, hfz, hnd⟩ := hW
  have hA : DataW.TrodAll enc Try.prog W 0 (fun _ => true) true Try.f3.params.toList args.toList ds p := hA0
  rw [Try.params3] at hA hval
  obtain ⟨v0, vs0, d0, ds0, p0, q0, hargs, rfl, rfl, h0, r0⟩ := trodAll_cons hA
  obtain ⟨v1, vs1, d1, ds1, p1, q1, rfl, rfl, rfl, h1, r1⟩ := trodAll_cons r0
  obtain ⟨rfl, rfl, rfl⟩ := trodAll_nil r1
  obtain rfl : args = #[v0, v1] := by cases args; simp_all
  obtain ⟨rfl, rfl⟩ := trodVars_none hV
  clear hA0 hA
  obtain ⟨ls, hs1, q1⟩ := open_strs (hval 0 22 v0 rfl rfl) h0
  obtain ⟨vs, hs2, q2⟩ := open_strs (hval 1 22 v1 rfl rfl) h1
  have hb : Rows.uptoBulk d0 ≤ 1048576 ∧ Rows.uptoBulk d1 ≤ 1048576 := by
    have h1 : Rows.uptoBulkAll [d0, d1] ≤ 1048576 := of_decide_eq_true hk
    simp only [Rows.uptoBulkAll] at h1
    omega
  have g1 := string_le q1
  have g2 := string_le q2
  refine (filled_walk ls vs v0 v1 W hs1 hs2 (fun s hs => Nat.le_trans (g1.2 s hs) hb.1) (fun s hs => Nat.le_trans (g2.2 s hs) hb.2) (Nat.le_trans g1.1 hb.1) (Nat.le_trans g2.1 hb.2)).mono fun e W' ⟨he, hg⟩ => ?_
  subst he
  exact ⟨_, rfl, law_post laid readable rfl Try.underlying4 rfl rfl hW' hg⟩

set_option maxRecDepth 100000 in
theorem lifted (os : Os) (started : os.Started) (H : Type) (enc : TypeId × Value → H) (F : Stop.Interp) :
    ReturnsInHanded {} Try.checked os 3 .any ((Rows.OpenSpec.upto Rows.topFilledSpec).pre6 enc Try.prog Try.f3 Rows.topFilledUptoRow.domain false) (((Rows.OpenSpec.upto Rows.topFilledSpec).at F).post enc Try.prog Try.f3 false true false false) := by
  refine returnsInHanded_of_cond (C := Try.checked) (s := Rows.OpenSpec.upto Rows.topFilledSpec) (k := Rows.uptoSmall) rfl own started (by kernel_rfl) Try.func3
    (OpenSpec.witness (enc := enc) (C := Try.checked) (s := Rows.OpenSpec.upto Rows.topFilledSpec) (k := Rows.uptoSmall) rfl false ⟨#[], #[.slice none 0 0, .slice none 0 0], []⟩ 8 (by kernel_rfl) (by kernel_rfl) (by kernel_rfl)
      (x := ([.nil, .nil], [], [])) (by kernel_rfl) rfl (by kernel_rfl)) ?_
  intro W base args ds gs before hval hW _ hk _
  exact contract H enc W base args ds gs before hval hW hk

/-- THE STATEMENT -/
theorem proved : Rows.TopFilledUptoSaid :=
  OpenClaim.holds_of_cond 3 Try.f3 rfl rfl rfl rfl rfl rfl rfl ⟨rfl, rfl, rfl, rfl, rfl⟩ rfl rfl rfl rfl rfl (by kernel_rfl) Try.func3 (by kernel_rfl)
    (of_decide_eq_true (by kernel_rfl)) (by unfold Func.isWrapper; first | (rw [if_pos (by decide +kernel)]; kernel_rfl) | (rw [if_neg (by decide +kernel)]; exact ⟨rfl, rfl⟩))
    (fun os started H enc _ F => lifted os started H enc F)
#print axioms proved
end Go.Proofs.Ytfohehldkchnjaa.topFilled
