/- For every query of small bulk: what QueryText writes ReadQuery reads: the law portkeep2.QueryRound, where what it reads is of bulk at most 1048576, returns true. -/
import Derived.Test.YtogfekjopelfbaaQLaw
import Derived.Test.YtogfekjopelfbaaOpen
import Derived.Test.YtogfekjopelfbaaBulk
import Derived.ProofKit
import Derived.OpenShut
import Derived.JoinedCond
namespace Go.Proofs.Ytogfekjopelfbaa.queryRound
open Go.ChangeShapes Go.WideShapes Go.ChangeAt Go.RowKit

theorem awake (w : World) : Calls Try.prog 6 #[] w fun e w' => e = .returned (.bool true) ∧ Below w.heap.size w w' := by
  go_enter Try.func6, Try.ntmps6
  go_wp2_with fail
  refine (Words_any _ _ (by decide)).mono ?_
  rintro e w1 ⟨a, c, rfl, _, hb⟩
  have h1 : (wordsS { data := #[97] }).length = 1 := by decide
  rw [h1]
  go_wp2
  go_ret
  exact ⟨rfl, hb⟩

set_option maxRecDepth 100000 in
set_option maxHeartbeats 1000000 in
/-- THE WALK of the law -/
theorem walk (v : Value) (l : List PartD) (w : World) (h : SliceAt 3 PartR w v l) (hs : SmallQ l) :
    Calls Try.prog 3 #[.agg #[v]] w fun e w' => e = .returned (.bool true) ∧ Below w.heap.size w w' := by
  obtain ⟨a, cap, rfl⟩ := h.len
  have H := Lib.hid h
  clear h
  go_enter Try.func3, Try.ntmps3
  go_wp2_with fail
  refine (awake _).mono ?_
  rintro e w1 ⟨rfl, hb1⟩
  have hx1 : Has w1 w.heap.size #[.slice a l.length cap] 24 := (Has.new _ _ _).below hb1 (by simp)
  have hc1 := hx1.cell 0
  have HX1 := Lib.hid hx1
  have HB1 := Lib.hid (((Below.refl _ _).alloc (Nat.le_refl _) _).trans (hb1.mono (by simp : w.heap.size ≤ _)))
  clear hb1 hx1
  go_wp2_with fail
  refine (QueryText_any _ l _ (H.out.stable PartR_stable HB1.out) hs).mono ?_
  rintro e w2 ⟨s, n, rfl, hb2, hq⟩
  have hx2 := HX1.out.below hb2 HX1.out.lt
  have HX2 := Lib.hid hx2
  have HB2 := Lib.hid (HB1.out.trans (hb2.mono HB1.out.size))
  clear hb2 hx2 HX1 hc1
  rcases hq with ⟨rfl, rfl, h400, h20, hall⟩ | ⟨hn, rfl, _⟩
  · have HALL := Lib.hid hall
    clear hall
    go_wp2_with fail
    refine (ReadQuery_ok (queryS l) l _ h400 h20 (parses_query l HALL.out)).mono ?_
    rintro e w3 ⟨rv, rfl, hb3, hsl⟩
    obtain ⟨ar, cr, rfl⟩ := hsl.len
    have HX3 := Lib.hid (HX2.out.below hb3 HX2.out.lt)
    have HB3 := Lib.hid (HB2.out.trans (hb3.mono HB2.out.size))
    have HSL := Lib.hid hsl
    clear hb3 hsl HX2
    go_wp2_with fail
    refine (QueryText_any _ l _ (HSL.out.stable PartR_stable ((Below.refl _ _).alloc (Nat.le_refl _) _)) hs).mono ?_
    rintro e w4 ⟨t, n, rfl, hb4, hq⟩
    have hx4 := (HX3.out.alloc _).below hb4 (HX3.out.alloc _).lt
    have hr4 : Has w4 w3.heap.size #[.slice ar l.length cr] 24 := (Has.new _ _ _).below hb4 (by simp)
    have hc4 := hx4.cell 0
    have hd4 := hr4.cell 0
    have HB4 := Lib.hid ((HB3.out.alloc HB3.out.size _).trans (hb4.mono (by have := HB3.out.size; simp; omega)))
    clear hb4 hx4 hr4
    rcases hq with ⟨rfl, rfl, _, _, _⟩ | ⟨_, _, hno⟩
    · go_wp2
      go_ret
      exact ⟨rfl, HB4.out⟩
    · exact absurd ⟨h20, HALL.out, h400⟩ hno
  · have hn' : (n == 0) = false := by simpa using hn
    go_wp2
    go_ret
    exact ⟨rfl, HB2.out⟩

/-! ### What the argument reads as -/
section
variable {H : Type} {enc : TypeId × Value → H} {w : World} {spare : Nat → Bool} {held : Bool}
def QS (d : DataW H) (ws : List ByteArray) : Prop := (d = .nil ∧ ws = []) ∨ ∃ es sp, d = .slice es sp ∧ es.length = ws.length ∧ ∀ i (hi : i < ws.length), ∃ d', es[i]? = some d' ∧ d' = .lit (.string ws[i].data.toList)
def QP (d : DataW H) (x : PartD) : Prop := ∃ d0 d1 d2, d = .agg [d0, d1, d2] ∧ QS d2 x.ws
instance : Inhabited PartD := ⟨⟨0, false, []⟩⟩

theorem cellsPart : Try.prog.cellsOf 61 = 3 := by kernel_rfl
theorem cellsString : Try.prog.cellsOf 9 = 1 := by kernel_rfl
theorem cellsQuery : Try.prog.cellsOf 24 = 1 := by kernel_rfl
theorem cellsStrs : Try.prog.cellsOf 32 = 1 := by kernel_rfl
theorem cellsParts : Try.prog.cellsOf 22 = 1 := by kernel_rfl
theorem cellsInt : Try.prog.cellsOf 3 = 1 := by kernel_rfl
theorem cellsBool : Try.prog.cellsOf 4 = 1 := by kernel_rfl

theorem len3 {α : Type} {l : List α} (h : l.length = 3) : ∃ a b c, l = [a, b, c] := by
  cases l with
  | nil => cases h
  | cons a l => cases l with
    | nil => cases h
    | cons b l => cases l with
      | nil => cases h
      | cons c l => cases l with
        | nil => exact ⟨a, b, c, rfl⟩
        | cons d l => simp at h
theorem part_elem : ∀ n cs (x : DataW H × List MemPlace), cs.length = 3 → DataW.trod enc Try.prog w 0 spare held n 61 cs = some x → ∃ y, PartR w cs y ∧ QP x.1 y := by
  intro n cs x hl h
  obtain ⟨y0, y1, y2, m, hx, _, h0, h1, h2⟩ := Go.Deep.trod_struct3 Try.underlying61 h
  obtain ⟨c0, c1, c2, rfl⟩ := len3 hl
  · simp only [List.drop_zero, List.drop_succ_cons, cellsInt, cellsBool, cellsStrs, List.take_succ_cons, List.take_zero] at h0 h1 h2
    obtain ⟨k, e0, _, _⟩ := DataW.trod_int Try.underlying3 h0
    obtain ⟨b, e1, _⟩ := DataW.trod_bool Try.underlying4 h1
    obtain ⟨v, ws, e2, hs, hq⟩ := open_list (α := ByteArray) (R := strR) (Q := fun d s => d = .lit (.string s.data.toList)) Try.underlying32 cellsString (by decide) (open_str_elem Try.underlying9) h2
    cases e0; cases e1; cases e2
    subst hx
    exact ⟨⟨k, b, ws⟩, ⟨_, rfl, hs⟩, _, _, _, rfl, hq⟩

theorem string_le {ws : List ByteArray} {d : DataW H} (h : QS d ws) : ws.length ≤ Rows.uptoBulk d ∧ ∀ s ∈ ws, s.size ≤ Rows.uptoBulk d := by
  rcases h with ⟨rfl, rfl⟩ | ⟨es, sp, rfl, hl, he⟩
  · exact ⟨by simp, by simp⟩
  · have h1 := bulks.length_le es
    have h2 : Rows.uptoBulkAll es ≤ Rows.uptoBulk (.slice es sp) := by simp only [Rows.uptoBulk]; omega
    refine ⟨by omega, fun s hs => ?_⟩
    obtain ⟨i, hi, rfl⟩ := List.getElem_of_mem hs
    obtain ⟨d', h3, rfl⟩ := he i hi
    have h4 := bulks.part_le (List.mem_of_getElem? h3)
    rw [bulks.string_eq] at h4
    have h5 : ws[i].data.toList.length = ws[i].size := by simp
    omega

set_option maxRecDepth 100000 in
theorem small_of {l : List PartD} {d : DataW H} (h : (d = .nil ∧ l = []) ∨ ∃ es sp, d = .slice es sp ∧ es.length = l.length ∧ ∀ i (hi : i < l.length), ∃ d', es[i]? = some d' ∧ QP d' l[i]) (hb : Rows.uptoBulk d ≤ 1048576) : SmallQ l := by
  rcases h with ⟨rfl, rfl⟩ | ⟨es, sp, rfl, hl, he⟩
  · exact ⟨by simp, by simp⟩
  · have h2 : Rows.uptoBulkAll es ≤ Rows.uptoBulk (.slice es sp) := by simp only [Rows.uptoBulk]; omega
    have key : ∀ x ∈ l, x.ws.length ≤ 1048576 ∧ ∀ s ∈ x.ws, s.size ≤ 1048576 := by
      intro x hx
      obtain ⟨i, hi, rfl⟩ := List.getElem_of_mem hx
      obtain ⟨d', h3, d0, d1, d2, rfl, hq⟩ := he i hi
      have h4 := bulks.part_le (List.mem_of_getElem? h3)
      have h5 : Rows.uptoBulk d2 ≤ Rows.uptoBulk (.agg [d0, d1, d2]) := by simp only [Rows.uptoBulk, Rows.uptoBulkAll]; omega
      have h6 := string_le hq
      exact ⟨by omega, fun s hs => by have := h6.2 s hs; omega⟩
    exact ⟨fun x hx => (key x hx).1, fun x hx => (key x hx).2⟩
end

theorem own : ownKnob Try.prog.godebug = none := by kernel_rfl
theorem laid : laidOutB Try.prog = true := by kernel_rfl
theorem readable : ∀ t ∈ Try.f3.params.toList, Try.prog.readableRec t = true ∧ t < Try.prog.types.size := by
  intro t ht
  rw [Try.params3] at ht
  obtain rfl : t = 24 := by simpa using ht
  exact ⟨by kernel_rfl, of_decide_eq_true (by kernel_rfl)⟩

set_option maxRecDepth 100000 in
theorem contract (H : Type) (enc : TypeId × Value → H) (W : World) (base : Nat) (args : Array Value) (ds gs : List (DataW H)) (before : List MemPlace)
    (hval : ∀ (j : Nat) t v, Try.f3.params[j]? = some t → args[j]? = some v → Value.okWide Try.prog W .any base t v)
    (hW : DataW.Whole enc Try.prog Try.f3.params.toList Rows.queryRoundSpec.vars false W args.toList ds gs before) (hk : Rows.uptoSmall H (ds ++ gs) = true) :
    Calls Try.prog 3 args W fun e W' => ∃ v, e = .returned v ∧ Rows.queryRoundSpec.post enc Try.prog Try.f3 false true false false W args v W' := by
  have hW' := hW
  obtain ⟨p, q, hA0, hV, rfl, hfz, hnd⟩ := hW
  have hA : DataW.TrodAll enc Try.prog W 0 (fun _ => true) true Try.f3.params.toList args.toList ds p := hA0
  rw [Try.params3] at hA hval
  obtain ⟨v0, vs0, d0, ds0, p0, q0, hargs, rfl, rfl, h0, r0⟩ := trodAll_cons hA
  obtain ⟨rfl, rfl, rfl⟩ := trodAll_nil r0
  obtain rfl : args = #[v0] := by cases args; simp_all
  obtain ⟨rfl, rfl⟩ := trodVars_none hV
  clear hA0 hA
  obtain ⟨cs, rfl, hsz⟩ := okWide_struct Try.underlying24 (hval 0 24 v0 rfl rfl)
  obtain ⟨c, rfl⟩ : ∃ c, cs = #[c] := Array.size_eq_one_iff.1 (hsz.trans cellsQuery)
  obtain ⟨fuel, hf⟩ := h0
  obtain ⟨y0, n, hx, _, hy⟩ := trod_struct1 Try.underlying24 hf
  simp only [Value.cells, List.drop_zero, cellsParts, List.take_succ_cons, List.take_zero] at hy
  obtain ⟨v, l, e, hs, hq⟩ := open_list (α := PartD) (R := PartR) (Q := QP) Try.underlying22 cellsPart (by decide) part_elem hy
  cases e
  have hd : d0 = .agg [y0.1] := (Prod.mk.inj hx).1
  have hb : Rows.uptoBulk y0.1 ≤ 1048576 := by
    have h1 : Rows.uptoBulkAll [d0] ≤ 1048576 := of_decide_eq_true hk
    rw [hd] at h1
    simp only [Rows.uptoBulk, Rows.uptoBulkAll] at h1
    omega
  refine (walk _ l W hs (small_of hq hb)).mono fun e W' ⟨he, hg⟩ => ?_
  subst he
  exact ⟨_, rfl, law_post laid readable rfl Try.underlying4 rfl rfl hW' hg⟩

set_option maxRecDepth 100000 in
theorem lifted (os : Os) (started : os.Started) (H : Type) (enc : TypeId × Value → H) (F : Stop.Interp) :
    ReturnsInHanded {} Try.checked os 3 .any ((Rows.OpenSpec.upto Rows.queryRoundSpec).pre6 enc Try.prog Try.f3 Rows.queryRoundUptoRow.domain false) (((Rows.OpenSpec.upto Rows.queryRoundSpec).at F).post enc Try.prog Try.f3 false true false false) := by
  refine returnsInHanded_of_cond (C := Try.checked) (s := Rows.OpenSpec.upto Rows.queryRoundSpec) (k := Rows.uptoSmall) rfl own started (by kernel_rfl) Try.func3
    (OpenSpec.witness (enc := enc) (C := Try.checked) (s := Rows.OpenSpec.upto Rows.queryRoundSpec) (k := Rows.uptoSmall) rfl false ⟨#[], #[.agg #[.slice none 0 0]], []⟩ 8 (by kernel_rfl) (by kernel_rfl) (by kernel_rfl)
      (x := ([.agg [.nil]], [], [])) (by kernel_rfl) rfl (by kernel_rfl)) ?_
  intro W base args ds gs before hval hW _ hk _
  exact contract H enc W base args ds gs before hval hW hk

/-- THE STATEMENT -/
theorem proved : Rows.QueryRoundUptoSaid :=
  OpenClaim.holds_of_cond 3 Try.f3 rfl rfl rfl rfl rfl rfl rfl ⟨rfl, rfl, rfl, rfl, rfl⟩ rfl rfl rfl rfl rfl (by kernel_rfl) Try.func3 (by kernel_rfl)
    (of_decide_eq_true (by kernel_rfl)) (by unfold Func.isWrapper; first | (rw [if_pos (by decide +kernel)]; kernel_rfl) | (rw [if_neg (by decide +kernel)]; exact ⟨rfl, rfl⟩))
    (fun os started H enc _ F => lifted os started H enc F)
#print axioms proved
end Go.Proofs.Ytogfekjopelfbaa.queryRound
