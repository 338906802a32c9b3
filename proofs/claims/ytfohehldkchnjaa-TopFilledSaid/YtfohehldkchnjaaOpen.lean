/- From the form's reading of an argument to a list: slices whose elements are of whatever type. -/
import Derived.Test.YtfohehldkchnjaaBase
import Derived.Deep.Slices
import Derived.Lib.SmallJoins
import Derived.ProofKit
import Derived.OpenShut
import Derived.JoinedCond
namespace Go.Proofs.Ytfohehldkchnjaa
open Go.RowKit

section
variable {H : Type} {enc : TypeId × Value → H} {P : Program} {w : World} {spare : Nat → Bool} {held : Bool}

theorem addr_plain {w : World} {a : Addr} {v : Value} (h : w.cell? a = some v) : a.spot = none := by
  unfold World.cell? at h
  split at h
  · cases hs : a.spot with
    | none => rfl
    | some _ => simp [hs] at h
  · cases h
theorem add_spot (a : Addr) (i : Nat) (h : (a.add i).spot = none) : (a.add i) = ⟨a.block, a.off + i, none⟩ := by
  unfold Addr.add at h ⊢
  split at h
  · rename_i h0
    subst h0
    cases a
    simp_all
  · rename_i h0
    rw [if_neg h0]
theorem add_first {a : Addr} {i j : Nat} (h : ((a.add i).add j).spot = none) : (a.add i).add j = ⟨a.block, a.off + i + j, none⟩ := by
  have h1 := add_spot (a.add i) j h
  rw [h1]
  have h2 : (a.add i).block = a.block ∧ (a.add i).off = a.off + i := by
    unfold Addr.add
    split
    · rename_i h0; subst h0; simp
    · simp
  rw [h2.1, h2.2]

/-- A SLICE THAT READS: as a list. -/
theorem open_list {α : Type} [Inhabited α] {R : World → List Value → α → Prop} {Q : DataW H → α → Prop} {t e : TypeId} {sz : Nat} (ht : P.underlying t = some (.slice e)) (hsz : P.cellsOf e = sz) (h0 : 0 < sz)
    (elem : ∀ n cs x, cs.length = sz → DataW.trod enc P w 0 spare held n e cs = some x → ∃ y, R w cs y ∧ Q x.1 y) {fuel : Nat} {cs : List Value} {x : DataW H × List MemPlace} (h : DataW.trod enc P w 0 spare held fuel t cs = some x) :
    ∃ v l, cs = [v] ∧ SliceAt sz R w v l ∧ ((x.1 = .nil ∧ l = []) ∨ ∃ es sp, x.1 = .slice es sp ∧ es.length = l.length ∧ ∀ i (hi : i < l.length), ∃ d, es[i]? = some d ∧ Q d l[i]) := by
  rcases Go.Deep.open_slice ht h with ⟨rfl, rfl⟩ | ⟨a, len, cap, m, n, D, Pl, rfl, hb, hl, hm, hmm, rfl, hx⟩
  · exact ⟨_, [], rfl, .inl ⟨none, 0, rfl, rfl⟩, .inl ⟨rfl, rfl⟩⟩
  · have hle : len ≤ m := by rw [hmm]; split <;> omega
    have hY : ∃ Y : Nat → α, ∀ i, i < len → (∃ cs', w.cells? 0 (a.add (i * sz)) sz = some cs' ∧ R w cs' (Y i)) ∧ Q (D i) (Y i) := by
      refine Go.Deep.choose_lt (α := α) (p := fun i y => (∃ cs', w.cells? 0 (a.add (i * sz)) sz = some cs' ∧ R w cs' y) ∧ Q (D i) y) fun i hi => ?_
      obtain ⟨cs', h1, h2⟩ := hx i (by omega)
      rw [hsz] at h1
      obtain ⟨_, h3, _⟩ := World.cells?_some h1
      obtain ⟨y, hr, hq⟩ := elem n cs' _ h3 h2
      exact ⟨y, ⟨cs', h1, hr⟩, hq⟩
    obtain ⟨Y, hY⟩ := hY
    refine ⟨_, (List.range len).map Y, rfl, ?_, .inr ⟨_, _, rfl, by simp, fun i hi => ?_⟩⟩
    · by_cases hl0 : len = 0
      · subst hl0
        exact .inl ⟨some a, cap, rfl, rfl⟩
      · obtain ⟨⟨cs', h1, _⟩, _⟩ := hY 0 (by omega)
        obtain ⟨_, h3, h4⟩ := World.cells?_some h1
        have h5 := h4 0 h0
        rw [List.getElem?_eq_getElem (by omega)] at h5
        have h6 := World.block_lt_of_cell? w _ h5
        have h7 := addr_plain h5
        have hzero : (a.add (0 * sz)).add 0 = a := by simp [Addr.add]
        rw [hzero] at h6 h7
        have ha : a = ⟨a.block, a.off, none⟩ := by cases a; simp_all
        refine .inr ⟨a.block, a.off, cap, ?_, by simpa using hl, h6, fun i hi => ?_⟩
        · rw [List.length_map, List.length_range, ← ha]
        · have hi' : i < len := by simpa using hi
          obtain ⟨⟨cs2, g1, g2⟩, _⟩ := hY i hi'
          obtain ⟨_, g3, g4⟩ := World.cells?_some g1
          refine ⟨cs2, ⟨g3, fun j hj => ?_⟩, by simpa using g2⟩
          have g5 := g4 j (by omega)
          rw [List.getElem?_eq_getElem hj] at g5
          rw [add_first (addr_plain g5)] at g5
          exact g5
    · have hi' : i < len := by simpa using hi
      exact ⟨D i, by simp [hi'], by simpa using (hY i hi').2⟩

theorem open_str_elem {e : TypeId} (he : P.underlying e = some .string) : ∀ n cs (x : DataW H × List MemPlace), cs.length = 1 → DataW.trod enc P w 0 spare held n e cs = some x → ∃ y, strR w cs y ∧ x.1 = .lit (.string y.data.toList) := by
  intro n cs x _ h
  obtain ⟨s, rfl, rfl, _⟩ := DataW.trod_string he h
  exact ⟨s, rfl, rfl⟩
theorem open_int_elem {e : TypeId} (he : P.underlying e = some (.int .i64)) : ∀ n cs (x : DataW H × List MemPlace), cs.length = 1 → DataW.trod enc P w 0 spare held n e cs = some x → ∃ y, (intR w cs y ∧ -9223372036854775808 ≤ y ∧ y ≤ 9223372036854775807) ∧ x.1 = .lit (.int .i64 y) := by
  intro n cs x _ h
  obtain ⟨y, rfl, rfl, hw⟩ := DataW.trod_int he h
  refine ⟨y, ⟨rfl, ?_⟩, rfl⟩
  have h2 : (Lit.int .i64 y).wf = (decide (IntKind.i64.min ≤ y) && decide (y ≤ IntKind.i64.max)) := rfl
  rw [h2, show IntKind.i64.min = -9223372036854775808 from by decide, show IntKind.i64.max = 9223372036854775807 from by decide] at hw
  simpa using hw
end

/-! ### A law's end: it returned true, and nothing that was there has turned -/
section
open Go.ChangeShapes Go.WideShapes
variable {H : Type} {enc : TypeId × Value → H} {P : Program}
theorem args_below (hl : laidOutB P = true) {W W' : World} (hb : Below W.heap.size W W') : ∀ (ts : List TypeId) (vs : List Value) (ds : List (DataW H)) (ps : List MemPlace), (∀ t ∈ ts, P.readableRec t = true ∧ t < P.types.size) →
    DataW.TrodAll enc P W 0 (fun _ => true) true ts vs ds ps → (∀ x ∈ ps, x.block < W.heap.size) → DataW.TrodAll enc P W' 0 (fun b => decide (b < W.heap.size)) true ts vs ds ps
  | [], vs, ds, ps, _, h, _ => by
    obtain ⟨rfl, rfl, rfl⟩ := trodAll_nil h
    exact trodAll_mk0
  | t :: ts, vs, ds, ps, ht, h, hlt => by
    obtain ⟨v, vs', d, ds', p, q, rfl, rfl, rfl, h0, h1⟩ := trodAll_cons h
    have h2 := ht t List.mem_cons_self
    exact trodAll_cons_mk (Below.trod hl h2.1 h2.2 h0 hb (fun x hx => hlt x (List.mem_append.2 (.inl hx))))
      (args_below hl hb ts vs' ds' q (fun t' h' => ht t' (List.mem_cons_of_mem _ h')) h1 (fun x hx => hlt x (List.mem_append.2 (.inr hx))))

theorem law_post {f : Func} {s : ChangeSpec} {W W' : World} {args : Array Value} {ds gs : List (DataW H)} {before : List MemPlace} {tb : TypeId} (hl : laidOutB P = true)
    (hr : ∀ t ∈ f.params.toList, P.readableRec t = true ∧ t < P.types.size) (hres : f.resultTypes = #[tb]) (htb : P.underlying tb = some .bool) (hsv : s.vars = [])
    (hfn : s.fn H (ds ++ gs) = { results := [.lit (.bool true)], args := ds }) (hW : DataW.Whole enc P f.params.toList s.vars false W args.toList ds gs before) (hb : Below W.heap.size W W') :
    s.post enc P f false true false false W args (.bool true) W' := by
  have hlt := fun p hp => hW.lt (p := p) hp
  have hW' := hW
  obtain ⟨p, q, hA, hV, rfl, _, _⟩ := hW
  rw [hsv] at hV
  obtain ⟨rfl, rfl⟩ := trodVars_none hV
  refine ⟨ds, [], _, [], p, [], hW', ?_, ?_, ?_, hb.frame _, fun h => by cases h⟩
  · rw [hfn, hres]
    exact trodAll_mk1 (shut_bool htb true)
  · rw [hfn]
    exact args_below hl hb _ _ _ _ hr hA (fun x hx => hlt x (by simpa using hx))
  · rw [hfn, hsv]
    rfl
end

end Go.Proofs.Ytfohehldkchnjaa
