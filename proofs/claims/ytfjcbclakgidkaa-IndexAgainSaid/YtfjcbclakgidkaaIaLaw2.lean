/- The plain law of IndexAgain: what an index of entries holds, and that adding, replacing and leaving out an entry gives the index of the entries so changed. No program in sight. -/
import Derived.Test.YtfjcbclakgidkaaIaLaw
namespace Go.Proofs.Ytfjcbclakgidkaa

/-- a place of a word: the entry's number, where it stands in the title, where in the body -/
abbrev PoD : Type := Int × List Int × List Int
abbrev TmD : Type := List UInt8 × List PoD
/-- an entry: number, title, body -/
abbrev EnD : Type := Int × List UInt8 × List UInt8
def sfx (l w : List UInt8) : Bool := Lib.hasSuffix w l
/-- know.Stem -/
def stemF (w : List UInt8) : List UInt8 :=
  if (w.all fun c => decide (97 ≤ c.toNat) && decide (c.toNat ≤ 122)) = false then w
  else if w.length < 4 then w
  else if sfx [105, 101, 115] w then w.take (w.length - 3) ++ [121]
  else if sfx [115, 115, 101, 115] w then w.take (w.length - 2)
  else if sfx [115, 115] w then w
  else if sfx [115] w then w.take (w.length - 1)
  else if sfx [105, 110, 103] w && decide (6 ≤ w.length) then w.take (w.length - 3)
  else if sfx [101, 100] w && decide (5 ≤ w.length) then w.take (w.length - 2)
  else w
/-- where a stem stands among words, counted from n -/
def posL (s : List UInt8) : Nat → List (List UInt8) → List Int
  | _, [] => []
  | n, w :: l => if stemF w = s then (n : Int) :: posL s (n + 1) l else posL s (n + 1) l
def poF (v : EnD) (s : List UInt8) : Option PoD :=
  if posL s 0 (words v.2.1) = [] ∧ posL s 0 (words v.2.2) = [] then none else some (v.1, posL s 0 (words v.2.1), posL s 0 (words v.2.2))
def szF (v : EnD) : Int := ((words v.2.1).length + (words v.2.2).length : Nat)
structure IxD where
  ids : List Int
  sizes : List Int
  terms : List TmD
def listF (E : List EnD) (s : List UInt8) : List PoD := E.filterMap fun v => poF v s
structure IxOk (E : List EnD) (x : IxD) : Prop where
  ids : x.ids = E.map (·.1)
  sizes : x.sizes = E.map szF
  asc : Asc (fun t : TmD => t.1) x.terms
  find : ∀ s, findK (fun t : TmD => t.1) x.terms s = if listF E s = [] then none else some (s, listF E s)
/-- an index is told by its entries -/
theorem IxOk.same {E : List EnD} {x y : IxD} (h : IxOk E x) (g : IxOk E y) : x = y := by
  cases x
  cases y
  obtain ⟨h1, h2, h3, h4⟩ := h
  obtain ⟨g1, g2, g3, g4⟩ := g
  simp only at h1 h2 h3 h4 g1 g2 g3 g4
  rw [h1, h2, g1, g2, asc_ext _ lin_bytes h3 g3 (fun k => by rw [h4, g4])]
theorem ix_nil : IxOk [] ⟨[], [], []⟩ := ⟨rfl, rfl, List.Pairwise.nil, fun _ => rfl⟩
def AscE (E : List EnD) : Prop := Asc (fun v : EnD => v.1) E
def insE (v : EnD) (E : List EnD) : List EnD := (E.filter fun u => decide (u.1 < v.1)) ++ v :: (E.filter fun u => decide (v.1 < u.1))
theorem insE_asc {E : List EnD} (h : AscE E) (v : EnD) : AscE (insE v E) := by
  unfold AscE Asc insE at *
  refine List.pairwise_append.2 ⟨h.sublist List.filter_sublist, List.pairwise_cons.2 ⟨fun u hu => ?_, h.sublist List.filter_sublist⟩, fun a ha b hb => ?_⟩
  · simpa using (List.mem_filter.1 hu).2
  · have h1 : a.1 < v.1 := by simpa using (List.mem_filter.1 ha).2
    rcases List.mem_cons.1 hb with rfl | hb
    · exact h1
    · have h2 : v.1 < b.1 := by simpa using (List.mem_filter.1 hb).2
      exact Int.lt_trans h1 h2
theorem listF_ids {E : List EnD} {s : List UInt8} {p : PoD} (h : p ∈ listF E s) : ∃ v ∈ E, p.1 = v.1 ∧ poF v s = some p := by
  obtain ⟨v, hv, hp⟩ := List.mem_filterMap.1 h
  refine ⟨v, hv, ?_, hp⟩
  unfold poF at hp
  split at hp
  · cases hp
  · cases hp
    rfl
theorem listF_asc {s : List UInt8} : ∀ {E : List EnD}, AscE E → Asc (fun p : PoD => p.1) (listF E s)
  | [], _ => List.Pairwise.nil
  | v :: E, h => by
    have h1 := List.pairwise_cons.1 h
    have ih := listF_asc (s := s) (E := E) h1.2
    unfold listF at ih ⊢
    rw [List.filterMap_cons]
    split
    · exact ih
    · rename_i p hp
      refine List.pairwise_cons.2 ⟨fun q hq => ?_, ih⟩
      obtain ⟨u, hu, e, _⟩ := listF_ids hq
      have hv : p.1 = v.1 := by
        unfold poF at hp
        split at hp
        · cases hp
        · cases hp
          rfl
      show p.1 < q.1
      rw [hv, e]
      exact h1.1 u hu
theorem poF_id {v : EnD} {s : List UInt8} {p : PoD} (hp : poF v s = some p) : p.1 = v.1 := by
  unfold poF at hp
  split at hp
  · cases hp
  · cases hp
    rfl
theorem listF_find {s : List UInt8} : ∀ {E : List EnD}, AscE E → ∀ k : Int, findK (fun p : PoD => p.1) (listF E s) k = (findK (fun v : EnD => v.1) E k).bind fun v => poF v s
  | [], _, k => rfl
  | v :: E, h, k => by
    have h1 := List.pairwise_cons.1 h
    have ih := listF_find (s := s) (E := E) h1.2 k
    rw [findK_cons]
    unfold listF at ih ⊢
    rw [List.filterMap_cons]
    split
    · rename_i hp
      rw [ih]
      by_cases e : v.1 = k
      · rw [if_pos e, findK_none (fun v : EnD => v.1) (fun z hz g => by have := h1.1 z hz; simp only at this g; omega)]
        simp [hp]
      · rw [if_neg e]
    · rename_i p hp
      rw [findK_cons, poF_id hp]
      by_cases e : v.1 = k
      · rw [if_pos e, if_pos e]
        simp [hp]
      · rw [if_neg e, if_neg e, ih]
theorem insE_find {E : List EnD} (h : AscE E) (v : EnD) (k : Int) : findK (fun v : EnD => v.1) (insE v E) k = if v.1 = k then some v else findK (fun v : EnD => v.1) E k := by
  have ha := insE_asc h v
  by_cases e : v.1 = k
  · rw [if_pos e, ← e]
    exact findK_mem (fun v : EnD => v.1) lin_int ha (by simp [insE])
  · rw [if_neg e]
    cases hf : findK (fun v : EnD => v.1) E k with
    | none =>
      refine findK_none _ fun z hz g => ?_
      have hz2 : z = v ∨ z ∈ E := by
        unfold insE at hz
        rcases List.mem_append.1 hz with q | q
        · exact .inr (List.mem_filter.1 q).1
        · rcases List.mem_cons.1 q with q | q
          · exact .inl q
          · exact .inr (List.mem_filter.1 q).1
      rcases hz2 with rfl | hz2
      · exact e g
      · have := findK_mem (fun v : EnD => v.1) lin_int h hz2
        rw [show z.1 = k from g, hf] at this
        cases this
    | some u =>
      obtain ⟨m, hk⟩ := findK_some _ hf
      have hu : u ∈ insE v E := by
        unfold insE
        have hk : u.1 = k := hk
        rcases Int.lt_trichotomy u.1 v.1 with q | q | q
        · exact List.mem_append_left _ (List.mem_filter.2 ⟨m, by simpa using q⟩)
        · exact absurd (q.symm.trans hk) e
        · exact List.mem_append_right _ (List.mem_cons_of_mem _ (List.mem_filter.2 ⟨m, by simpa using q⟩))
      have := findK_mem (fun v : EnD => v.1) lin_int ha hu
      rw [show u.1 = k from hk] at this
      exact this
/-- one entry's places are put among the others' -/
theorem list_ins {E : List EnD} (h : AscE E) (v : EnD) (s : List UInt8) {p : PoD} (hp : poF v s = some p) : listF (insE v E) s = mrg (fun p : PoD => p.1) (listF E s) [p] := by
  refine asc_ext _ lin_int (listF_asc (insE_asc h v)) (mrg_asc _ lin_int _ _ (listF_asc h) (List.pairwise_singleton _ _)) fun k => ?_
  rw [listF_find (insE_asc h v), insE_find h, mrg_find _ lin_int _ _ (listF_asc h) (List.pairwise_singleton _ _), listF_find h, findK_cons, poF_id hp]
  by_cases e : v.1 = k
  · rw [if_pos e, if_pos e]
    simp [hp]
  · rw [if_neg e, if_neg e]
    rfl
theorem list_no {E : List EnD} (h : AscE E) {v : EnD} (hn : ∀ u ∈ E, u.1 ≠ v.1) {s : List UInt8} (hp : poF v s = none) : listF (insE v E) s = listF E s := by
  refine asc_ext _ lin_int (listF_asc (insE_asc h v)) (listF_asc h) fun k => ?_
  rw [listF_find (insE_asc h v), insE_find h, listF_find h]
  by_cases e : v.1 = k
  · rw [if_pos e, findK_none (fun v : EnD => v.1) (k := k) (fun z hz g => hn z hz (g.trans e.symm))]
    simp [hp]
  · rw [if_neg e]
theorem list_ins_ne {E : List EnD} (h : AscE E) (v : EnD) (s : List UInt8) {p : PoD} (hp : poF v s = some p) : listF (insE v E) s ≠ [] := by
  intro e
  have h1 : p ∈ listF (insE v E) s := List.mem_filterMap.2 ⟨v, by simp [insE], hp⟩
  rw [e] at h1
  cases h1
/-- what an entry has of each stem -/
structure TmOk (v : EnD) (l : List TmD) : Prop where
  asc : Asc (fun t : TmD => t.1) l
  find : ∀ s, findK (fun t : TmD => t.1) l s = (poF v s).map fun p => (s, [p])
/-- its lists, with those that the index has -/
def upT (x l : List TmD) : List TmD := l.map fun t => (t.1, match findK (fun t : TmD => t.1) x t.1 with | some u => mrg (fun p : PoD => p.1) u.2 t.2 | none => t.2)
theorem upT_find (x : List TmD) : ∀ (l : List TmD) (s : List UInt8), findK (fun t : TmD => t.1) (upT x l) s = (findK (fun t : TmD => t.1) l s).map fun t => (t.1, match findK (fun t : TmD => t.1) x t.1 with | some u => mrg (fun p : PoD => p.1) u.2 t.2 | none => t.2)
  | [], s => rfl
  | t :: l, s => by
    have ih := upT_find x l s
    rw [findK_cons]
    show findK (fun t : TmD => t.1) ((t.1, _) :: upT x l) s = _
    rw [findK_cons]
    by_cases e : t.1 = s
    · rw [if_pos e, if_pos e]
      rfl
    · rw [if_neg e, if_neg e, ih]
theorem upT_asc (x : List TmD) {l : List TmD} (h : Asc (fun t : TmD => t.1) l) : Asc (fun t : TmD => t.1) (upT x l) := by
  unfold Asc upT at *
  exact List.pairwise_map.2 h
/-- AN INDEX WITH ONE MORE ENTRY -/
theorem with_ok {E : List EnD} {x : IxD} (hE : AscE E) (h : IxOk E x) {v : EnD} (hn : ∀ u ∈ E, u.1 ≠ v.1) {l : List TmD} (hl : TmOk v l) :
    IxOk (insE v E) ⟨(insE v E).map (·.1), (insE v E).map szF, mrg (fun t : TmD => t.1) x.terms (upT x.terms l)⟩ := by
  refine ⟨rfl, rfl, mrg_asc _ lin_bytes _ _ h.asc (upT_asc _ hl.asc), fun s => ?_⟩
  show findK _ (mrg _ x.terms (upT x.terms l)) s = _
  rw [mrg_find _ lin_bytes _ _ h.asc (upT_asc _ hl.asc), upT_find, hl.find, h.find]
  cases hp : poF v s with
  | none =>
    rw [list_no hE hn hp]
    rfl
  | some p =>
    rw [if_neg (list_ins_ne hE v s hp), list_ins hE v s hp]
    simp only [Option.map_some, Option.some_or]
    rw [h.find]
    by_cases e : listF E s = []
    · rw [if_pos e, e, mrg]
    · rw [if_neg e]
/-- AN INDEX WITHOUT AN ENTRY -/
def outT (id : Int) (l : List TmD) : List TmD := l.filterMap fun t => if (t.2.filter fun p => decide (p.1 ≠ id)) = [] then none else some (t.1, t.2.filter fun p => decide (p.1 ≠ id))
def outE (id : Int) (E : List EnD) : List EnD := E.filter fun v => decide (v.1 ≠ id)
theorem outE_asc {E : List EnD} (h : AscE E) (id : Int) : AscE (outE id E) := by
  unfold AscE Asc outE at *
  exact h.sublist List.filter_sublist
theorem listF_out (id : Int) (s : List UInt8) : ∀ E : List EnD, listF (outE id E) s = (listF E s).filter fun p => decide (p.1 ≠ id)
  | [] => rfl
  | v :: E => by
    have ih := listF_out id s E
    unfold listF outE at *
    rw [List.filter_cons, List.filterMap_cons]
    cases hp : poF v s with
    | none =>
      simp only
      split
      · rw [List.filterMap_cons, hp]
        exact ih
      · exact ih
    | some p =>
      simp only
      rw [List.filter_cons, poF_id hp]
      split
      · rw [List.filterMap_cons, hp]
        simp only
        rw [ih]
      · exact ih
theorem outT_find (id : Int) : ∀ (l : List TmD), Asc (fun t : TmD => t.1) l → ∀ s : List UInt8, findK (fun t : TmD => t.1) (outT id l) s = (findK (fun t : TmD => t.1) l s).bind fun t => if (t.2.filter fun p => decide (p.1 ≠ id)) = [] then none else some (t.1, t.2.filter fun p => decide (p.1 ≠ id))
  | [], _, s => rfl
  | t :: l, h, s => by
    have h1 := List.pairwise_cons.1 h
    have ih := outT_find id l h1.2 s
    rw [findK_cons]
    unfold outT at ih ⊢
    rw [List.filterMap_cons]
    by_cases g : (t.2.filter fun p => decide (p.1 ≠ id)) = []
    · rw [if_pos g]
      simp only
      rw [ih]
      by_cases e : t.1 = s
      · rw [if_pos e, findK_none (fun t : TmD => t.1) (fun z hz q => by have q2 : t.1 < z.1 := h1.1 z hz; rw [show z.1 = s from q, e] at q2; exact lin_bytes.irr _ q2)]
        rw [Option.bind_some, if_pos g]
        rfl
      · rw [if_neg e]
    · rw [if_neg g]
      simp only
      rw [findK_cons]
      by_cases e : t.1 = s
      · rw [if_pos e, if_pos e, Option.bind_some, if_neg g]
      · rw [if_neg e, if_neg e, ih]
theorem outT_mem {id : Int} {l : List TmD} {z : TmD} (h : z ∈ outT id l) : ∃ t ∈ l, z.1 = t.1 := by
  obtain ⟨t, ht, e⟩ := List.mem_filterMap.1 h
  refine ⟨t, ht, ?_⟩
  split at e
  · cases e
  · cases e
    rfl
theorem outT_asc (id : Int) : ∀ {l : List TmD}, Asc (fun t : TmD => t.1) l → Asc (fun t : TmD => t.1) (outT id l)
  | [], _ => List.Pairwise.nil
  | t :: l, h => by
    have h1 := List.pairwise_cons.1 h
    have ih := outT_asc id h1.2
    unfold outT at ih ⊢
    rw [List.filterMap_cons]
    split
    · exact ih
    · rename_i z hz
      refine List.pairwise_cons.2 ⟨fun y hy => ?_, ih⟩
      obtain ⟨u, hu, e⟩ := outT_mem hy
      have hz1 : z.1 = t.1 := by
        split at hz
        · cases hz
        · cases hz
          rfl
      show z.1 < y.1
      rw [hz1, e]
      exact h1.1 u hu
theorem without_ok {E : List EnD} {x : IxD} (h : IxOk E x) (id : Int) : IxOk (outE id E) ⟨(outE id E).map (·.1), (outE id E).map szF, outT id x.terms⟩ := by
  refine ⟨rfl, rfl, outT_asc id h.asc, fun s => ?_⟩
  show findK _ (outT id x.terms) s = _
  rw [outT_find id _ h.asc, h.find, listF_out]
  by_cases e : listF E s = []
  · rw [if_pos e, e]
    rfl
  · rw [if_neg e]
    simp only [Option.bind_some]
end Go.Proofs.Ytfjcbclakgidkaa
