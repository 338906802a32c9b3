/- What know.postings gives, in plain words; and how terms and postings lie in memory. -/
import Derived.Test.YtfjcbclakgidkaaIaNote
import Derived.Test.YtfjcbclakgidkaaIaMrg
namespace Go.Proofs.Ytfjcbclakgidkaa
open Go.RowKit

/-! ### the plain law -/
def sortS (S : List (List UInt8)) : List (List UInt8) := S.mergeSort fun x y => decide (x ≤ y)
theorem sortS_perm (S : List (List UInt8)) : (sortS S).Perm S := List.mergeSort_perm _ _
theorem sortS_asc {S : List (List UInt8)} (h : S.Nodup) : (sortS S).Pairwise (· < ·) := by
  have h1 : (sortS S).Pairwise fun x y => decide (x ≤ y) = true := List.pairwise_mergeSort (le := fun x y => decide (x ≤ y)) (fun a b c h1 h2 => by
    rw [decide_eq_true_iff] at *
    exact List.le_trans h1 h2) (fun a b => by
    rcases List.le_total a b with g | g
    · simp [g]
    · simp [g]) S
  have h2 : (sortS S).Nodup := (sortS_perm S).nodup_iff.2 h
  refine (List.pairwise_and_iff.2 ⟨h1, h2⟩).imp fun {a b} hab => ?_
  have hle : a ≤ b := by simpa using hab.1
  rcases lin_bytes.tot a b with g | g | g
  · exact g
  · exact absurd g hab.2
  · exact absurd g (List.not_lt.2 hle)
def poE (v : EnD) (s : List UInt8) : PoD := (v.1, posL s 0 (words v.2.1), posL s 0 (words v.2.2))
def tmE (v : EnD) (s : List UInt8) : TmD := (s, [poE v s])
theorem poF_E (v : EnD) (s : List UInt8) : poF v s = if posL s 0 (words v.2.1) = [] ∧ posL s 0 (words v.2.2) = [] then none else some (poE v s) := rfl
theorem tm_ok (v : EnD) {S : List (List UInt8)} (hnd : S.Nodup) (hm : ∀ s, s ∈ S ↔ ∃ c, c < 2 ∧ ∃ w ∈ (if c = 0 then words v.2.1 else words v.2.2), stemF w = s) : TmOk v ((sortS S).map (tmE v)) := by
  have hasc : Asc (fun t : TmD => t.1) ((sortS S).map (tmE v)) := List.pairwise_map.2 (sortS_asc hnd)
  have hmm : ∀ s, s ∈ sortS S ↔ ¬ (posL s 0 (words v.2.1) = [] ∧ posL s 0 (words v.2.2) = []) := fun s => by
    rw [(sortS_perm S).mem_iff, hm, posL_nil_iff, posL_nil_iff]
    constructor
    · rintro ⟨c, hc, w, hw, e⟩ ⟨h1, h2⟩
      split at hw
      · exact h1 w hw e
      · exact h2 w hw e
    · intro h
      by_cases g : ∀ w ∈ words v.2.1, stemF w ≠ s
      · have h3 : ¬ ∀ w ∈ words v.2.2, stemF w ≠ s := fun g2 => h ⟨g, g2⟩
        simp only [ne_eq, Classical.not_forall, Classical.not_not] at h3
        obtain ⟨w, hw, e⟩ := h3
        exact ⟨1, by decide, w, by simpa using hw, e⟩
      · simp only [ne_eq, Classical.not_forall, Classical.not_not] at g
        obtain ⟨w, hw, e⟩ := g
        exact ⟨0, by decide, w, by simpa using hw, e⟩
  refine ⟨hasc, fun s => ?_⟩
  rw [poF_E]
  by_cases g : posL s 0 (words v.2.1) = [] ∧ posL s 0 (words v.2.2) = []
  · rw [if_pos g]
    refine findK_none _ fun z hz e => ?_
    obtain ⟨u, hu, rfl⟩ := List.mem_map.1 hz
    have e : u = s := e
    rw [e] at hu
    exact (hmm s).1 hu g
  · rw [if_neg g]
    exact findK_mem (fun t : TmD => t.1) lin_bytes hasc (List.mem_map_of_mem ((hmm s).2 g))

/-! ### memory -/
theorem mrg_map {K A B : Type} [LT K] [DecidableEq K] [DecidableRel (fun a b : K => a < b)] (k1 : A → K) (k2 : B → K) (g : A → B) (hk : ∀ x, k2 (g x) = k1 x) : ∀ a b : List A, (mrg k1 a b).map g = mrg k2 (a.map g) (b.map g)
  | [], b => by rw [mrg, List.map_nil, mrg]
  | x :: a, [] => by rw [mrg, List.map_nil, List.map_cons, mrg]
  | x :: a, y :: b => by
    rw [mrg, List.map_cons, List.map_cons, mrg, hk, hk]
    split
    · rw [List.map_cons, mrg_map k1 k2 g hk a (y :: b), List.map_cons]
    · split
      · rw [List.map_cons, mrg_map k1 k2 g hk a b]
      · rw [List.map_cons, mrg_map k1 k2 g hk (x :: a) b, List.map_cons]
/-- the slice's block is one of elements of this type -/
def Typed (w : World) (T : TypeId) (v : Value) : Prop := ∀ b, v.ownBlock = some b → ∃ cs fr, w.heap[b]? = some (.cells cs T fr)
theorem Typed.below {w w' : World} {T : TypeId} {v : Value} (h : Typed w T v) (hb : Below w.heap.size w w') : Typed w' T v := fun b hv => by
  obtain ⟨cs, fr, e⟩ := h b hv
  exact ⟨cs, fr, (hb.block b (Array.getElem?_eq_some_iff.1 e).1).trans e⟩
theorem Typed.of_own {w : World} {B : Nat} {T : TypeId} {sz : Nat} {v : Value} {n : Nat} {xs : List Value} (h : w.ownsRow B T sz v n xs) : Typed w T v := fun b hv => by
  rcases h.2 with ⟨rfl, _⟩ | ⟨g, cap, cur, rfl, _, hg, _⟩
  · cases hv
  · have : g = b := by simpa [Value.ownBlock] using hv
    subst this
    exact ⟨cur, _, hg⟩
theorem Typed.ne_own {w : World} {T T' : TypeId} {v v' : Value} {B : Nat} {sz : Nat} {n : Nat} {xs : List Value} (h : Typed w T v) (ho : w.ownsRow B T' sz v' n xs) (hne : T ≠ T') (b : Nat) (hb : v.ownBlock = some b) : some b ≠ v'.ownBlock := fun e => by
  obtain ⟨cs, fr, h1⟩ := h b hb
  obtain ⟨cs', fr', h2⟩ := Typed.of_own ho b e.symm
  rw [h1] at h2
  cases h2
  exact hne rfl
theorem Typed.kept_own {w w' : World} {T T' : TypeId} {v v' : Value} {B : Nat} {sz : Nat} {n : Nat} {xs : List Value} (h : Typed w T v) (ho : w.ownsRow B T' sz v' n xs) (hne : T ≠ T') (hg : w.grownBy w' v'.ownBlock) : Typed w' T v := fun b hv => by
  obtain ⟨cs, fr, e⟩ := h b hv
  exact ⟨cs, fr, (hg.block b (Array.getElem?_eq_some_iff.1 e).1 (h.ne_own ho hne b hv)).trans e⟩
/-- a slice whose elements' reading looks at no world stays while another block is written -/
theorem SliceAt.kept {α : Type} {sz : Nat} {R : World → List Value → α → Prop} (hR : ∀ w w' cs x, R w cs x → R w' cs x) {w w' : World} {v : Value} {l : List α} (h : SliceAt sz R w v l) {row : Option Nat} (hg : w.grownBy w' row) (hne : ∀ b, v.ownBlock = some b → some b ≠ row) : SliceAt sz R w' v l := by
  rcases h with h | ⟨b, off, cap, rfl, hc, hb, hel⟩
  · exact .inl h
  · refine .inr ⟨b, off, cap, rfl, hc, Nat.lt_of_lt_of_le hb hg.size, fun i hi => ?_⟩
    obtain ⟨cs, ⟨h1, h2⟩, h3⟩ := hel i hi
    refine ⟨cs, ⟨h1, fun j hj => ?_⟩, hR _ _ _ _ h3⟩
    have e : w'.heap[b]? = w.heap[b]? := hg.block b hb (hne b rfl)
    have := h2 j hj
    simp only [World.cell?, e] at this ⊢
    exact this
def IntsAt (w : World) (v : Value) (l : List Int) : Prop := SliceAt 1 intR w v l ∧ Typed w 3 v
theorem IntsAt.below {w w' : World} {v : Value} {l : List Int} (h : IntsAt w v l) (hb : Below w.heap.size w w') : IntsAt w' v l := ⟨SliceAt.stable intR_stable h.1 hb, h.2.below hb⟩
theorem IntsAt.kept_own {w w' : World} {v : Value} {l : List Int} (h : IntsAt w v l) {T' : TypeId} {v' : Value} {B : Nat} {sz : Nat} {n : Nat} {xs : List Value} (ho : w.ownsRow B T' sz v' n xs) (hne : 3 ≠ T') (hg : w.grownBy w' v'.ownBlock) : IntsAt w' v l :=
  ⟨SliceAt.kept (fun _ _ _ _ h => h) h.1 hg (h.2.ne_own ho hne), h.2.kept_own ho hne hg⟩
theorem IntsAt.of_own {w : World} {B : Nat} {v : Value} {l : List Int} (h : w.ownsRow B 3 1 v l.length (l.map (Value.int .i64))) : IntsAt w v l := ⟨slice_of_owns1 _ h (fun _ _ => rfl), Typed.of_own h⟩
abbrev PoM : Type := PoD × Value × Value
def encP (x : PoM) : List Value := [.int .i64 x.1.1, x.2.1, x.2.2]
def PoMOk (w : World) (x : PoM) : Prop := IntsAt w x.2.1 x.1.2.1 ∧ IntsAt w x.2.2 x.1.2.2
theorem PoMOk.kept_own {w w' : World} {x : PoM} (h : PoMOk w x) {T' : TypeId} {v' : Value} {B : Nat} {sz : Nat} {n : Nat} {xs : List Value} (ho : w.ownsRow B T' sz v' n xs) (hne : 3 ≠ T') (hg : w.grownBy w' v'.ownBlock) : PoMOk w' x := ⟨h.1.kept_own ho hne hg, h.2.kept_own ho hne hg⟩
theorem PoMOk.below {w w' : World} {x : PoM} (h : PoMOk w x) (hb : Below w.heap.size w w') : PoMOk w' x := ⟨h.1.below hb, h.2.below hb⟩
theorem PoMOk.one {w : World} {x : PoM} (h : PoMOk w x) : ∀ u ∈ encP x, u.oneCell' = true := by
  obtain ⟨a1, c1, e1⟩ := SliceAt.len h.1.1
  obtain ⟨a2, c2, e2⟩ := SliceAt.len h.2.1
  intro u hu
  simp only [encP, List.mem_cons, List.not_mem_nil, or_false] at hu
  rcases hu with rfl | rfl | rfl
  · rfl
  · rw [e1]; rfl
  · rw [e2]; rfl
/-- a slice of postings -/
def PoL (w : World) (v : Value) (L : List PoD) : Prop := ∃ A : List PoM, A.map (·.1) = L ∧ (RowsAt 3 w v (A.map encP) ∧ Typed w 57 v) ∧ ∀ x ∈ A, PoMOk w x
theorem PoL.kept_own {w w' : World} {v : Value} {L : List PoD} (h : PoL w v L) {T' : TypeId} {v' : Value} {B : Nat} {sz : Nat} {n : Nat} {xs : List Value} (ho : w.ownsRow B T' sz v' n xs) (hne : 3 ≠ T') (hne2 : 57 ≠ T') (hg : w.grownBy w' v'.ownBlock) : PoL w' v L := by
  obtain ⟨A, h1, h2, h3⟩ := h
  exact ⟨A, h1, ⟨SliceAt.kept (fun _ _ _ _ h => h) h2.1 hg (h2.2.ne_own ho hne2), h2.2.kept_own ho hne2 hg⟩, fun x hx => (h3 x hx).kept_own ho hne hg⟩
theorem PoL.below {w w' : World} {v : Value} {L : List PoD} (h : PoL w v L) (hb : Below w.heap.size w w') : PoL w' v L := by
  obtain ⟨A, h1, h2, h3⟩ := h
  exact ⟨A, h1, ⟨h2.1.below hb, h2.2.below hb⟩, fun x hx => (h3 x hx).below hb⟩
theorem PoL.len {w : World} {v : Value} {L : List PoD} (h : PoL w v L) : ∃ a c, v = .slice a L.length c := by
  obtain ⟨A, h1, ⟨h2, _⟩, _⟩ := h
  obtain ⟨a, c, e⟩ := SliceAt.len h2
  rw [List.length_map] at e
  exact ⟨a, c, by rw [e, ← h1, List.length_map]⟩
theorem rows_of_owns {α : Type} {sz : Nat} {w : World} {B : Nat} {e : TypeId} {v : Value} {A : List α} (f : α → List Value) (h : w.ownsRow B e sz v A.length (A.flatMap f)) (hf : ∀ x, (f x).length = sz) : RowsAt sz w v (A.map f) := by
  refine slice_of_owns (B := B) (e := e) (fun x => x) ?_ (fun x hx => ?_) (fun x hx => rfl)
  · rw [List.length_map, List.flatMap_map]
    exact h
  · obtain ⟨y, _, rfl⟩ := List.mem_map.1 hx
    exact hf y
abbrev TmM : Type := TmD × Value
def encT (x : TmM) : List Value := [.string (bs x.1.1), x.2]
def TmMOk (w : World) (x : TmM) : Prop := PoL w x.2 x.1.2
theorem TmMOk.one {w : World} {x : TmM} (h : TmMOk w x) : ∀ u ∈ encT x, u.oneCell' = true := by
  obtain ⟨a1, c1, e1⟩ := PoL.len h
  intro u hu
  simp only [encT, List.mem_cons, List.not_mem_nil, or_false] at hu
  rcases hu with rfl | rfl
  · rfl
  · rw [e1]; rfl
/-- a slice of terms -/
def TmL (w : World) (v : Value) (L : List TmD) : Prop := ∃ A : List TmM, A.map (·.1) = L ∧ (RowsAt 2 w v (A.map encT) ∧ Typed w 54 v) ∧ ∀ x ∈ A, TmMOk w x
theorem TmL.below {w w' : World} {v : Value} {L : List TmD} (h : TmL w v L) (hb : Below w.heap.size w w') : TmL w' v L := by
  obtain ⟨A, h1, h2, h3⟩ := h
  exact ⟨A, h1, ⟨h2.1.below hb, h2.2.below hb⟩, fun x hx => PoL.below (h3 x hx) hb⟩
theorem TmL.len {w : World} {v : Value} {L : List TmD} (h : TmL w v L) : ∃ a c, v = .slice a L.length c := by
  obtain ⟨A, h1, ⟨h2, _⟩, _⟩ := h
  obtain ⟨a, c, e⟩ := SliceAt.len h2
  rw [List.length_map] at e
  exact ⟨a, c, by rw [e, ← h1, List.length_map]⟩
/-- a block of none of these types -/
def RowOther (w : World) (row : Option Nat) : Prop := ∀ c, row = some c → ∃ cs T fr, w.heap[c]? = some (.cells cs T fr) ∧ T ≠ 3 ∧ T ≠ 57 ∧ T ≠ 54
theorem RowOther.of_has {w : World} {b : Nat} {cs : Array Value} {T : TypeId} (h : Has w b cs T) (h1 : T ≠ 3) (h2 : T ≠ 57) (h3 : T ≠ 54) : RowOther w (some b) := fun c hc => by
  cases hc
  exact ⟨cs, T, _, h, h1, h2, h3⟩
theorem Typed.ne_other {w : World} {T : TypeId} {v : Value} (h : Typed w T v) {row : Option Nat} (hr : RowOther w row) (hT : T = 3 ∨ T = 57 ∨ T = 54) (b : Nat) (hb : v.ownBlock = some b) : some b ≠ row := fun e => by
  obtain ⟨cs, T', fr, h1, n1, n2, n3⟩ := hr b e.symm
  obtain ⟨cs', fr', h2⟩ := h b hb
  rw [h1] at h2
  cases h2
  rcases hT with q | q | q
  · exact n1 q
  · exact n2 q
  · exact n3 q
theorem Typed.other {w w' : World} {T : TypeId} {v : Value} (h : Typed w T v) {row : Option Nat} (hr : RowOther w row) (hT : T = 3 ∨ T = 57 ∨ T = 54) (hg : w.grownBy w' row) : Typed w' T v := fun b hv => by
  obtain ⟨cs, fr, e⟩ := h b hv
  exact ⟨cs, fr, (hg.block b (Array.getElem?_eq_some_iff.1 e).1 (h.ne_other hr hT b hv)).trans e⟩
theorem IntsAt.other {w w' : World} {v : Value} {l : List Int} (h : IntsAt w v l) {row : Option Nat} (hr : RowOther w row) (hg : w.grownBy w' row) : IntsAt w' v l := ⟨SliceAt.kept (fun _ _ _ _ h => h) h.1 hg (h.2.ne_other hr (.inl rfl)), h.2.other hr (.inl rfl) hg⟩
theorem PoL.other {w w' : World} {v : Value} {L : List PoD} (h : PoL w v L) {row : Option Nat} (hr : RowOther w row) (hg : w.grownBy w' row) : PoL w' v L := by
  obtain ⟨A, h1, h2, h3⟩ := h
  exact ⟨A, h1, ⟨SliceAt.kept (fun _ _ _ _ h => h) h2.1 hg (h2.2.ne_other hr (.inr (.inl rfl))), h2.2.other hr (.inr (.inl rfl)) hg⟩, fun x hx => ⟨(h3 x hx).1.other hr hg, (h3 x hx).2.other hr hg⟩⟩
theorem TmL.other {w w' : World} {v : Value} {L : List TmD} (h : TmL w v L) {row : Option Nat} (hr : RowOther w row) (hg : w.grownBy w' row) : TmL w' v L := by
  obtain ⟨A, h1, h2, h3⟩ := h
  exact ⟨A, h1, ⟨SliceAt.kept (fun _ _ _ _ h => h) h2.1 hg (h2.2.ne_other hr (.inr (.inr rfl))), h2.2.other hr (.inr (.inr rfl)) hg⟩, fun x hx => PoL.other (h3 x hx) hr hg⟩
/-- an index -/
structure IxAt (w : World) (iv sv tv : Value) (x : IxD) : Prop where
  ids : IntsAt w iv x.ids
  sizes : IntsAt w sv x.sizes
  terms : TmL w tv x.terms
theorem IxAt.below {w w' : World} {iv sv tv : Value} {x : IxD} (h : IxAt w iv sv tv x) (hb : Below w.heap.size w w') : IxAt w' iv sv tv x := ⟨h.ids.below hb, h.sizes.below hb, h.terms.below hb⟩
/-- merging postings in memory -/
theorem mergedPoL {LA LB : List PoD} {va vb : Value} {w : World} (hA : PoL w va LA) (hB : PoL w vb LB) (h1 : LA.length ≤ 100000000) (h2 : LB.length ≤ 100000000) :
    Calls Try.prog 34 #[va, vb, .func (.func 35) #[] #[]] w fun e w' => (∃ v, e = .returned v ∧ PoL w' v (mrg (fun p : PoD => p.1) LA LB)) ∧ Below w.heap.size w w' := by
  obtain ⟨A, rfl, ⟨a2, _⟩, a3⟩ := hA
  obtain ⟨B, rfl, ⟨b2, _⟩, b3⟩ := hB
  have key : ∀ C : List PoM, (C.map fun x : PoM => ((x.1.1, x.2) : PoV)).map encPo = C.map encP := fun C => by rw [List.map_map]; rfl
  rw [List.length_map] at h1 h2
  refine (mergedPo (A.map fun x => (x.1.1, x.2)) (B.map fun x => (x.1.1, x.2)) va vb w (by rw [key]; exact a2) (by rw [key]; exact b2) (fun x hx => ?_) (fun x hx => ?_) (by rw [List.length_map]; exact h1) (by rw [List.length_map]; exact h2)).mono ?_
  · obtain ⟨y, hy, rfl⟩ := List.mem_map.1 hx
    exact (a3 y hy).one
  · obtain ⟨y, hy, rfl⟩ := List.mem_map.1 hx
    exact (b3 y hy).one
  rintro e w' ⟨⟨v, rfl, ho⟩, hb⟩
  rw [← mrg_map (fun x : PoM => x.1.1) (fun x : PoV => x.1) (fun x : PoM => ((x.1.1, x.2) : PoV)) (fun _ => rfl), List.flatMap_map, List.length_map] at ho
  refine ⟨⟨v, rfl, mrg (fun x : PoM => x.1.1) A B, mrg_map _ _ _ (fun _ => rfl) A B, ⟨rows_of_owns encP ho (fun _ => rfl), Typed.of_own ho⟩, fun x hx => ?_⟩, hb⟩
  rcases mrg_mem _ A B x hx with g | g
  · exact (a3 x g).below hb
  · exact (b3 x g).below hb
/-- merging terms in memory -/
theorem mergedTmL {LA LB : List TmD} {va vb : Value} {w : World} (hA : TmL w va LA) (hB : TmL w vb LB) (h1 : LA.length ≤ 100000000) (h2 : LB.length ≤ 100000000) :
    Calls Try.prog 38 #[va, vb, .func (.func 33) #[] #[]] w fun e w' => (∃ v, e = .returned v ∧ TmL w' v (mrg (fun t : TmD => t.1) LA LB)) ∧ Below w.heap.size w w' := by
  obtain ⟨A, rfl, ⟨a2, _⟩, a3⟩ := hA
  obtain ⟨B, rfl, ⟨b2, _⟩, b3⟩ := hB
  have key : ∀ C : List TmM, (C.map fun x : TmM => ((x.1.1, x.2) : TmV)).map encTm = C.map encT := fun C => by rw [List.map_map]; rfl
  rw [List.length_map] at h1 h2
  refine (mergedTm (A.map fun x => (x.1.1, x.2)) (B.map fun x => (x.1.1, x.2)) va vb w (by rw [key]; exact a2) (by rw [key]; exact b2) (fun x hx => ?_) (fun x hx => ?_) (by rw [List.length_map]; exact h1) (by rw [List.length_map]; exact h2)).mono ?_
  · obtain ⟨y, hy, rfl⟩ := List.mem_map.1 hx
    exact (a3 y hy).one
  · obtain ⟨y, hy, rfl⟩ := List.mem_map.1 hx
    exact (b3 y hy).one
  rintro e w' ⟨⟨v, rfl, ho⟩, hb⟩
  rw [← mrg_map (fun x : TmM => x.1.1) (fun x : TmV => x.1) (fun x : TmM => ((x.1.1, x.2) : TmV)) (fun _ => rfl), List.flatMap_map, List.length_map] at ho
  refine ⟨⟨v, rfl, mrg (fun x : TmM => x.1.1) A B, mrg_map _ _ _ (fun _ => rfl) A B, ⟨rows_of_owns encT ho (fun _ => rfl), Typed.of_own ho⟩, fun x hx => ?_⟩, hb⟩
  rcases mrg_mem _ A B x hx with g | g
  · exact PoL.below (a3 x g) hb
  · exact PoL.below (b3 x g) hb
end Go.Proofs.Ytfjcbclakgidkaa
