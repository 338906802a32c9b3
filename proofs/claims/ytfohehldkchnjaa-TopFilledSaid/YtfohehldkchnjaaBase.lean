/- Plain lemmas on worlds, cells and slices: no function of the program is named here. -/
import Derived.WalkKit
import Derived.WalkSpells
import Derived.WalkLawsBesides
import Derived.Lib.Hide
import Derived.Lib.ConvBytes
import Derived.Lib.Strings
namespace Go.Proofs.Ytfohehldkchnjaa
open Go.RowKit

theorem ret_bool {a b : Bool} (h : a = true ↔ b = true) : Ending.returned (.bool a) = .returned (.bool b) := by rw [Bool.eq_iff_iff.2 h]
theorem ret_int {k : IntKind} {a b : Int} (h : a = b) : Ending.returned (.int k a) = .returned (.int k b) := by rw [h]

/-! ### cells behind a store, behind a new block -/
theorem set_same {w : World} {a : Addr} {u v : Value} (h : w.cell? a = some u) : (w.setCell a v).cell? a = some v := World.cell?_setCell_same w a v h
theorem set_ne {w : World} {a b : Addr} {v : Value} (h : a ≠ b) : (w.setCell a v).cell? b = w.cell? b := World.cell?_setCell_other w a b v h
theorem set_off {w : World} {b i j : Nat} {v : Value} (h : i ≠ j) : (w.setCell ⟨b, i, none⟩ v).cell? ⟨b, j, none⟩ = w.cell? ⟨b, j, none⟩ := set_ne (fun e => h (congrArg Addr.off e))
theorem set_block {w : World} {b c i j : Nat} {v : Value} (h : b ≠ c) : (w.setCell ⟨b, i, none⟩ v).cell? ⟨c, j, none⟩ = w.cell? ⟨c, j, none⟩ := set_ne (fun e => h (congrArg Addr.block e))

theorem below_cell {B : Nat} {w w' : World} (h : Below B w w') {b o : Nat} (hb : b < B) : w'.cell? ⟨b, o, none⟩ = w.cell? ⟨b, o, none⟩ := h.cell (p := ⟨b, o, none⟩) hb
theorem below_frozen {B : Nat} {w w' : World} (h : Below B w w') {b o : Nat} (hb : b < B) : w'.frozen? ⟨b, o, none⟩ = w.frozen? ⟨b, o, none⟩ := h.frozen (p := ⟨b, o, none⟩) hb

/-- all that was there reads as it did: two rules for the walk -/
theorem bcell {W w1 : World} (hb : Below W.heap.size W w1) : (∀ b o, b < W.heap.size → w1.cell? ⟨b, o, none⟩ = W.cell? ⟨b, o, none⟩) ∧ (∀ b o, b < W.heap.size → w1.frozen? ⟨b, o, none⟩ = W.frozen? ⟨b, o, none⟩) :=
  ⟨fun _ _ h => below_cell hb h, fun _ _ h => below_frozen hb h⟩
theorem drewN_below {B : Nat} {a w : World} (h : Below B a w) (n : Nat) : Below B a (w.drewN n) := below_drewN h n

theorem below_bytesWorld (w : World) (e : TypeId) (s : ByteArray) : Below w.heap.size w (Lib.bytesWorld w e s) :=
  ⟨rfl, rfl, rfl, by simp [Lib.bytesWorld_size], fun k hk => Lib.bytesWorld_at_old w e s k hk⟩
theorem bytesWorld_fz (w : World) (e : TypeId) (s : ByteArray) (j : Nat) (hj : j < s.size) : (Lib.bytesWorld w e s).frozen? ⟨w.heap.size, j, none⟩ = false := by
  have h : j < (Lib.bytesCells w e s).size := by simp [Lib.bytesCells]; exact Nat.lt_of_lt_of_le (by simpa using hj) (Nat.le_add_right _ _)
  simp only [World.frozen?, Lib.bytesWorld_at_new]
  simp
  omega

/-! ### A slice value that reads as a list: element by element, each of 'sz' cells. -/
/-- The cells of element i lie at off + i * sz, read as 'R wants'. -/
def ElemAt (w : World) (b off sz i : Nat) (cs : List Value) : Prop := cs.length = sz ∧ ∀ j (h : j < cs.length), w.cell? ⟨b, off + i * sz + j, none⟩ = some cs[j]

/-- 'v' is a slice of as many elements as l has; element i reads as l[i] by R. -/
def SliceAt {α : Type} (sz : Nat) (R : World → List Value → α → Prop) (w : World) (v : Value) (l : List α) : Prop :=
  (∃ a cap, v = .slice a 0 cap ∧ l = []) ∨
  ∃ b off cap, v = .slice (some ⟨b, off, none⟩) l.length cap ∧ l.length ≤ cap ∧ b < w.heap.size ∧ ∀ i (h : i < l.length), ∃ cs, ElemAt w b off sz i cs ∧ R w cs l[i]

/-- A reading that only looks below the heap's size stays. -/
def Stable {α : Type} (R : World → List Value → α → Prop) : Prop := ∀ w w' cs x, R w cs x → Below w.heap.size w w' → R w' cs x

theorem SliceAt.stable {α : Type} {sz : Nat} {R : World → List Value → α → Prop} (hR : Stable R) {w w' : World} {v : Value} {l : List α}
    (h : SliceAt sz R w v l) (hb : Below w.heap.size w w') : SliceAt sz R w' v l := by
  rcases h with h | ⟨b, off, cap, rfl, hcp, hbl, h⟩
  · exact .inl h
  · refine .inr ⟨b, off, cap, rfl, hcp, Nat.lt_of_lt_of_le hbl hb.size, fun i hi => ?_⟩
    obtain ⟨cs, ⟨hl, hc⟩, hr⟩ := h i hi
    exact ⟨cs, ⟨hl, fun j hj => by rw [below_cell hb hbl]; exact hc j hj⟩, hR _ _ _ _ hr hb⟩

def intR (_ : World) (cs : List Value) (n : Int) : Prop := cs = [.int .i64 n]
def strR (_ : World) (cs : List Value) (s : ByteArray) : Prop := cs = [.string s]
theorem intR_stable : Stable intR := fun _ _ _ _ h _ => h
theorem strR_stable : Stable strR := fun _ _ _ _ h _ => h

theorem SliceAt.len {α : Type} {sz : Nat} {R : World → List Value → α → Prop} {w : World} {v : Value} {l : List α} (h : SliceAt sz R w v l) :
    ∃ a cap, v = .slice a l.length cap := by
  rcases h with ⟨a, cap, rfl, rfl⟩ | ⟨b, off, cap, rfl, _⟩
  · exact ⟨a, cap, rfl⟩
  · exact ⟨_, cap, rfl⟩

/-- where there is an element, the slice has an address -/
theorem SliceAt.at {α : Type} {sz : Nat} {R : World → List Value → α → Prop} {w : World} {v : Value} {l : List α} (h : SliceAt sz R w v l) (hl : 0 < l.length) :
    ∃ b off cap, v = .slice (some ⟨b, off, none⟩) l.length cap ∧ l.length ≤ cap ∧ b < w.heap.size ∧ ∀ i (h : i < l.length), ∃ cs, ElemAt w b off sz i cs ∧ R w cs l[i] := by
  rcases h with ⟨a, cap, rfl, rfl⟩ | h
  · simp at hl
  · exact h

/-- a slice of strings: cell by cell -/
theorem strs_cell {w : World} {b off : Nat} {l : List ByteArray} (h : ∀ i (h : i < l.length), ∃ cs, ElemAt w b off 1 i cs ∧ strR w cs l[i]) :
    ∀ (j : Nat) x, l[j]? = some x → w.cell? ⟨b, off + j, none⟩ = some (.string x) := by
  intro j x hj
  obtain ⟨hj', rfl⟩ := List.getElem?_eq_some_iff.1 hj
  obtain ⟨cs, ⟨_, hc⟩, hr⟩ := h j hj'
  cases hr
  simpa using hc 0 (by simp)
theorem ints_cell {w : World} {b off : Nat} {l : List Int} (h : ∀ i (h : i < l.length), ∃ cs, ElemAt w b off 1 i cs ∧ intR w cs l[i]) :
    ∀ (j : Nat) x, l[j]? = some x → w.cell? ⟨b, off + j, none⟩ = some (.int .i64 x) := by
  intro j x hj
  obtain ⟨hj', rfl⟩ := List.getElem?_eq_some_iff.1 hj
  obtain ⟨cs, ⟨_, hc⟩, hr⟩ := h j hj'
  cases hr
  simpa using hc 0 (by simp)

/-- what a call has gathered by append ('ownsRow') reads as a slice: one cell each -/
theorem slice_of_owns1 {α : Type} {R : World → List Value → α → Prop} {w : World} {B : Nat} {e : TypeId} {v : Value} {l : List α} (f : α → Value)
    (h : w.ownsRow B e 1 v l.length (l.map f)) (hR : ∀ x, x ∈ l → R w [f x] x) : SliceAt 1 R w v l := by
  rcases h.2 with ⟨rfl, h0⟩ | ⟨g, cap, cur, rfl, _, hg, hcp, _⟩
  · exact .inl ⟨none, 0, rfl, List.eq_nil_of_length_eq_zero h0⟩
  · refine .inr ⟨g, 0, cap, rfl, hcp, (Array.getElem?_eq_some_iff.1 hg).1, fun i hi => ⟨[f l[i]], ⟨rfl, fun j hj => ?_⟩, hR _ (List.getElem_mem hi)⟩⟩
    have hj0 : j = 0 := by simpa using hj
    subst hj0
    have := h.cells (g := g) rfl i (f l[i]) (by simp [hi])
    have e : (⟨g, 0, none⟩ : Addr).add i = ⟨g, 0 + i * 1 + 0, none⟩ := by unfold Addr.add; split <;> simp_all
    rw [e] at this
    exact this

/-- What a call owns stays while only blocks from the heap's size on are turned. -/
theorem owns_below {w w' : World} {B : Nat} {e : TypeId} {sz : Nat} {v : Value} {n : Nat} {xs : List Value} (h : w.ownsRow B e sz v n xs) (hb : Below w.heap.size w w') : w'.ownsRow B e sz v n xs :=
  h.kept (row := none) ⟨hb.os, hb.tape, hb.output, hb.size, fun k hk _ => hb.block k hk⟩ (by cases v.ownBlock <;> simp)

theorem owns_slice {w : World} {B : Nat} {e : TypeId} {sz : Nat} {v : Value} {n : Nat} {xs : List Value} (h : w.ownsRow B e sz v n xs) : ∃ a c, v = .slice a n c := by
  rcases h.2 with ⟨rfl, rfl⟩ | ⟨g, cap, cur, rfl, _⟩
  · exact ⟨none, 0, rfl⟩
  · exact ⟨_, cap, rfl⟩

/-- 'append(out, x)' of one element of 'size' cells: the element has just been laid in a block of its own. -/
theorem append_one {P : Program} {ops : Array Oper} {rest : List Oper} {o : Oper} {a : Act} {Q : Exit → Act → World → Prop} {w1 : World} (hgd : o.guard = none) (s x : Operand) (t : TypeId)
    (ho : o.op = .call { callee := .builtin .append, args := #[s, x], argTypes := #[t, t] })
    (B : Nat) (e : TypeId) (z : Value) (size bytes : Nat) (ht : P.underlying t = some (.slice e)) (hi : (P.info? e).map (fun i => (i.zero, i.size, i.bytes)) = some (some z, size, bytes))
    (hzs : z.cells.size = size) (hsz : 0 < size)
    (W w : World) (v : Value) (n : Nat) (xs : List Value) (hs : a.eval s = v) (hown : w.ownsRow B e size v n xs)
    (news : List Value) (hx : a.eval x = .slice (some ⟨w.heap.size, 0, none⟩) 1 1) (hw1 : w1 = w.alloc (.cells news.toArray e)) (hl : news.length = size) (h1 : ∀ u ∈ news, u.oneCell' = true)
    (hbytes : (n + 1) * bytes ≤ 140737488355328) (hn : n < 140737488355328) (hB : B ≤ w.heap.size) (hbel : Below B W w)
    (h : ∀ v' w', w'.ownsRow B e size v' (n + 1) (xs ++ news) → Below B W w' → w.grownBy w' v.ownBlock → (v' = .slice none 0 0 → False) → wpList P ops Q rest (a.put o.dst v') w') :
    wpList P ops Q (o :: rest) a w1 := by
  subst hw1
  obtain ⟨i0, hi0, hz0, hz1, hz2⟩ := info_parts hi
  refine wpList_append_own _ hgd s x t ho B e i0 z size bytes ht hi0 hz0 hz1 hz2 hzs hsz v n xs hs (hown.alloc _) ⟨w.heap.size, 0, none⟩ 1 1 news hx (by omega) ?_ h1 (by unfold maxLen; omega) hbytes (by simp; omega) ?_
  · intro j u hj
    have e : (⟨w.heap.size, 0, none⟩ : Addr).add j = ⟨w.heap.size, j, none⟩ := by unfold Addr.add; split <;> simp_all
    rw [e, World.cell?_alloc_at _ _ _ _ rfl]
    simpa using hj
  · intro v' w' h2 hg h3
    refine h v' w' h2 ?_ ?_ (fun hv => by have := (h3.1 hv).2; omega)
    · refine (hbel.alloc hB _).grown hg (by simp; omega) ?_
      intro k hk
      exact (hown.lt k hk).1
    · exact ⟨hg.os, hg.tape, hg.output, Nat.le_trans (by simp) hg.size, fun k hk hne => (hg.block k (by simp; omega) hne).trans (Below.heap_alloc _ _ _ hk)⟩

/-! ### A block known whole -/
def Has (w : World) (b : Nat) (cs : Array Value) (t : TypeId) : Prop := w.heap[b]? = some (.cells cs t (0, 0))
theorem Has.lt {w : World} {b : Nat} {cs : Array Value} {t : TypeId} (h : Has w b cs t) : b < w.heap.size := (Array.getElem?_eq_some_iff.1 h).1
theorem Has.cell {w : World} {b : Nat} {cs : Array Value} {t : TypeId} (h : Has w b cs t) (i : Nat) : w.cell? ⟨b, i, none⟩ = cs[i]? := by
  have h' : w.heap[b]? = some (.cells cs t (0, 0)) := h
  simp [World.cell?, h']
theorem Has.fz {w : World} {b : Nat} {cs : Array Value} {t : TypeId} (h : Has w b cs t) (i : Nat) : w.frozen? ⟨b, i, none⟩ = false := by
  have h' : w.heap[b]? = some (.cells cs t (0, 0)) := h
  simp [World.frozen?, h']
theorem Has.new (w : World) (cs : Array Value) (t : TypeId) : Has (w.alloc (.cells cs t)) w.heap.size cs t := heap_alloc_new w _
theorem Has.kept {w w' : World} {b : Nat} {cs : Array Value} {t : TypeId} {row : Option Nat} (h : Has w b cs t) (hg : w.grownBy w' row) (hne : some b ≠ row) : Has w' b cs t :=
  (hg.block b h.lt hne).trans h
theorem Has.alloc {w : World} {b : Nat} {cs : Array Value} {t : TypeId} (h : Has w b cs t) (o : Obj) : Has (w.alloc o) b cs t := (Below.heap_alloc _ _ _ h.lt).trans h
theorem Has.below {w w' : World} {b : Nat} {cs : Array Value} {t : TypeId} {B : Nat} (h : Has w b cs t) (hb : Below B w w') (hB : b < B) : Has w' b cs t := (hb.block b hB).trans h
theorem Has.set {w : World} {b : Nat} {cs : Array Value} {t : TypeId} (h : Has w b cs t) (i : Nat) (v : Value) : Has (w.setCell ⟨b, i, none⟩ v) b (cs.setIfInBounds i v) t := by
  have h' : w.heap[b]? = some (.cells cs t (0, 0)) := h
  simp [Has, World.setCell, Array.getElem?_modify, h']
theorem Has.set_other {w : World} {b c : Nat} {cs : Array Value} {t : TypeId} (h : Has w b cs t) (i : Nat) (v : Value) (hne : b ≠ c) : Has (w.setCell ⟨c, i, none⟩ v) b cs t :=
  (Below.heap_setCell _ _ _ _ hne).trans h
theorem Has.drewN {w : World} {b : Nat} {cs : Array Value} {t : TypeId} (h : Has w b cs t) (n : Nat) : Has (w.drewN n) b cs t := h

theorem grownBy_refl (w : World) (row : Option Nat) : w.grownBy w row := ⟨rfl, rfl, rfl, Nat.le_refl _, fun _ _ _ => rfl⟩
theorem grownBy_trans {a b c : World} {row : Option Nat} (h : a.grownBy b row) (k : b.grownBy c row) : a.grownBy c row :=
  ⟨k.os.trans h.os, k.tape.trans h.tape, k.output.trans h.output, Nat.le_trans h.size k.size, fun i hi hn => (k.block i (Nat.lt_of_lt_of_le hi h.size) hn).trans (h.block i hi hn)⟩
theorem grownBy_set (w : World) (b i : Nat) (v : Value) : w.grownBy (w.setCell ⟨b, i, none⟩ v) (some b) :=
  ⟨rfl, rfl, rfl, by simp [World.setCell], fun k _ hk => Below.heap_setCell _ _ _ _ (fun e => hk (by simp [e]))⟩
theorem grownBy_drewN {a w : World} {row : Option Nat} (h : a.grownBy w row) (n : Nat) : a.grownBy (w.drewN n) row := ⟨h.os, h.tape, h.output, h.size, h.block⟩
theorem grownBy_of_below {w w' : World} (h : Below w.heap.size w w') (row : Option Nat) : w.grownBy w' row := ⟨h.os, h.tape, h.output, h.size, fun k hk _ => h.block k hk⟩
theorem below_grown {B : Nat} {a w w' : World} {row : Nat} (h : Below B a w) (hg : w.grownBy w' (some row)) (hB : B ≤ w.heap.size) (hr : B ≤ row) : Below B a w' :=
  h.grown hg hB (fun k hk => by cases hk; exact hr)

theorem grownBy_setc {w X : World} {b c i : Nat} {v : Value} (h : w.grownBy X (some b)) (hc : w.heap.size ≤ c ∨ c = b) : w.grownBy (X.setCell ⟨c, i, none⟩ v) (some b) :=
  ⟨h.os, h.tape, h.output, by rw [World.size_setCell]; exact h.size, fun k hk hn => by
    have hne : k ≠ c := by
      intro e
      subst e
      rcases hc with hc | hc
      · omega
      · exact hn (by rw [hc])
    rw [Below.heap_setCell _ _ _ _ hne]
    exact h.block k hk hn⟩
theorem grownBy_alloc' {w X : World} {row : Option Nat} (h : w.grownBy X row) (o : Obj) : w.grownBy (X.alloc o) row :=
  ⟨h.os, h.tape, h.output, by rw [World.size_alloc]; exact Nat.le_succ_of_le h.size, fun k hk hn => (Below.heap_alloc _ _ _ (Nat.lt_of_lt_of_le hk h.size)).trans (h.block k hk hn)⟩
theorem grownBy_weaken {a w X : World} {row : Option Nat} (h : a.grownBy w row) (k : w.grownBy X row) : a.grownBy X row := grownBy_trans h k
theorem grownBy_below {w X Y : World} {row : Option Nat} {B : Nat} (h : w.grownBy X row) (hb : Below B X Y) (hB : w.heap.size ≤ B) : w.grownBy Y row :=
  ⟨hb.os.trans h.os, hb.tape.trans h.tape, hb.output.trans h.output, Nat.le_trans h.size hb.size, fun k hk hn => (hb.block k (by omega)).trans (h.block k hk hn)⟩
theorem grownBy_drew' {w X : World} {row : Option Nat} (h : w.grownBy X row) : w.grownBy X.drew row := ⟨h.os, h.tape, h.output, h.size, h.block⟩
theorem owns_base {w : World} {B B' : Nat} {e : TypeId} {sz : Nat} {v : Value} {n : Nat} {xs : List Value} (h : w.ownsRow B e sz v n xs) (hB : B' ≤ B) : w.ownsRow B' e sz v n xs := by
  refine ⟨h.1, ?_⟩
  rcases h.2 with h2 | ⟨g, cap, cur, hv, hg, r⟩
  · exact .inl h2
  · exact .inr ⟨g, cap, cur, hv, by omega, r⟩
theorem owns_set {w : World} {B : Nat} {e : TypeId} {sz : Nat} {v : Value} {n : Nat} {xs : List Value} (h : w.ownsRow B e sz v n xs) {c i : Nat} {u : Value} (hc : c < B) : (w.setCell ⟨c, i, none⟩ u).ownsRow B e sz v n xs :=
  ownsRow_setCell_below h hc u

/-! ### Blocks of different element types are different blocks -/
theorem Has.kept_own {w w' : World} {b : Nat} {cs : Array Value} {t : TypeId} {B : Nat} {e : TypeId} {sz : Nat} {v : Value} {n : Nat} {xs : List Value} (h : Has w b cs t)
    (ho : w.ownsRow B e sz v n xs) (hte : t ≠ e) (hg : w.grownBy w' v.ownBlock) : Has w' b cs t := by
  refine h.kept hg ?_
  intro e1
  rcases ho.2 with ⟨rfl, _⟩ | ⟨g, cap, cur, rfl, _, hgg, _⟩
  · cases e1
  · have e2 : b = g := by simpa [Value.ownBlock] using e1
    subst e2
    have h' : w.heap[b]? = some (.cells cs t (0, 0)) := h
    rw [h'] at hgg
    cases hgg
    exact hte rfl
theorem owns_kept_own {w w' : World} {B B' : Nat} {e e' : TypeId} {sz sz' : Nat} {v v' : Value} {n n' : Nat} {xs xs' : List Value} (h : w.ownsRow B' e' sz' v' n' xs')
    (ho : w.ownsRow B e sz v n xs) (hte : e' ≠ e) (hg : w.grownBy w' v.ownBlock) : w'.ownsRow B' e' sz' v' n' xs' := by
  refine h.kept hg ?_
  rcases h.2 with ⟨rfl, _⟩ | ⟨g', cap', cur', rfl, _, hgg', _⟩
  · exact .inl rfl
  · refine .inr ?_
    rcases ho.2 with ⟨rfl, _⟩ | ⟨g, cap, cur, rfl, _, hgg, _⟩
    · simp [Value.ownBlock]
    · simp only [Value.ownBlock, ne_eq, Option.some.injEq]
      rintro rfl
      rw [hgg] at hgg'
      cases hgg'
      exact hte rfl
theorem owns_kept_has {w w' : World} {b : Nat} {cs : Array Value} {t : TypeId} {B : Nat} {e : TypeId} {sz : Nat} {v : Value} {n : Nat} {xs : List Value} (h : w.ownsRow B e sz v n xs)
    (hb : Has w b cs t) (hte : t ≠ e) (hg : w.grownBy w' (some b)) : w'.ownsRow B e sz v n xs := by
  refine h.kept hg ?_
  rcases h.2 with ⟨rfl, _⟩ | ⟨g, cap, cur, rfl, _, hgg, _⟩
  · exact .inl rfl
  · refine .inr ?_
    simp only [Value.ownBlock, ne_eq, Option.some.injEq]
    rintro rfl
    have h' : w.heap[g]? = some (.cells cs t (0, 0)) := hb
    rw [h'] at hgg
    cases hgg
    exact hte rfl
theorem grownBy_set' (w : World) (b i : Nat) (v : Value) : w.grownBy (w.setCell ⟨b, i, none⟩ v) (some b) := grownBy_set w b i v

/-- elements of 'sz' cells each -/
theorem flatMap_at {α : Type} (f : α → List Value) (sz : Nat) : ∀ (l : List α), (∀ x ∈ l, (f x).length = sz) → ∀ (i j : Nat) (hi : i < l.length), j < sz → (l.flatMap f)[i * sz + j]? = (f l[i])[j]?
  | [], _, i, j, hi, _ => by simp at hi
  | x :: l, h, 0, j, _, hj => by
    have hx := h x List.mem_cons_self
    rw [List.flatMap_cons, List.getElem?_append_left (by omega)]
    simp
  | x :: l, h, i + 1, j, hi, hj => by
    have hx := h x List.mem_cons_self
    rw [List.flatMap_cons, List.getElem?_append_right (by rw [hx, Nat.succ_mul]; omega), hx, show (i + 1) * sz + j - sz = i * sz + j from by rw [Nat.succ_mul]; omega]
    rw [flatMap_at f sz l (fun y hy => h y (List.mem_cons_of_mem _ hy)) i j (by simpa using hi) hj]
    simp
theorem slice_of_owns {α : Type} {R : World → List Value → α → Prop} {w : World} {B : Nat} {e : TypeId} {v : Value} {l : List α} {sz : Nat} (f : α → List Value)
    (h : w.ownsRow B e sz v l.length (l.flatMap f)) (hf : ∀ x ∈ l, (f x).length = sz) (hR : ∀ x ∈ l, R w (f x) x) : SliceAt sz R w v l := by
  rcases h.2 with ⟨rfl, h0⟩ | ⟨g, cap, cur, rfl, _, hg, hcp, _⟩
  · exact .inl ⟨none, 0, rfl, List.eq_nil_of_length_eq_zero h0⟩
  · refine .inr ⟨g, 0, cap, rfl, hcp, (Array.getElem?_eq_some_iff.1 hg).1, fun i hi => ⟨f l[i], ⟨hf _ (List.getElem_mem hi), fun j hj => ?_⟩, hR _ (List.getElem_mem hi)⟩⟩
    have hj' : j < sz := by rw [← hf _ (List.getElem_mem hi)]; exact hj
    have := h.cells (g := g) rfl (i * sz + j) (f l[i])[j] (by rw [flatMap_at f sz l hf i j hi hj', List.getElem?_eq_getElem hj])
    have e : (⟨g, 0, none⟩ : Addr).add (i * sz + j) = ⟨g, 0 + i * sz + j, none⟩ := by
      unfold Addr.add
      split
      · congr 1; omega
      · congr 1; simp only [Nat.zero_add]
    rw [e] at this
    exact this

theorem append_one_at {P : Program} {ops : Array Oper} {rest : List Oper} {o : Oper} {a : Act} {Q : Exit → Act → World → Prop} {w1 : World} (hgd : o.guard = none) (s x : Operand) (t : TypeId)
    (ho : o.op = .call { callee := .builtin .append, args := #[s, x], argTypes := #[t, t] })
    (B : Nat) (e : TypeId) (z : Value) (size bytes : Nat) (ht : P.underlying t = some (.slice e)) (hi : (P.info? e).map (fun i => (i.zero, i.size, i.bytes)) = some (some z, size, bytes))
    (hzs : z.cells.size = size) (hsz : 0 < size)
    (W w : World) (v : Value) (n : Nat) (xs : List Value) (hs : a.eval s = v) (hown : w.ownsRow B e size v n xs)
    (g : Nat) (hg : g = w.heap.size) (news : List Value) (hx : a.eval x = .slice (some ⟨g, 0, none⟩) 1 1) (hw1 : w1 = w.alloc (.cells news.toArray e)) (hl : news.length = size) (h1 : ∀ u ∈ news, u.oneCell' = true)
    (hbytes : (n + 1) * bytes ≤ 140737488355328) (hn : n < 140737488355328) (hB : B ≤ w.heap.size) (hbel : Below B W w)
    (h : ∀ v' w', w'.ownsRow B e size v' (n + 1) (xs ++ news) → Below B W w' → w.grownBy w' v.ownBlock → (v' = .slice none 0 0 → False) → wpList P ops Q rest (a.put o.dst v') w') :
    wpList P ops Q (o :: rest) a w1 := by
  subst hg
  exact append_one hgd s x t ho B e z size bytes ht hi hzs hsz W w v n xs hs hown news hx hw1 hl h1 hbytes hn hB hbel h

end Go.Proofs.Ytfohehldkchnjaa
