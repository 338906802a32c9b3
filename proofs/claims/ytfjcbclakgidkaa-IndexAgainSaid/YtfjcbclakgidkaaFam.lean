/- Families of rows that a call owns: appending to one of them keeps the others. No program in sight. -/
import Derived.Test.YtfjcbclakgidkaaBase
import Derived.Deep.AppendLies
namespace Go.Proofs.Ytfjcbclakgidkaa
open Go.RowKit

/-- the new slice lies where the old one lay, or in a new block -/
def Fresh (w : World) (v v' : Value) : Prop := v'.ownBlock = v.ownBlock ∨ ∃ k, v'.ownBlock = some k ∧ w.heap.size ≤ k
/-- two slices that do not share a block -/
def NE (a b : Value) : Prop := a.ownBlock = none ∨ b.ownBlock = none ∨ a.ownBlock ≠ b.ownBlock
theorem NE.symm {a b : Value} (h : NE a b) : NE b a := by
  rcases h with h | h | h
  · exact .inr (.inl h)
  · exact .inl h
  · exact .inr (.inr (Ne.symm h))
theorem NE.far {a b : Value} (h : NE a b) : b.ownBlock = none ∨ b.ownBlock ≠ a.ownBlock := by
  rcases h with h | h | h
  · cases hb : b.ownBlock with
    | none => exact .inl rfl
    | some k => exact .inr (by rw [h]; simp)
  · exact .inl h
  · exact .inr (Ne.symm h)
theorem NE.fresh {w : World} {B : Nat} {T : TypeId} {sz : Nat} {a b a' : Value} {n : Nat} {xs : List Value} (h : NE a b) (hb : w.ownsRow B T sz b n xs) (hf : Fresh w a a') : NE a' b := by
  rcases hf with hf | ⟨k, hk, hw⟩
  · unfold NE; rw [hf]; exact h
  · cases hb' : b.ownBlock with
    | none => exact .inr (.inl hb')
    | some j =>
      refine .inr (.inr ?_)
      have := (hb.lt j hb').2
      rw [hk, hb']
      simp only [ne_eq, Option.some.injEq]
      omega
theorem NE.nil (b : Value) : NE (.slice none 0 0) b := .inl rfl

/-- 'append(out, x)' of one element, and where it lies -/
theorem append_two {P : Program} {ops : Array Oper} {rest : List Oper} {o : Oper} {a : Act} {Q : Exit → Act → World → Prop} {w1 : World} (hgd : o.guard = none) (s x : Operand) (t : TypeId)
    (ho : o.op = .call { callee := .builtin .append, args := #[s, x], argTypes := #[t, t] })
    (B : Nat) (e : TypeId) (z : Value) (size bytes : Nat) (ht : P.underlying t = some (.slice e)) (hi : (P.info? e).map (fun i => (i.zero, i.size, i.bytes)) = some (some z, size, bytes))
    (hzs : z.cells.size = size) (hsz : 0 < size)
    (W w : World) (v : Value) (n : Nat) (xs : List Value) (hs : a.eval s = v) (hown : w.ownsRow B e size v n xs)
    (g : Nat) (hg : g = w.heap.size) (news : List Value) (hx : a.eval x = .slice (some ⟨g, 0, none⟩) 1 1) (hw1 : w1 = w.alloc (.cells news.toArray e)) (hl : news.length = size) (h1 : ∀ u ∈ news, u.oneCell' = true)
    (hbytes : (n + 1) * bytes ≤ 140737488355328) (hn : n < 140737488355328) (hB : B ≤ w.heap.size) (hbel : Below B W w)
    (h : ∀ v' w', w'.ownsRow B e size v' (n + 1) (xs ++ news) → Below B W w' → w.grownBy w' v.ownBlock → Fresh w v v' → (∃ g' c', v' = .slice (some ⟨g', 0, none⟩) (n + 1) c') → wpList P ops Q rest (a.put o.dst v') w') :
    wpList P ops Q (o :: rest) a w1 := by
  subst hw1
  subst hg
  obtain ⟨i0, hi0, hz0, hz1, hz2⟩ := info_parts hi
  refine wpList_append_lies _ hgd s x t ho B e i0 z size bytes ht hi0 hz0 hz1 hz2 hzs hsz v n xs hs (hown.alloc _) ⟨w.heap.size, 0, none⟩ 1 1 news hx (by omega) ?_ h1 (by omega) (by unfold maxLen; omega) hbytes (by simp; omega) (w.heap.size + 1) (by simp) ?_
  · intro j u hj
    have e : (⟨w.heap.size, 0, none⟩ : Addr).add j = ⟨w.heap.size, j, none⟩ := by unfold Addr.add; split <;> simp_all
    rw [e, World.cell?_alloc_at _ _ _ _ rfl]
    simpa using hj
  · intro g cap w' h2 hg hat hlt
    refine h _ w' h2 ?_ ?_ ?_ ⟨g, cap, rfl⟩
    · refine (hbel.alloc hB _).grown hg (by simp; omega) ?_
      intro k hk
      exact (hown.lt k hk).1
    · exact ⟨hg.os, hg.tape, hg.output, Nat.le_trans (by simp) hg.size, fun k hk hne => (hg.block k (by simp; omega) hne).trans (Below.heap_alloc _ _ _ hk)⟩
    · rcases hat with h | h
      · exact .inl h.symm
      · exact .inr ⟨g, rfl, by omega⟩

/-- a function turned at one place -/
def updV {α : Type} (f : Nat → α) (q : Nat) (x : α) : Nat → α := fun p => if p = q then x else f p
theorem updV_at {α : Type} (f : Nat → α) (q : Nat) (x : α) : updV f q x q = x := if_pos rfl
theorem updV_ne {α : Type} (f : Nat → α) {p q : Nat} (x : α) (h : p ≠ q) : updV f q x p = f p := if_neg h
theorem map_updV {α : Type} (f : Nat → α) (m q : Nat) (x : α) (_hq : q < m) : ((List.range m).map f).set q x = (List.range m).map (updV f q x) := by
  apply List.ext_getElem
  · simp
  · intro i h1 h2
    by_cases e : i = q
    · subst e; simp [updV_at]
    · rw [List.getElem_set_ne (fun g => e g.symm)]
      simp [updV_ne f x e]

/-- m rows of elements of one type, no two in one block -/
structure Rows (w : World) (B : Nat) (T : TypeId) (sz m : Nat) (V : Nat → Value) (N : Nat → Nat) (X : Nat → List Value) : Prop where
  own : ∀ p, p < m → w.ownsRow B T sz (V p) (N p) (X p)
  ne : ∀ p q, p < m → q < m → p ≠ q → NE (V p) (V q)
theorem Rows.kept {w w' : World} {B : Nat} {T : TypeId} {sz m : Nat} {V : Nat → Value} {N : Nat → Nat} {X : Nat → List Value} {row : Option Nat} (h : Rows w B T sz m V N X) (hg : w.grownBy w' row)
    (hne : ∀ p, p < m → (V p).ownBlock = none ∨ (V p).ownBlock ≠ row) : Rows w' B T sz m V N X :=
  ⟨fun p hp => (h.own p hp).kept hg (hne p hp), h.ne⟩
theorem Rows.below {w w' : World} {B : Nat} {T : TypeId} {sz m : Nat} {V : Nat → Value} {N : Nat → Nat} {X : Nat → List Value} (h : Rows w B T sz m V N X) (hb : Below w.heap.size w w') : Rows w' B T sz m V N X :=
  ⟨fun p hp => owns_below (h.own p hp) hb, h.ne⟩
theorem Rows.kept_has {w w' : World} {B : Nat} {T : TypeId} {sz m : Nat} {V : Nat → Value} {N : Nat → Nat} {X : Nat → List Value} (h : Rows w B T sz m V N X) {b : Nat} {cs : Array Value} {t : TypeId} (hb : Has w b cs t) (hte : t ≠ T) (hg : w.grownBy w' (some b)) : Rows w' B T sz m V N X :=
  ⟨fun p hp => owns_kept_has (h.own p hp) hb hte hg, h.ne⟩
theorem Rows.kept_own {w w' : World} {B B' : Nat} {T e : TypeId} {sz sz' m : Nat} {V : Nat → Value} {N : Nat → Nat} {X : Nat → List Value} (h : Rows w B T sz m V N X) {v : Value} {n : Nat} {xs : List Value} (ho : w.ownsRow B' e sz' v n xs) (hte : T ≠ e)
    (hg : w.grownBy w' v.ownBlock) : Rows w' B T sz m V N X :=
  ⟨fun p hp => owns_kept_own (h.own p hp) ho hte hg, h.ne⟩
theorem Rows.append {w w' : World} {B : Nat} {T : TypeId} {sz m : Nat} {V : Nat → Value} {N : Nat → Nat} {X : Nat → List Value} (h : Rows w B T sz m V N X) {q : Nat} (hq : q < m) {v' : Value} {n' : Nat} {xs' : List Value}
    (ho : w'.ownsRow B T sz v' n' xs') (hg : w.grownBy w' (V q).ownBlock) (hf : Fresh w (V q) v') : Rows w' B T sz m (updV V q v') (updV N q n') (updV X q xs') := by
  refine ⟨fun p hp => ?_, fun p r hp hr hne => ?_⟩
  · by_cases e : p = q
    · subst e
      rw [updV_at, updV_at, updV_at]
      exact ho
    · rw [updV_ne _ _ e, updV_ne _ _ e, updV_ne _ _ e]
      exact (h.own p hp).kept hg (h.ne q p hq hp (Ne.symm e)).far
  · by_cases e : p = q
    · subst e
      rw [updV_at, updV_ne _ _ (Ne.symm hne)]
      exact (h.ne p r hp hr hne).fresh (h.own r hr) hf
    · rw [updV_ne _ _ e]
      by_cases e2 : r = q
      · subst e2
        rw [updV_at]
        exact ((h.ne r p hr hp (Ne.symm hne)).fresh (h.own p hp) hf).symm
      · rw [updV_ne _ _ e2]
        exact h.ne p r hp hr hne
/-- a made row of nils -/
theorem Rows.nils (w : World) (B : Nat) (T : TypeId) (sz m : Nat) : Rows w B T sz m (fun _ => .slice none 0 0) (fun _ => 0) (fun _ => []) :=
  ⟨fun _ _ => World.ownsRow_nil w B T sz, fun _ _ _ _ _ => NE.nil _⟩
theorem Rows.congr {w : World} {B : Nat} {T : TypeId} {sz m : Nat} {V : Nat → Value} {N N' : Nat → Nat} {X X' : Nat → List Value} (h : Rows w B T sz m V N X) (hN : ∀ p, p < m → N p = N' p) (hX : ∀ p, p < m → X p = X' p) : Rows w B T sz m V N' X' :=
  ⟨fun p hp => by rw [← hN p hp, ← hX p hp]; exact h.own p hp, h.ne⟩

end Go.Proofs.Ytfjcbclakgidkaa
