/- A keeper's clocks in memory: one block and one row of pieces each; what a turn of one of them leaves alone. -/
import Derived.Test.YtllcgcnebofdoaaGreatDoorTools
import Derived.Test.YtllcgcnebofdoaaGreatDoorClkA
import Derived.Test.YtllcgcnebofdoaaGreatDoorCkLaw
import Derived.Laws.OwnMore
import Derived.OneCell
import Derived.WalkSmall
import Derived.Deep.RegionLaw
import Derived.Deep.AppendLies
namespace Go.Proofs.YtllcgcnebofdoaaGreatDoor
open Go.RowKit

def encPc (p : Pc) : List Value := [.int .i64 p.1, .int .i64 p.2.1, .int .i64 p.2.2]
def runV (r : RunD) (v : Value) : Array Value := #[.int .i64 r.c.kind, .int .i64 r.c.lev, .int .i64 r.c.min, .int .i64 r.c.start, .int .i64 r.c.stop, .int .i64 r.c.fin, v, .int .i64 r.tgt.1, .int .i64 r.tgt.2.1, .int .i64 r.tgt.2.2, .bool r.goes]
structure RM (w : World) (B b : Nat) (v : Value) (r : RunD) : Prop where
  box : Has w b (runV r v) 74
  ps : w.ownsRow B 79 3 v r.c.ps.length (r.c.ps.flatMap encPc)
  le : B ≤ b
theorem RM.below {w w' : World} {B b : Nat} {v : Value} {r : RunD} (h : RM w B b v r) (hb : Below w.heap.size w w') : RM w' B b v r := ⟨h.box.below hb h.box.lt, owns_below h.ps hb, h.le⟩
/-- only block b, the row of v, and new blocks -/
structure One2 (w w' : World) (b : Nat) (v : Value) : Prop where
  os : w'.os = w.os
  tape : w'.tape = w.tape
  output : w'.output = w.output
  size : w.heap.size ≤ w'.heap.size
  block : ∀ k, k < w.heap.size → k ≠ b → v.ownBlock ≠ some k → w'.heap[k]? = w.heap[k]?
/-- the new slice lies where the old one lay, or in a new block, or nowhere -/
def Fr (w : World) (v v' : Value) : Prop := ∀ k, v'.ownBlock = some k → v.ownBlock = some k ∨ w.heap.size ≤ k
theorem Fr.refl (w : World) (v : Value) : Fr w v v := fun _ h => .inl h
theorem Fr.trans {w w1 : World} {v v1 v2 : Value} (h : Fr w v v1) (k : Fr w1 v1 v2) (hs : w.heap.size ≤ w1.heap.size) : Fr w v v2 := fun j hj => by
  rcases k j hj with q | q
  · exact h j q
  · exact .inr (Nat.le_trans hs q)
theorem One2.refl (w : World) (b : Nat) (v : Value) : One2 w w b v := ⟨rfl, rfl, rfl, Nat.le_refl _, fun _ _ _ _ => rfl⟩
theorem One2.trans {w w1 w2 : World} {b : Nat} {v v1 : Value} (h : One2 w w1 b v) (k : One2 w1 w2 b v1) (hf : Fr w v v1) : One2 w w2 b v :=
  ⟨k.os.trans h.os, k.tape.trans h.tape, k.output.trans h.output, Nat.le_trans h.size k.size, fun j hj h1 h2 => by
    rw [k.block j (Nat.lt_of_lt_of_le hj h.size) h1 (fun q => by
      rcases hf j q with g | g
      · exact h2 g
      · omega)]
    exact h.block j hj h1 h2⟩
theorem One2.set (w : World) (b i : Nat) (u v : Value) : One2 w (w.setCell ⟨b, i, none⟩ u) b v :=
  ⟨rfl, rfl, rfl, by simp [World.setCell], fun _ _ h1 _ => Below.heap_setCell _ _ _ _ h1⟩
theorem One2.setRow (w : World) (b g i n c : Nat) (u : Value) : One2 w (w.setCell ⟨g, i, none⟩ u) b (.slice (some ⟨g, 0, none⟩) n c) :=
  ⟨rfl, rfl, rfl, by simp [World.setCell], fun k _ _ h2 => Below.heap_setCell _ _ _ _ (fun e => h2 (by subst e; rfl))⟩
theorem One2.own {w w' : World} {b : Nat} {v : Value} (h : w.grownBy w' v.ownBlock) : One2 w w' b v := ⟨h.os, h.tape, h.output, h.size, fun k hk _ h2 => h.block k hk (Ne.symm h2)⟩
theorem One2.of_below {w w' : World} {b : Nat} {v : Value} (h : Below w.heap.size w w') : One2 w w' b v := ⟨h.os, h.tape, h.output, h.size, fun k hk _ _ => h.block k hk⟩
theorem One2.drew (w : World) (b : Nat) (v : Value) : One2 w w.drew b v := One2.of_below (Below.refl _ _).drew
theorem One2.below {w w' : World} {B b : Nat} {v : Value} {r : RunD} (h : One2 w w' b v) (hm : RM w B b v r) (hB : B ≤ w.heap.size) : Below B w w' :=
  ⟨h.os, h.tape, h.output, h.size, fun k hk => h.block k (by omega) (by have := hm.le; omega) (fun q => by have := (hm.ps.lt k q).1; omega)⟩
/-- whatever is neither a clock nor a piece stays -/
structure KeepsR (w w' : World) : Prop where
  size : w.heap.size ≤ w'.heap.size
  same : ∀ (k : Nat) (cs : Array Value) (t : TypeId) (fr : Nat × Nat), w.heap[k]? = some (.cells cs t fr) → t ≠ 74 → t ≠ 79 → w'.heap[k]? = some (.cells cs t fr)
theorem KeepsR.refl (w : World) : KeepsR w w := ⟨Nat.le_refl _, fun _ _ _ _ h _ _ => h⟩
theorem KeepsR.trans {a b c : World} (h : KeepsR a b) (k : KeepsR b c) : KeepsR a c := ⟨Nat.le_trans h.size k.size, fun i cs t fr h1 h2 h3 => k.same i cs t fr (h.same i cs t fr h1 h2 h3) h2 h3⟩
theorem KeepsR.of_below {w w' : World} (h : Below w.heap.size w w') : KeepsR w w' := ⟨h.size, fun k _ _ _ h1 _ _ => (h.block k (Array.getElem?_eq_some_iff.1 h1).1).trans h1⟩
theorem Has.keepsR {w w' : World} {b : Nat} {cs : Array Value} {t : TypeId} (h : Has w b cs t) (hk : KeepsR w w') (h1 : t ≠ 74) (h2 : t ≠ 79) : Has w' b cs t := hk.same b cs t (0, 0) h h1 h2
theorem owns_keepsR {w w' : World} {B : Nat} {e : TypeId} {sz : Nat} {v : Value} {n : Nat} {xs : List Value} (h : w.ownsRow B e sz v n xs) (hk : KeepsR w w') (h1 : e ≠ 74) (h2 : e ≠ 79) : w'.ownsRow B e sz v n xs := by
  refine ⟨h.1, ?_⟩
  rcases h.2 with q | ⟨g, cap, cur, hv, hg, hh, r⟩
  · exact .inl q
  · exact .inr ⟨g, cap, cur, hv, hg, hk.same g _ _ _ hh h1 h2, r⟩
theorem own_type {w : World} {B : Nat} {e : TypeId} {sz : Nat} {v : Value} {n : Nat} {xs : List Value} (h : w.ownsRow B e sz v n xs) {k : Nat} (hk : v.ownBlock = some k) : ∃ cs, w.heap[k]? = some (.cells cs e (0, 0)) := by
  rcases h.2 with ⟨rfl, _⟩ | ⟨g', cap, cur, rfl, _, hgg, _⟩
  · cases hk
  · have e2 : g' = k := by simpa [Value.ownBlock] using hk
    subst e2
    exact ⟨_, hgg⟩
theorem One2.keepsR {w w' : World} {B b : Nat} {v : Value} {r : RunD} (h : One2 w w' b v) (hm : RM w B b v r) : KeepsR w w' :=
  ⟨h.size, fun k cs t fr h1 h2 h3 => (h.block k (Array.getElem?_eq_some_iff.1 h1).1 (fun e => by
    subst e
    have hb : w.heap[k]? = some (.cells (runV r v) 74 (0, 0)) := hm.box
    rw [hb] at h1
    cases h1
    exact h2 rfl) (fun q => by
    obtain ⟨ds, hd⟩ := own_type hm.ps q
    rw [hd] at h1
    cases h1
    exact h3 rfl)).trans h1⟩
/-- a clock's block is none of the row's -/
theorem RM.apart {w : World} {B b : Nat} {v : Value} {r : RunD} (h : RM w B b v r) : v.ownBlock ≠ some b := fun q => by
  obtain ⟨ds, hd⟩ := own_type h.ps q
  have hb : w.heap[b]? = some (.cells (runV r v) 74 (0, 0)) := h.box
  rw [hb] at hd
  cases hd
theorem pc_len (ps : List Pc) : (ps.flatMap encPc).length = ps.length * 3 := by
  induction ps with
  | nil => rfl
  | cons x r ih => rw [List.flatMap_cons, List.length_append, ih, List.length_cons]; simp [encPc]; omega
theorem pc_last (ps : List Pc) (q : Pc) (j : Nat) : ((ps ++ [q]).flatMap encPc)[ps.length * 3 + j]? = (encPc q)[j]? := by
  rw [List.flatMap_append, List.getElem?_append_right (by rw [pc_len]; omega), pc_len]
  simp
theorem pc_set (ps : List Pc) (q : Pc) (j : Nat) (u : Value) : ((ps ++ [q]).flatMap encPc).set (ps.length * 3 + j) u = ps.flatMap encPc ++ (encPc q).set j u := by
  rw [List.flatMap_append, List.set_append_right _ _ (by rw [pc_len]; omega), pc_len]
  simp
theorem cutP_last (t : Int) (ps : List Pc) (q : Pc) : cutP t (ps ++ [q]) = if q.1 = t then ps else ps ++ [(q.1, t, q.2.2)] := by
  unfold cutP
  simp
theorem infoPc : (Tryz.prog.info? 79).map (fun i => (i.zero, i.size, i.bytes)) = some (some (.agg #[.int .i64 0, .int .i64 0, .int .i64 0]), 3, 24) := by kernel_rfl
/-- what a method of a clock leaves -/
def RunPost (w : World) (B b : Nat) (v : Value) (r' : RunD) (e : Ending) (w' : World) : Prop := (∃ u, e = .returned u) ∧ ∃ v', RM w' B b v' r' ∧ One2 w w' b v ∧ Fr w v v'

end Go.Proofs.YtllcgcnebofdoaaGreatDoor
