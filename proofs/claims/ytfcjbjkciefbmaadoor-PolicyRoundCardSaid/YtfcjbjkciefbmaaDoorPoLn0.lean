/- A policy that is being read, in memory: what each write makes of it. -/
import Derived.Test.YtfcjbjkciefbmaaDoorPoRd1
import Derived.Laws.OwnMore
import Derived.OneCell
import Derived.Deep.RegionLaw
import Derived.Deep.AppendLies
namespace Go.Proofs.YtfcjbjkciefbmaaDoor
open Go.RowKit

theorem own_cells {w : World} {B : Nat} {e : TypeId} {sz : Nat} {v : Value} {n : Nat} {xs : List Value} (h : w.ownsRow B e sz v n xs) {g : Nat} (hg : v.ownBlock = some g) : ∃ cs, w.heap[g]? = some (.cells cs e (0, 0)) := by
  rcases h.2 with ⟨rfl, _⟩ | ⟨g', cap, cur, rfl, _, hgg, _⟩
  · cases hg
  · have e2 : g' = g := by simpa [Value.ownBlock] using hg
    subst e2
    exact ⟨_, hgg⟩
theorem own_ne {w : World} {B B' : Nat} {e e' : TypeId} {sz sz' : Nat} {v v' : Value} {n n' : Nat} {xs xs' : List Value} (h : w.ownsRow B e sz v n xs) (h' : w.ownsRow B' e' sz' v' n' xs') (hne : e ≠ e') : v.ownBlock = none ∨ v.ownBlock ≠ v'.ownBlock := by
  cases hv : v.ownBlock with
  | none => exact .inl rfl
  | some g =>
    refine .inr (fun q => ?_)
    obtain ⟨cs, hc⟩ := own_cells h hv
    obtain ⟨ds, hd⟩ := own_cells h' q.symm
    rw [hc] at hd
    cases hd
    exact hne rfl
theorem own_not {w : World} {B : Nat} {e : TypeId} {sz : Nat} {v : Value} {n : Nat} {xs : List Value} (h : w.ownsRow B e sz v n xs) {b : Nat} {cs : Array Value} {t : TypeId} (hb : Has w b cs t) (hne : e ≠ t) : v.ownBlock ≠ some b := by
  intro q
  obtain ⟨ds, hd⟩ := own_cells h q
  have hb' : w.heap[b]? = some (.cells cs t (0, 0)) := hb
  rw [hb'] at hd
  cases hd
  exact hne rfl
/-- a level that was read, the values of its tests' and its targets' slices -/
abbrev LRec := LevD × Value × Value
def encL (x : LRec) : List Value := [.string x.1.name, x.2.1, x.2.2]
def encT (t : TstD) : List Value := [.int .i64 t.fld, .int .i64 t.kind, .int .i64 t.num, .string t.text]
def encQ (t : TgtD) : List Value := [.int .i64 t.1, .int .i64 t.2.1, .int .i64 t.2.2]
def Old (U : Nat) (v : Value) : Prop := ∀ g, v.ownBlock = some g → g < U
structure RdM (w : World) (B C U : Nat) (s : RdS) (ld : List LRec) (lc : Option LRec) (vp vl : Value) : Prop where
  box : Has w C #[vp, vl] 25
  pau : w.ownsRow B 3 1 vp s.pauses.length (s.pauses.map (Value.int .i64))
  row : w.ownsRow B 47 3 vl (ld ++ lc.toList).length ((ld ++ lc.toList).flatMap encL)
  dn : ld.map (fun x => x.1) = s.done
  cr : lc.map (fun x => x.1) = s.cur
  dts : ∀ x ∈ ld, w.ownsRow B 51 4 x.2.1 x.1.tests.length (x.1.tests.flatMap encT) ∧ Old U x.2.1
  dgs : ∀ x ∈ ld, w.ownsRow B 55 3 x.2.2 x.1.tgts.length (x.1.tgts.flatMap encQ) ∧ Old U x.2.2
  cts : ∀ x, lc = some x → w.ownsRow U 51 4 x.2.1 x.1.tests.length (x.1.tests.flatMap encT)
  cgs : ∀ x, lc = some x → w.ownsRow U 55 3 x.2.2 x.1.tgts.length (x.1.tgts.flatMap encQ)
  bc : B ≤ C
  bu : B ≤ U
  uw : U ≤ w.heap.size
theorem RdM.below {w w' : World} {B C U : Nat} {s : RdS} {ld : List LRec} {lc : Option LRec} {vp vl : Value} (h : RdM w B C U s ld lc vp vl) (hb : Below w.heap.size w w') : RdM w' B C U s ld lc vp vl :=
  ⟨h.box.below hb h.box.lt, owns_below h.pau hb, owns_below h.row hb, h.dn, h.cr, fun x hx => ⟨owns_below (h.dts x hx).1 hb, (h.dts x hx).2⟩, fun x hx => ⟨owns_below (h.dgs x hx).1 hb, (h.dgs x hx).2⟩,
    fun x hx => owns_below (h.cts x hx) hb, fun x hx => owns_below (h.cgs x hx) hb, h.bc, h.bu, Nat.le_trans h.uw hb.size⟩
theorem RdM.all {w : World} {B C U : Nat} {s : RdS} {ld : List LRec} {lc : Option LRec} {vp vl : Value} (h : RdM w B C U s ld lc vp vl) : (ld ++ lc.toList).map (fun x => x.1) = s.all := by
  have h1 := h.dn
  have h2 := h.cr
  unfold RdS.all
  rw [List.map_append, h1, ← h2]
  cases lc <;> rfl
theorem RdM.len {w : World} {B C U : Nat} {s : RdS} {ld : List LRec} {lc : Option LRec} {vp vl : Value} (h : RdM w B C U s ld lc vp vl) : (ld ++ lc.toList).length = s.all.length := by
  rw [← h.all, List.length_map]
theorem RdM.pol {w : World} {B C U : Nat} {s : RdS} {ld : List LRec} {lc : Option LRec} {vp vl : Value} (h : RdM w B C U s ld lc vp vl) (hn : ∀ l ∈ s.all, l.name.size ≤ 9223372036854775807 ∧ ∀ t ∈ l.tests, t.text.size ≤ 9223372036854775807) : PolAt w vp vl ⟨s.pauses, s.all⟩ := by
  refine ⟨slice_of_owns1 (Value.int .i64) h.pau (fun _ _ => rfl), ?_⟩
  have hs : SliceAt 3 (fun _ cs (x : LRec) => cs = encL x) w vl (ld ++ lc.toList) := slice_of_owns encL h.row (fun _ _ => rfl) (fun _ _ => rfl)
  show Levs w vl s.all
  rw [← h.all]
  have hR : ∀ x ∈ ld ++ lc.toList, levR w (encL x) x.1 := by
    intro x hx
    have hm : x.1 ∈ s.all := by rw [← h.all]; exact List.mem_map_of_mem hx
    have ht : ∃ Bx, w.ownsRow Bx 51 4 x.2.1 x.1.tests.length (x.1.tests.flatMap encT) := by
      rcases List.mem_append.1 hx with q | q
      · exact ⟨_, (h.dts x q).1⟩
      · exact ⟨_, h.cts x (by simpa using q)⟩
    have hg : ∃ Bx, w.ownsRow Bx 55 3 x.2.2 x.1.tgts.length (x.1.tgts.flatMap encQ) := by
      rcases List.mem_append.1 hx with q | q
      · exact ⟨_, (h.dgs x q).1⟩
      · exact ⟨_, h.cgs x (by simpa using q)⟩
    obtain ⟨_, ht⟩ := ht
    obtain ⟨_, hg⟩ := hg
    exact ⟨x.2.1, x.2.2, rfl, (hn _ hm).1, slice_of_owns encT ht (fun _ _ => rfl) (fun t htm => ⟨rfl, (hn _ hm).2 t htm⟩), slice_of_owns encQ hg (fun _ _ => rfl) (fun _ _ => rfl)⟩
  rcases hs with ⟨a, cap, rfl, h0⟩ | ⟨b, off, cap, rfl, hcp, hb, hel⟩
  · rw [h0]
    exact .inl ⟨a, cap, rfl, rfl⟩
  · refine .inr ⟨b, off, cap, by rw [List.length_map], by rw [List.length_map]; exact hcp, hb, fun i hi => ?_⟩
    rw [List.length_map] at hi
    obtain ⟨cs, h1, h2⟩ := hel i hi
    refine ⟨cs, h1, ?_⟩
    rw [List.getElem_map, h2]
    exact hR _ (List.getElem_mem hi)
/-- the pauses' slice is stored -/
theorem RdM.setPau {w : World} {B C U : Nat} {s : RdS} {ld : List LRec} {lc : Option LRec} {vp vl vp' : Value} {l : List Int} (h : RdM w B C U s ld lc vp vl) (hp : w.ownsRow B 3 1 vp' l.length (l.map (Value.int .i64))) :
    RdM (w.setCell ⟨C, 0, none⟩ vp') B C U { s with pauses := l } ld lc vp' vl := by
  have hg := grownBy_set w C 0 vp'
  exact ⟨h.box.set 0 vp', owns_kept_has hp h.box (by decide) hg, owns_kept_has h.row h.box (by decide) hg, h.dn, h.cr, fun x hx => ⟨owns_kept_has (h.dts x hx).1 h.box (by decide) hg, (h.dts x hx).2⟩,
    fun x hx => ⟨owns_kept_has (h.dgs x hx).1 h.box (by decide) hg, (h.dgs x hx).2⟩, fun x hx => owns_kept_has (h.cts x hx) h.box (by decide) hg, fun x hx => owns_kept_has (h.cgs x hx) h.box (by decide) hg, h.bc, h.bu, by rw [World.size_setCell]; exact h.uw⟩
/-- a level is appended, its slice stored -/
theorem RdM.addLev {w w6 : World} {B C U : Nat} {s : RdS} {ld : List LRec} {lc : Option LRec} {vp vl v' : Value} (h : RdM w B C U s ld lc vp vl)
    (hown : w6.ownsRow B 47 3 v' ((ld ++ lc.toList).length + 1) ((ld ++ lc.toList).flatMap encL ++ [.string ⟨#[]⟩, .slice none 0 0, .slice none 0 0])) (hgr : w.grownBy w6 vl.ownBlock) :
    RdM (w6.setCell ⟨C, 1, none⟩ v') B C w6.heap.size (s.push (.lev ⟨#[]⟩)) (ld ++ lc.toList) (some (⟨⟨#[]⟩, [], []⟩, .slice none 0 0, .slice none 0 0)) vp v' := by
  have b6 : Has w6 C #[vp, vl] 25 := h.box.kept_own h.row (by decide) hgr
  have hg := grownBy_set w6 C 1 v'
  have hsz : w.heap.size ≤ w6.heap.size := hgr.size
  refine ⟨b6.set 1 v', owns_kept_has (owns_kept_own h.pau h.row (by decide) hgr) b6 (by decide) hg, owns_kept_has ?_ b6 (by decide) hg, h.all, rfl, fun x hx => ?_, fun x hx => ?_, fun x hx => ?_, fun x hx => ?_, h.bc, Nat.le_trans h.bu (Nat.le_trans h.uw hsz), by rw [World.size_setCell]; exact Nat.le_refl _⟩
  · simpa [encL, Nat.add_assoc] using hown
  · have ht : w.ownsRow B 51 4 x.2.1 x.1.tests.length (x.1.tests.flatMap encT) := by
      rcases List.mem_append.1 hx with q | q
      · exact (h.dts x q).1
      · exact owns_base (h.cts x (by simpa using q)) h.bu
    exact ⟨owns_kept_has (owns_kept_own ht h.row (by decide) hgr) b6 (by decide) hg, fun g q => Nat.lt_of_lt_of_le (ht.lt g q).2 hsz⟩
  · have ht : w.ownsRow B 55 3 x.2.2 x.1.tgts.length (x.1.tgts.flatMap encQ) := by
      rcases List.mem_append.1 hx with q | q
      · exact (h.dgs x q).1
      · exact owns_base (h.cgs x (by simpa using q)) h.bu
    exact ⟨owns_kept_has (owns_kept_own ht h.row (by decide) hgr) b6 (by decide) hg, fun g q => Nat.lt_of_lt_of_le (ht.lt g q).2 hsz⟩
  · cases hx
    exact World.ownsRow_nil _ _ _ _
  · cases hx
    exact World.ownsRow_nil _ _ _ _
theorem row_last (ld : List LRec) (x : LRec) : (ld ++ (some x).toList).length = ld.length + 1 := by simp
theorem flat_len (ld : List LRec) : (ld.flatMap encL).length = ld.length * 3 := by
  induction ld with
  | nil => rfl
  | cons x r ih => rw [List.flatMap_cons, List.length_append, ih, List.length_cons]; simp [encL]; omega
theorem flat_set (ld : List LRec) (x : LRec) (j : Nat) (u : Value) : ((ld ++ (some x).toList).flatMap encL).set (ld.length * 3 + j) u = ld.flatMap encL ++ (encL x).set j u := by
  rw [Option.toList_some, List.flatMap_append, List.set_append_right _ _ (by rw [flat_len]; omega), flat_len]
  simp
theorem flat_get (ld : List LRec) (x : LRec) (j : Nat) : ((ld ++ (some x).toList).flatMap encL)[ld.length * 3 + j]? = (encL x)[j]? := by
  rw [Option.toList_some, List.flatMap_append, List.getElem?_append_right (by rw [flat_len]; omega), flat_len]
  simp
/-- a field of the last level is stored: the rest stays -/
theorem RdM.put {w : World} {B C U : Nat} {s s' : RdS} {ld : List LRec} {x x' : LRec} {vp : Value} {g cap j : Nat} {u : Value} (h : RdM w B C U s ld (some x) vp (.slice (some ⟨g, 0, none⟩) (ld.length + 1) cap))
    (hx : (encL x).set j u = encL x') (hp : s'.pauses = s.pauses) (hd : s'.done = s.done) (hc : s'.cur = some x'.1)
    (ht : w.ownsRow U 51 4 x'.2.1 x'.1.tests.length (x'.1.tests.flatMap encT)) (hq : w.ownsRow U 55 3 x'.2.2 x'.1.tgts.length (x'.1.tgts.flatMap encQ)) :
    RdM (w.setCell ⟨g, ld.length * 3 + j, none⟩ u) B C U s' ld (some x') vp (.slice (some ⟨g, 0, none⟩) (ld.length + 1) cap) := by
  have hrow := h.row
  rw [row_last] at hrow
  obtain ⟨h1, _⟩ := hrow.stored (ld.length * 3 + j) u
  have hown : (Value.slice (some ⟨g, 0, none⟩) (ld.length + 1) cap).ownBlock = some g := rfl
  have key : ∀ {B' : Nat} {e : TypeId} {sz n : Nat} {v : Value} {xs : List Value}, w.ownsRow B' e sz v n xs → e ≠ 47 → (w.setCell ⟨g, ld.length * 3 + j, none⟩ u).ownsRow B' e sz v n xs := by
    intro B' e sz n v xs ho hne
    refine ownsRow_setCell_other ho (fun q => ?_) u
    rcases own_ne ho h.row hne with q2 | q2
    · rw [q2] at q; cases q
    · exact q2 (q.trans hown.symm)
  have hCg : C ≠ g := fun e => own_not h.row (e ▸ h.box) (by decide) hown
  refine ⟨h.box.set_other _ u hCg, by rw [hp]; exact key h.pau (by decide), ?_, by rw [hd]; exact h.dn, by rw [hc]; rfl, fun y hy => ⟨key (h.dts y hy).1 (by decide), (h.dts y hy).2⟩, fun y hy => ⟨key (h.dgs y hy).1 (by decide), (h.dgs y hy).2⟩, fun y hy => ?_, fun y hy => ?_, h.bc, h.bu, by rw [World.size_setCell]; exact h.uw⟩
  · rw [row_last]
    rw [flat_set, hx] at h1
    have e : (ld ++ (some x').toList).flatMap encL = ld.flatMap encL ++ encL x' := by
      rw [Option.toList_some, List.flatMap_append]
      simp
    rw [e]
    exact h1
  · cases hy
    exact key ht (by decide)
  · cases hy
    exact key hq (by decide)
/-- an append to the tests of the last level -/
theorem RdM.grownT {w w6 : World} {B C U : Nat} {s : RdS} {ld : List LRec} {x : LRec} {vp vl : Value} (h : RdM w B C U s ld (some x) vp vl) (hgr : w.grownBy w6 x.2.1.ownBlock) :
    Has w6 C #[vp, vl] 25 ∧ w6.ownsRow B 3 1 vp s.pauses.length (s.pauses.map (Value.int .i64)) ∧ w6.ownsRow B 47 3 vl (ld ++ (some x).toList).length ((ld ++ (some x).toList).flatMap encL) ∧
    (∀ y ∈ ld, w6.ownsRow B 51 4 y.2.1 y.1.tests.length (y.1.tests.flatMap encT) ∧ Old U y.2.1) ∧ (∀ y ∈ ld, w6.ownsRow B 55 3 y.2.2 y.1.tgts.length (y.1.tgts.flatMap encQ) ∧ Old U y.2.2) ∧
    w6.ownsRow U 55 3 x.2.2 x.1.tgts.length (x.1.tgts.flatMap encQ) := by
  have hx := h.cts x rfl
  refine ⟨h.box.kept_own hx (by decide) hgr, owns_kept_own h.pau hx (by decide) hgr, owns_kept_own h.row hx (by decide) hgr, fun y hy => ⟨(h.dts y hy).1.kept hgr ?_, (h.dts y hy).2⟩, fun y hy => ⟨owns_kept_own (h.dgs y hy).1 hx (by decide) hgr, (h.dgs y hy).2⟩, owns_kept_own (h.cgs x rfl) hx (by decide) hgr⟩
  cases hv : y.2.1.ownBlock with
  | none => exact .inl rfl
  | some g =>
    refine .inr (fun q => ?_)
    have h1 := (h.dts y hy).2 g hv
    have h2 := (hx.lt g q.symm).1
    omega
theorem RdM.grownG {w w6 : World} {B C U : Nat} {s : RdS} {ld : List LRec} {x : LRec} {vp vl : Value} (h : RdM w B C U s ld (some x) vp vl) (hgr : w.grownBy w6 x.2.2.ownBlock) :
    Has w6 C #[vp, vl] 25 ∧ w6.ownsRow B 3 1 vp s.pauses.length (s.pauses.map (Value.int .i64)) ∧ w6.ownsRow B 47 3 vl (ld ++ (some x).toList).length ((ld ++ (some x).toList).flatMap encL) ∧
    (∀ y ∈ ld, w6.ownsRow B 51 4 y.2.1 y.1.tests.length (y.1.tests.flatMap encT) ∧ Old U y.2.1) ∧ (∀ y ∈ ld, w6.ownsRow B 55 3 y.2.2 y.1.tgts.length (y.1.tgts.flatMap encQ) ∧ Old U y.2.2) ∧
    w6.ownsRow U 51 4 x.2.1 x.1.tests.length (x.1.tests.flatMap encT) := by
  have hx := h.cgs x rfl
  refine ⟨h.box.kept_own hx (by decide) hgr, owns_kept_own h.pau hx (by decide) hgr, owns_kept_own h.row hx (by decide) hgr, fun y hy => ⟨owns_kept_own (h.dts y hy).1 hx (by decide) hgr, (h.dts y hy).2⟩, fun y hy => ⟨(h.dgs y hy).1.kept hgr ?_, (h.dgs y hy).2⟩, owns_kept_own (h.cts x rfl) hx (by decide) hgr⟩
  cases hv : y.2.2.ownBlock with
  | none => exact .inl rfl
  | some g =>
    refine .inr (fun q => ?_)
    have h1 := (h.dgs y hy).2 g hv
    have h2 := (hx.lt g q.symm).1
    omega
/-- a test is appended, its slice stored -/
theorem RdM.addTst {w w6 : World} {B C U : Nat} {s : RdS} {ld : List LRec} {c : LevD} {vt vg vt' : Value} {vp : Value} {g cap : Nat} {t : TstD} (h : RdM w B C U s ld (some (c, vt, vg)) vp (.slice (some ⟨g, 0, none⟩) (ld.length + 1) cap))
    (hown : w6.ownsRow U 51 4 vt' (c.tests.length + 1) (c.tests.flatMap encT ++ encT t)) (hgr : w.grownBy w6 vt.ownBlock) :
    RdM (w6.setCell ⟨g, ld.length * 3 + 1, none⟩ vt') B C U (s.push (.tst t)) ld (some ({ c with tests := c.tests ++ [t] }, vt', vg)) vp (.slice (some ⟨g, 0, none⟩) (ld.length + 1) cap) := by
  obtain ⟨g1, g2, g3, g4, g5, g6⟩ := h.grownT hgr
  have hxx := h.cts _ rfl
  have hcr : s.cur = some c := h.cr.symm
  -- the same in w6, the tests' slice as it was told by vt is not asked for
  have hrow := g3
  rw [row_last] at hrow
  obtain ⟨h1, _⟩ := hrow.stored (ld.length * 3 + 1) vt'
  have hob : (Value.slice (some ⟨g, 0, none⟩) (ld.length + 1) cap).ownBlock = some g := rfl
  have key : ∀ {B' : Nat} {e : TypeId} {sz n : Nat} {v : Value} {xs : List Value}, w6.ownsRow B' e sz v n xs → e ≠ 47 → (w6.setCell ⟨g, ld.length * 3 + 1, none⟩ vt').ownsRow B' e sz v n xs := by
    intro B' e sz n v xs ho hne
    refine ownsRow_setCell_other ho (fun q => ?_) vt'
    rcases own_ne ho g3 hne with q2 | q2
    · rw [q2] at q; cases q
    · exact q2 (q.trans hob.symm)
  have hCg : C ≠ g := fun e => own_not g3 (e ▸ g1) (by decide) hob
  refine ⟨g1.set_other _ vt' hCg, key g2 (by decide), ?_, h.dn, ?_, fun y hy => ⟨key (g4 y hy).1 (by decide), (g4 y hy).2⟩, fun y hy => ⟨key (g5 y hy).1 (by decide), (g5 y hy).2⟩, fun y hy => ?_, fun y hy => ?_, h.bc, h.bu, by rw [World.size_setCell]; exact Nat.le_trans h.uw hgr.size⟩
  · rw [row_last]
    rw [flat_set] at h1
    have e : (ld ++ (some (({ c with tests := c.tests ++ [t] } : LevD), vt', vg)).toList).flatMap encL = ld.flatMap encL ++ (encL (c, vt, vg)).set 1 vt' := by
      rw [Option.toList_some, List.flatMap_append]
      simp [encL]
    rw [e]
    exact h1
  · show some _ = s.cur.map _
    rw [hcr]
    rfl
  · cases hy
    refine key ?_ (by decide)
    simpa using hown
  · cases hy
    exact key g6 (by decide)
theorem RdM.addTgt {w w6 : World} {B C U : Nat} {s : RdS} {ld : List LRec} {c : LevD} {vt vg vg' : Value} {vp : Value} {g cap : Nat} {t : TgtD} (h : RdM w B C U s ld (some (c, vt, vg)) vp (.slice (some ⟨g, 0, none⟩) (ld.length + 1) cap))
    (hown : w6.ownsRow U 55 3 vg' (c.tgts.length + 1) (c.tgts.flatMap encQ ++ encQ t)) (hgr : w.grownBy w6 vg.ownBlock) :
    RdM (w6.setCell ⟨g, ld.length * 3 + 2, none⟩ vg') B C U (s.push (.tgt t)) ld (some ({ c with tgts := c.tgts ++ [t] }, vt, vg')) vp (.slice (some ⟨g, 0, none⟩) (ld.length + 1) cap) := by
  obtain ⟨g1, g2, g3, g4, g5, g6⟩ := h.grownG hgr
  have hcr : s.cur = some c := h.cr.symm
  have hrow := g3
  rw [row_last] at hrow
  obtain ⟨h1, _⟩ := hrow.stored (ld.length * 3 + 2) vg'
  have hob : (Value.slice (some ⟨g, 0, none⟩) (ld.length + 1) cap).ownBlock = some g := rfl
  have key : ∀ {B' : Nat} {e : TypeId} {sz n : Nat} {v : Value} {xs : List Value}, w6.ownsRow B' e sz v n xs → e ≠ 47 → (w6.setCell ⟨g, ld.length * 3 + 2, none⟩ vg').ownsRow B' e sz v n xs := by
    intro B' e sz n v xs ho hne
    refine ownsRow_setCell_other ho (fun q => ?_) vg'
    rcases own_ne ho g3 hne with q2 | q2
    · rw [q2] at q; cases q
    · exact q2 (q.trans hob.symm)
  have hCg : C ≠ g := fun e => own_not g3 (e ▸ g1) (by decide) hob
  refine ⟨g1.set_other _ vg' hCg, key g2 (by decide), ?_, h.dn, ?_, fun y hy => ⟨key (g4 y hy).1 (by decide), (g4 y hy).2⟩, fun y hy => ⟨key (g5 y hy).1 (by decide), (g5 y hy).2⟩, fun y hy => ?_, fun y hy => ?_, h.bc, h.bu, by rw [World.size_setCell]; exact Nat.le_trans h.uw hgr.size⟩
  · rw [row_last]
    rw [flat_set] at h1
    have e : (ld ++ (some (({ c with tgts := c.tgts ++ [t] } : LevD), vt, vg')).toList).flatMap encL = ld.flatMap encL ++ (encL (c, vt, vg)).set 2 vg' := by
      rw [Option.toList_some, List.flatMap_append]
      simp [encL]
    rw [e]
    exact h1
  · show some _ = s.cur.map _
    rw [hcr]
    rfl
  · cases hy
    exact key g6 (by decide)
  · cases hy
    refine key ?_ (by decide)
    simpa using hown
/-- the last level's row -/
theorem RdM.lastAt {w : World} {B C U : Nat} {s : RdS} {ld : List LRec} {x : LRec} {vp vl : Value} (h : RdM w B C U s ld (some x) vp vl) : ∃ g cap, vl = .slice (some ⟨g, 0, none⟩) (ld.length + 1) cap ∧ B ≤ g ∧ g < w.heap.size ∧
    (∀ j, j < 3 → w.cell? ⟨g, ld.length * 3 + j, none⟩ = (encL x)[j]?) ∧ ∀ j, w.frozen? ⟨g, j, none⟩ = false := by
  have hrow := h.row
  rw [row_last] at hrow
  obtain ⟨g, cap, rfl, h1, h2⟩ := hrow.form (by omega)
  exact ⟨g, cap, rfl, h1, h2, fun j hj => by rw [hrow.cellAt _ (by omega), flat_get], fun j => hrow.frozenAt j⟩
end Go.Proofs.YtfcjbjkciefbmaaDoor
