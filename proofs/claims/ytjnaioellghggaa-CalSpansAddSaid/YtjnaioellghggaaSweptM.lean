/- What cal.swept has in memory. -/
import Derived.Test.YtjnaioellghggaaEdge
import Derived.Laws.OwnMore
import Derived.RangeFuncBox
namespace Go.Proofs.Ytjnaioellghggaa
open Go.RowKit

theorem infoEdge : (Try.prog.info? 114).map (fun i => (i.zero, i.size, i.bytes)) = some (some (.agg #[.int .i64 0, .int .i64 0, .int .i64 0]), 3, 24) := by kernel_rfl
theorem infoSpan : (Try.prog.info? 41).map (fun i => (i.zero, i.size, i.bytes)) = some (some (.agg #[.int .i64 0, .int .i64 0]), 2, 16) := by kernel_rfl
theorem infoInt : (Try.prog.info? 3).map (fun i => (i.zero, i.size, i.bytes)) = some (some (.int .i64 0), 1, 8) := by kernel_rfl
theorem make2 (w : World) :
    (Instr.makeSlice 45 (.int .i64 2) (.int .i64 2)).run Try.prog w = .ok (.slice (some ⟨w.heap.size, 0, none⟩) 2 2) (w.alloc (.cells #[.int .i64 0, .int .i64 0] 3)) := by
  obtain ⟨i0, hi, hz0, hz1, hz2⟩ := info_parts infoInt
  have h := run_make (P := Try.prog) w 45 3 i0 (.int .i64 0) Try.underlying45 hi hz0 .i64 .i64 2 2 (by omega) (by omega) (by rw [hz2]; omega) (by omega)
  have e : madeCells (Value.int .i64 0).cells (Int.toNat 2 * 1) = #[.int .i64 0, .int .i64 0] := by kernel_rfl
  rw [h, hz1, e]
  rfl
def encS (s : Sp) : List Value := [.int .i64 s.1, .int .i64 s.2]
/-- the edges of the lists before number k -/
def edgesTo (a b : List Sp) (k : Nat) : List Edg := if k = 0 then [] else if k = 1 then edgesOf 0 a else edgesOf 0 a ++ edgesOf 1 b
structure ESt (w wr : World) (ev : Value) (D : List Edg) : Prop where
  own : wr.ownsRow w.heap.size 114 3 ev D.length (D.flatMap encE)
  below : Below w.heap.size w wr
theorem lists_at {w wr : World} {L : Nat} {va vb : Value} {a b : List Sp} (hL : Has w L #[va, vb] 36) (ha : Changes w va a) (hb : Changes w vb b) (la : a.length ≤ 50000) (lb : b.length ≤ 50000) (hbel : Below w.heap.size w wr) {k : Nat} (hk : k < 2) :
    ∃ l v, wr.cell? ⟨L, k, none⟩ = some v ∧ Changes w v l ∧ l.length ≤ 50000 ∧ edgesTo a b (k + 1) = edgesTo a b k ++ edgesOf k l ∧ (edgesTo a b k).length ≤ 100000 := by
  match k, hk with
  | 0, _ => exact ⟨a, va, (below_cell hbel hL.lt).trans (hL.cell 0), ha, la, by simp [edgesTo], by simp [edgesTo]⟩
  | 1, _ => exact ⟨b, vb, (below_cell hbel hL.lt).trans (hL.cell 1), hb, lb, by simp [edgesTo], by simp only [edgesTo, edges_len, if_neg (show ¬ (1 : Nat) = 0 by decide), if_true]; omega⟩
theorem edge_next (E : List Edg) (k : Int) (l : List Sp) (i : Nat) (hi : i < l.length) : (E ++ edgesOf k (l.take (i + 1))).flatMap encE = (E ++ edgesOf k (l.take i)).flatMap encE ++ [.int .i64 l[i].1, .int .i64 k, .int .i64 1, .int .i64 l[i].2, .int .i64 k, .int .i64 (-1)] := by
  rw [List.take_succ_eq_append_getElem hi, edges_snoc, ← List.append_assoc, List.flatMap_append]
  rfl
theorem edge_next_len (E : List Edg) (k : Int) (l : List Sp) (i : Nat) (hi : i < l.length) : (E ++ edgesOf k (l.take (i + 1))).length = (E ++ edgesOf k (l.take i)).length + 2 := by
  rw [List.take_succ_eq_append_getElem hi, edges_snoc, ← List.append_assoc, List.length_append]
  rfl
/-- what lies in memory while the sweep goes on -/
structure Mst (w wr : World) (C : Nat) (ev ov : Value) (D : List Edg) (out : List Sp) (c0 c1 : Int) : Prop where
  below : Below w.heap.size w wr
  counts : Has wr C #[.int .i64 c0, .int .i64 c1] 3
  own : w.heap.size ≤ C
  edges : wr.ownsRow w.heap.size 114 3 ev D.length (D.flatMap encE)
  outs : wr.ownsRow w.heap.size 41 2 ov out.length (out.flatMap encS)
section
variable {w wr : World} {C : Nat} {ev ov : Value} {D : List Edg} {out : List Sp} {c0 c1 : Int}
theorem Mst.to (h : Mst w wr C ev ov D out c0 c1) {w' : World} (hb : Below wr.heap.size wr w') : Mst w w' C ev ov D out c0 c1 :=
  ⟨below_up h.below hb h.below.size, h.counts.below hb h.counts.lt, h.own, owns_below h.edges hb, owns_below h.outs hb⟩
theorem Mst.drewN (h : Mst w wr C ev ov D out c0 c1) (n : Nat) : Mst w (wr.drewN n) C ev ov D out c0 c1 := h.to (drewN_below (Below.refl _ _) n)
theorem Mst.drew (h : Mst w wr C ev ov D out c0 c1) : Mst w wr.drew C ev ov D out c0 c1 := h.to (drewN_below (Below.refl _ _) 1)
theorem Mst.alloc (h : Mst w wr C ev ov D out c0 c1) (o : Obj) : Mst w (wr.alloc o) C ev ov D out c0 c1 := h.to ((Below.refl _ _).alloc (Nat.le_refl _) o)
theorem Mst.set0 (h : Mst w wr C ev ov D out c0 c1) (x : Int) : Mst w (wr.setCell ⟨C, 0, none⟩ (.int .i64 x)) C ev ov D out x c1 := by
  have hg := grownBy_set wr C 0 (.int .i64 x)
  exact ⟨h.below.setCell (p := ⟨C, 0, none⟩) h.own _, h.counts.set 0 _, h.own, owns_kept_has h.edges h.counts (by decide) hg, owns_kept_has h.outs h.counts (by decide) hg⟩
theorem Mst.set1 (h : Mst w wr C ev ov D out c0 c1) (x : Int) : Mst w (wr.setCell ⟨C, 1, none⟩ (.int .i64 x)) C ev ov D out c0 x := by
  have hg := grownBy_set wr C 1 (.int .i64 x)
  exact ⟨h.below.setCell (p := ⟨C, 1, none⟩) h.own _, h.counts.set 1 _, h.own, owns_kept_has h.edges h.counts (by decide) hg, owns_kept_has h.outs h.counts (by decide) hg⟩
theorem Mst.edge {ge : Nat} {ce : Nat} (h : Mst w wr C (.slice (some ⟨ge, 0, none⟩) D.length ce) ov D out c0 c1) {j : Nat} (hj : j < D.length) :
    wr.cell? ⟨ge, j * 3, none⟩ = some (.int .i64 D[j].1) ∧ wr.cell? ⟨ge, j * 3 + 1, none⟩ = some (.int .i64 D[j].2.1) ∧ wr.cell? ⟨ge, j * 3 + 2, none⟩ = some (.int .i64 D[j].2.2) := by
  have e := fun k (hk : k < 3) => (h.edges.cellAt (j * 3 + k) (by omega)).trans (flatMap_at encE 3 D (fun _ _ => rfl) j k hj hk)
  exact ⟨e 0 (by omega), e 1 (by omega), e 2 (by omega)⟩
theorem Mst.at (h : Mst w wr C ev ov D out c0 c1) (hD : 0 < D.length) : ∃ ge ce, ev = .slice (some ⟨ge, 0, none⟩) D.length ce ∧ ge ≠ C := by
  rcases h.edges.2 with ⟨_, h0⟩ | ⟨g, cap, cur, hv, _, hg, _⟩
  · omega
  · refine ⟨g, cap, hv, fun e => ?_⟩
    subst e
    have := h.counts
    unfold Has at this
    rw [this] at hg
    cases hg
theorem Mst.push (h : Mst w wr C ev ov D out c0 c1) {v' : Value} {w' : World} {s : Sp} (ho : w'.ownsRow w.heap.size 41 2 v' (out.length + 1) (out.flatMap encS ++ encS s)) (hb : Below w.heap.size w w') (hg : wr.grownBy w' ov.ownBlock) :
    Mst w w' C ev v' D (out ++ [s]) c0 c1 :=
  ⟨hb, h.counts.kept_own h.outs (by decide) hg, h.own, owns_kept_own h.edges h.outs (by decide) hg, by
    have e : (out ++ [s]).flatMap encS = out.flatMap encS ++ encS s := by rw [List.flatMap_append]; simp
    rw [e, List.length_append]; exact ho⟩
theorem set_last (l : List Sp) (s : Sp) (f : Int) : ((l ++ [s]).flatMap encS).set (l.length * 2 + 1) (.int .i64 f) = (l ++ [(s.1, f)]).flatMap encS := by
  have hl : (l.flatMap encS).length = l.length * 2 := by
    induction l with
    | nil => rfl
    | cons x r ih => rw [List.flatMap_cons, List.length_append, ih]; simp [encS]; omega
  rw [List.flatMap_append, List.flatMap_append, List.set_append_right _ _ (by omega), hl, show l.length * 2 + 1 - l.length * 2 = 1 by omega]
  rfl
theorem Mst.last {l : List Sp} {s : Sp} (h : Mst w wr C ev ov D (l ++ [s]) c0 c1) : ∃ go co, ov = .slice (some ⟨go, 0, none⟩) (l.length + 1) co ∧ wr.cell? ⟨go, l.length * 2 + 1, none⟩ = some (.int .i64 s.2) ∧ wr.frozen? ⟨go, l.length * 2 + 1, none⟩ = false ∧ w.heap.size ≤ go ∧ go < wr.heap.size ∧
    ∀ f, Mst w (wr.setCell ⟨go, l.length * 2 + 1, none⟩ (.int .i64 f)) C ev ov D (l ++ [(s.1, f)]) c0 c1 := by
  have ho := h.outs
  have el : (l ++ [s]).length = l.length + 1 := by simp
  rw [el] at ho
  rcases ho.2 with ⟨_, h0⟩ | ⟨g, cap, cur, rfl, hb, hg, _⟩
  · omega
  · refine ⟨g, cap, rfl, ?_, ho.frozenAt _, hb, (Array.getElem?_eq_some_iff.1 hg).1, fun f => ?_⟩
    · have e := (ho.cellAt (l.length * 2 + 1) (by omega)).trans (flatMap_at encS 2 (l ++ [s]) (fun _ _ => rfl) l.length 1 (by simp) (by omega))
      rw [e]
      simp [encS]
    · obtain ⟨h1, h2⟩ := ho.stored (l.length * 2 + 1) (.int .i64 f)
      have hg2 : wr.grownBy (wr.setCell ⟨g, l.length * 2 + 1, none⟩ (.int .i64 f)) (Value.slice (some ⟨g, 0, none⟩) (l.length + 1) cap).ownBlock := h2
      refine ⟨h.below.setCell (p := ⟨g, l.length * 2 + 1, none⟩) hb _, h.counts.kept_own ho (by decide) hg2, h.own, owns_kept_own h.edges ho (by decide) hg2, ?_⟩
      rw [← set_last]
      have el2 : (l ++ [(s.1, f)]).length = l.length + 1 := by simp
      rw [el2]
      exact h1
end
theorem apart_len : ∀ {l : List Sp} {lo hi : Int}, Apart lo hi l → (l.length : Int) ≤ max 0 (hi - lo)
  | [], _, _, _ => by simp only [List.length_nil]; omega
  | s :: r, lo, hi, ⟨h1, h2, h3, h4⟩ => by
    have := apart_len h4
    rw [List.length_cons]
    omega
/-- at the head of a round -/
structure Sst (want : Int → Int → Bool) (w wr : World) (C : Nat) (ev ov : Value) (D : List Edg) (i : Nat) (out : List Sp) : Prop where
  mem : Mst w wr C ev ov D out (sumK 0 (D.take i)) (sumK 1 (D.take i))
  inv : SwInv want D i out
/-- within a round -/
structure Ist (w wr : World) (C : Nat) (ev ov : Value) (D : List Edg) (out : List Sp) (i j : Nat) (at_ : Int) : Prop where
  le : i ≤ j
  le2 : j ≤ D.length
  mem : Mst w wr C ev ov D out (sumK 0 (D.take j)) (sumK 1 (D.take j))
  same : ∀ e ∈ (D.take j).drop i, e.1 = at_
theorem sumK_next (k : Int) (D : List Edg) (j : Nat) (hj : j < D.length) : sumK k (D.take (j + 1)) = sumK k (D.take j) + (if D[j].2.1 = k then D[j].2.2 else 0) := by
  rw [List.take_succ_eq_append_getElem hj, sumK_append]
  simp [sumK]
theorem same_next {D : List Edg} {i j : Nat} {at_ : Int} (h : ∀ e ∈ (D.take j).drop i, e.1 = at_) (hij : i ≤ j) (hj : j < D.length) (he : D[j].1 = at_) : ∀ e ∈ (D.take (j + 1)).drop i, e.1 = at_ := by
  intro e hm
  rw [List.take_succ_eq_append_getElem hj, List.drop_append_of_le_length (by rw [List.length_take]; omega)] at hm
  rcases List.mem_append.1 hm with g | g
  · exact h e g
  · obtain rfl : e = D[j] := by simpa using g
    exact he

end Go.Proofs.Ytjnaioellghggaa
