/- What lies in memory while staff.Judge goes on over right duties. -/
import Derived.Test.YtfoehmieklldkaaDoorSort0
namespace Go.Proofs.YtfoehmieklldkaaDoor
open Go.RowKit

/-- the duties of person p among the first i -/
def idxL (g : List (Nat × Nat)) (i p : Nat) : List Nat := (List.range i).filter fun k => (g.getD k (0, 0)).2 == p
theorem idxL_succ (g : List (Nat × Nat)) (i p : Nat) : idxL g (i + 1) p = if (g.getD i (0, 0)).2 = p then idxL g i p ++ [i] else idxL g i p := by
  unfold idxL
  rw [List.range_succ, List.filter_append]
  by_cases h : (g.getD i (0, 0)).2 = p
  · rw [if_pos h]
    congr 1
    rw [List.filter_cons, if_pos (by simpa using h), List.filter_nil]
  · rw [if_neg h, List.filter_cons, if_neg (by simpa using h), List.filter_nil, List.append_nil]
theorem idxL_mem {g : List (Nat × Nat)} {i p k : Nat} (h : k ∈ idxL g i p) : k < i ∧ (g.getD k (0, 0)).2 = p := by
  unfold idxL at h
  rw [List.mem_filter, List.mem_range] at h
  exact ⟨h.1, by simpa using h.2⟩
theorem idxL_length (g : List (Nat × Nat)) (i p : Nat) : (idxL g i p).length ≤ i := by
  unfold idxL
  have := List.length_filter_le (fun k => (g.getD k (0, 0)).2 == p) (List.range i)
  simpa using this
theorem take_snoc (g : List (Nat × Nat)) {i : Nat} (h : i < g.length) : g.take (i + 1) = g.take i ++ [(g[i].1, g[i].2)] := List.take_succ_eq_append_getElem h
theorem hasL_of_idx {fs : List FN} {g : List (Nat × Nat)} {i p k : Nat} (hi : i ≤ g.length) (h : k ∈ idxL g i p) : ∃ hk : k < g.length, fOf fs g[k].1 ∈ hasL fs (g.take i) p := by
  obtain ⟨h1, h2⟩ := idxL_mem h
  have hk : k < g.length := by omega
  refine ⟨hk, ?_⟩
  unfold hasL
  refine List.mem_map.2 ⟨g[k], List.mem_filter.2 ⟨?_, ?_⟩, rfl⟩
  · exact List.mem_iff_getElem?.2 ⟨k, by rw [List.getElem?_take, if_pos h1, List.getElem?_eq_getElem hk]⟩
  · rw [List.getD_eq_getElem?_getD, List.getElem?_eq_getElem hk] at h2
    simpa using h2

def natCells (l : List Nat) : List Value := l.map fun k => .int .i64 (k : Nat)
theorem nat_slice {w : World} {B : Nat} {v : Value} {l : List Nat} (h : w.ownsRow B 3 1 v l.length (natCells l)) : SliceAt 1 intR w v (intsOf l) := by
  have h1 : w.ownsRow B 3 1 v (intsOf l).length ((intsOf l).map (Value.int .i64)) := by
    unfold intsOf
    rw [List.length_map, List.map_map]
    exact h
  exact slice_of_owns1 _ h1 (fun _ _ => rfl)
theorem infoInts : (Tryd.prog.info? 34).map (fun i => (i.zero, i.size, i.bytes)) = some (some (.slice none 0 0), 1, 24) := by kernel_rfl
theorem infoBool : (Tryd.prog.info? 4).map (fun i => (i.zero, i.size, i.bytes)) = some (some (.bool false), 1, 1) := by kernel_rfl
theorem make_ints1 (w : World) (n : Nat) (hn : n ≤ 1000) :
    (Instr.makeSlice 34 (.int .i64 ((n : Int) + 1)) (.int .i64 ((n : Int) + 1))).run Tryd.prog w = .ok (.slice (some ⟨w.heap.size, 0, none⟩) (n + 1) (n + 1)) (w.alloc (.cells (madeCells #[.int .i64 0] (n + 1)) 3)) := make_ints w (n + 1) (by omega)
theorem make_rows1 (w : World) (n : Nat) (hn : n ≤ 1000) :
    (Instr.makeSlice 98 (.int .i64 ((n : Int) + 1)) (.int .i64 ((n : Int) + 1))).run Tryd.prog w = .ok (.slice (some ⟨w.heap.size, 0, none⟩) (n + 1) (n + 1)) (w.alloc (.cells (madeCells #[.slice none 0 0] (n + 1)) 34)) := by
  obtain ⟨i0, hi, hz0, hz1, hz2⟩ := info_parts infoInts
  have h := run_make (P := Tryd.prog) w 98 34 i0 (.slice none 0 0) Tryd.underlying98 hi hz0 .i64 .i64 ((n + 1 : Nat) : Int) ((n + 1 : Nat) : Int) (by omega) (by omega) (by rw [hz2]; omega) (by omega)
  rw [hz1, Nat.mul_one] at h
  exact h
theorem make_bools1 (w : World) (n : Nat) (hn : n ≤ 1000) :
    (Instr.makeSlice 97 (.int .i64 ((n : Int) + 1)) (.int .i64 ((n : Int) + 1))).run Tryd.prog w = .ok (.slice (some ⟨w.heap.size, 0, none⟩) (n + 1) (n + 1)) (w.alloc (.cells (madeCells #[.bool false] (n + 1)) 4)) := by
  obtain ⟨i0, hi, hz0, hz1, hz2⟩ := info_parts infoBool
  have h := run_make (P := Tryd.prog) w 97 4 i0 (.bool false) Tryd.underlying97 hi hz0 .i64 .i64 ((n + 1 : Nat) : Int) ((n + 1 : Nat) : Int) (by omega) (by omega) (by rw [hz2]; omega) (by omega)
  rw [hz1, Nat.mul_one] at h
  exact h

structure JuM (fs : List FN) (P R M : Nat) (g : List (Nat × Nat)) (w wr : World) (bx bs bm : Nat) (iR iS : Nat) (V : Nat → Value) : Prop where
  kx : Has wr bx #[.int .i64 (P : Nat), .int .i64 (R : Nat), .int .i64 (M : Nat)] 50
  kh : Has wr bm ((List.range (P + 1)).map V).toArray 34
  ks : IntsB wr bs ((List.range (P + 1)).map fun p => ((loadN fs (g.take iS) p : Nat) : Int))
  rows : Rows wr w.heap.size 3 1 (P + 1) V (fun p => (idxL g iR p).length) (fun p => natCells (idxL g iR p))
  nb : ∀ p, p < P + 1 → (V p).ownBlock ≠ some bs
  gx : w.heap.size ≤ bx
  gs : w.heap.size ≤ bs
  gm : w.heap.size ≤ bm
  below : Below w.heap.size w wr
section
variable {fs : List FN} {P R M : Nat} {g : List (Nat × Nat)} {w wr wx W w6 : World} {bx bs bm : Nat} {iR iS : Nat} {V : Nat → Value}
theorem JuM.below' (h : JuM fs P R M g w wr bx bs bm iR iS V) (hb : Below wr.heap.size wr wx) : JuM fs P R M g w wx bx bs bm iR iS V :=
  ⟨h.kx.below hb h.kx.lt, h.kh.below hb h.kh.lt, Has.below h.ks hb (Has.lt h.ks), h.rows.below hb, h.nb, h.gx, h.gs, h.gm, below_up h.below hb h.below.size⟩
theorem JuM.addSlots (h : JuM fs P R M g w wr bx bs bm iR iS V) {q : Nat} (hi : iS < g.length) (hq : g[iS].2 = q) (hqP : q < P + 1) {u : Int} (hu : u = ((loadN fs (g.take iS) q : Nat) : Int) + (((fOf fs g[iS].1).n : Nat) : Int)) :
    JuM fs P R M g w (wr.setCell ⟨bs, q, none⟩ (.int .i64 u)) bx bs bm iR (iS + 1) V := by
  have hg := grownBy_set wr bs q (.int .i64 u)
  refine ⟨h.kx.set_other _ _ (has_ne h.kx h.ks (by decide)), h.kh.set_other _ _ (has_ne h.kh h.ks (by decide)), ?_, h.rows.kept hg (fun p hp => ?_), h.nb, h.gx, h.gs, h.gm, h.below.setCell h.gs _⟩
  · have hs := h.ks.set q u
    rw [map_updV _ _ _ _ hqP] at hs
    have e : (List.range (P + 1)).map (updV (fun p => ((loadN fs (g.take iS) p : Nat) : Int)) q u) = (List.range (P + 1)).map fun p => ((loadN fs (g.take (iS + 1)) p : Nat) : Int) := by
      refine List.map_congr_left fun p _ => ?_
      rw [take_snoc g hi, loadN_snoc]
      by_cases e : p = q
      · subst e
        rw [updV_at, if_pos hq, hu]
        simp
      · rw [updV_ne _ _ e, if_neg (by omega)]
        simp
    rw [e] at hs
    exact hs
  · exact .inr (h.nb p hp)
/-- the duty iR is one more of its person -/
theorem JuM.addRow (h : JuM fs P R M g w wr bx bs bm iR iS V) {q g' c' : Nat} {va : Option Addr} {vc : Nat} (hi : iR < g.length) (hq : g[iR].2 = q) (hqP : q < P + 1) (hvb : V q = .slice va (idxL g iR q).length vc) (hW : Below wr.heap.size wr W)
    (ho : w6.ownsRow w.heap.size 3 1 (.slice (some ⟨g', 0, none⟩) ((idxL g iR q).length + 1) c') ((idxL g iR q).length + 1) (natCells (idxL g iR q) ++ [.int .i64 (iR : Nat)]))
    (hg : W.grownBy w6 (Value.slice va (idxL g iR q).length vc).ownBlock) (hat : (Value.slice va (idxL g iR q).length vc).ownBlock = some g' ∨ g' = wr.heap.size + 1) :
    ∃ v', v' = .slice (some ⟨g', 0, none⟩) ((idxL g iR q).length + 1) c' ∧ JuM fs P R M g w (w6.setCell ⟨bm, q, none⟩ v') bx bs bm (iR + 1) iS (updV V q v') := by
  rw [← hvb] at hg hat
  have hg2 : wr.grownBy w6 (V q).ownBlock := grownBy_trans (grownBy_of_below hW _) hg
  have hbl : Below w.heap.size w w6 := (below_up h.below hW h.below.size).grown hg (Nat.le_trans h.below.size hW.size) (fun k hk => ((h.rows.own q hqP).lt k hk).1)
  have hf : Fresh wr (V q) (.slice (some ⟨g', 0, none⟩) ((idxL g iR q).length + 1) c') := by
    rcases hat with hat | hat
    · exact .inl hat.symm
    · exact .inr ⟨g', rfl, by omega⟩
  have hr := h.rows.own q hqP
  have k1 := h.kx.kept_own hr (by decide) hg2
  have k2 := h.kh.kept_own hr (by decide) hg2
  have k3 : IntsB w6 bs _ := Has.kept h.ks hg2 (Ne.symm (h.nb q hqP))
  have k6 := h.rows.append hqP ho hg2 hf
  have hgd : (g.getD iR (0, 0)).2 = q := by rw [List.getD_eq_getElem?_getD, List.getElem?_eq_getElem hi]; exact hq
  refine ⟨_, rfl, k1.set_other _ _ (has_ne k1 k2 (by decide)), ?_, Has.set_other k3 _ _ (has_ne k3 k2 (by decide)), ?_, fun p hp => ?_, h.gx, h.gs, h.gm, hbl.setCell h.gm _⟩
  · have := k2.set q (.slice (some ⟨g', 0, none⟩) ((idxL g iR q).length + 1) c')
    rw [show ((List.range (P + 1)).map V).toArray.setIfInBounds q (.slice (some ⟨g', 0, none⟩) ((idxL g iR q).length + 1) c') = ((List.range (P + 1)).map (updV V q (.slice (some ⟨g', 0, none⟩) ((idxL g iR q).length + 1) c'))).toArray by rw [← map_updV _ _ _ _ hqP]; simp] at this
    exact this
  · refine (k6.kept_has k2 (by decide) (grownBy_set _ _ _ _)).congr (fun p _ => ?_) (fun p _ => ?_)
    · rw [idxL_succ]
      by_cases e : p = q
      · subst e; rw [updV_at, if_pos hgd]; simp
      · rw [updV_ne _ _ e, if_neg (by omega)]
    · rw [idxL_succ]
      by_cases e : p = q
      · subst e; rw [updV_at, if_pos hgd]; simp [natCells]
      · rw [updV_ne _ _ e, if_neg (by omega)]
  · by_cases e : p = q
    · subst e
      rw [updV_at]
      rcases hat with hat | hat
      · have := h.nb p hp
        rw [hat] at this
        exact this
      · have := Has.lt h.ks
        simp only [Value.ownBlock, ne_eq, Option.some.injEq]
        omega
    · rw [updV_ne _ _ e]
      exact h.nb p hp
end

end Go.Proofs.YtfoehmieklldkaaDoor
