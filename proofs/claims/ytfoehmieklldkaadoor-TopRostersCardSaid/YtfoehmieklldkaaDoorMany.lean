/- What lies in memory while a law counts the duties of each form; slices.Equal of two like slices of whole numbers. -/
import Derived.Test.YtfoehmieklldkaaDoorConcat
import Derived.Test.YtfoehmieklldkaaDoorShelf
import Derived.Test.YtfoehmieklldkaaDoorJudge
namespace Go.Proofs.YtfoehmieklldkaaDoor
open Go.RowKit

structure MnInv (n : Nat) (ds : List (Nat × Nat)) (B : Nat) (w wr : World) (v : Value) (i : Nat) : Prop where
  ints : IntsB wr w.heap.size ((List.range n).map fun t => ((cnt (ds.take i) t : Nat) : Int))
  own : wr.ownsRow B 60 2 v ds.length (dutyCells ds)
  below : Below w.heap.size w wr
section
variable {n : Nat} {ds : List (Nat × Nat)} {B : Nat} {w wr wx : World} {v : Value} {i : Nat}
theorem MnInv.below' (h : MnInv n ds B w wr v i) (hb : Below wr.heap.size wr wx) : MnInv n ds B w wx v i :=
  ⟨Has.below h.ints hb (Has.lt h.ints), owns_below h.own hb, below_up h.below hb h.below.size⟩
theorem MnInv.step (h : MnInv n ds B w wr v i) (hi : i < ds.length) (hn : ds[i].1 < n) {u : Int} (hu : u = ((cnt (ds.take i) ds[i].1 : Nat) : Int) + 1) : MnInv n ds B w (wr.setCell ⟨w.heap.size, ds[i].1, none⟩ (.int .i64 u)) v (i + 1) := by
  have hg := grownBy_set wr w.heap.size ds[i].1 (.int .i64 u)
  refine ⟨?_, owns_kept_has h.own h.ints (by decide) hg, h.below.setCell (Nat.le_refl _) _⟩
  have hs := h.ints.set ds[i].1 u
  have ht : ds.take (i + 1) = ds.take i ++ [(ds[i].1, ds[i].2)] := List.take_succ_eq_append_getElem hi
  rw [map_range_set (h := fun t => ((cnt (ds.take (i + 1)) t : Nat) : Int)) (by
    rw [ht, cnt_snoc, if_pos rfl, hu]
    simp) (fun t _ hne => by
    rw [ht, cnt_snoc, if_neg (Ne.symm hne)]
    simp)] at hs
  exact hs
theorem MnInv.duty (h : MnInv n ds B w wr v i) (hi : i < ds.length) : ∃ b off cap, v = .slice (some ⟨b, off, none⟩) ds.length cap ∧ ds.length ≤ cap ∧ b < wr.heap.size ∧ wr.cell? ⟨b, off + i * 2, none⟩ = some (.int .i64 (ds[i].1 : Nat)) ∧ wr.cell? ⟨b, off + i * 2 + 1, none⟩ = some (.int .i64 (ds[i].2 : Nat)) := by
  obtain ⟨b, off, cap, hv, hc, hb, hel⟩ := SliceAt.at (duty_slice h.own) (by omega)
  obtain ⟨e0, e1⟩ := duty_cells hel i hi
  exact ⟨b, off, cap, hv, hc, hb, e0, e1⟩
end

theorem cnt_le (ds : List (Nat × Nat)) (i t : Nat) : cnt (ds.take i) t ≤ ds.length := by
  unfold cnt
  have h1 := List.countP_le_length (p := fun d : Nat × Nat => d.1 == t) (l := ds.take i)
  have h2 := List.length_take_le i ds
  have h3 : (ds.take i).length ≤ ds.length := by rw [List.length_take]; omega
  omega
/-- the numbers counted are those of the plan -/
theorem many_plan {ps : List Nat} {g lf : List (Nat × Nat)} (h : ∀ t, t < ps.length → cnt g t + cnt lf t = pOf ps t) :
    ((List.range ps.length).map fun t => ((cnt (g ++ lf) t : Nat) : Int)) = intsOf ps := by
  apply List.ext_getElem
  · simp [intsOf]
  · intro t h1 h2
    have ht : t < ps.length := by simpa using h1
    have := h t ht
    rw [List.getElem_map, List.getElem_range, cnt_append, this]
    simp [intsOf, pOf, ht]

set_option maxRecDepth 100000 in
theorem equal_same (v1 v2 : Value) (ps : List Nat) (w : World) (h1 : NatsAt w v1 ps) (h2 : NatsAt w v2 ps) (hl : ps.length ≤ 1000) :
    Calls Tryd.prog 25 #[v1, v2] w fun e w' => e = .returned (.bool true) ∧ Below w.heap.size w w' := by
  obtain ⟨a1, k1, rfl⟩ := h1.len
  obtain ⟨a2, k2, rfl⟩ := h2.len
  by_cases h0 : ps.length = 0
  · rw [h0]
    refine (Tryd.slices_Equal_int_empty a1 a2 k1 0 k2 w (by omega)).mono ?_
    rintro e w' ⟨rfl, rfl⟩
    exact ⟨by simp, Below.refl _ _⟩
  · obtain ⟨b1, o1, c1, hv1, hb1, he1⟩ := h1.at (by omega)
    obtain ⟨b2, o2, c2, hv2, hb2, he2⟩ := h2.at (by omega)
    simp only [Value.slice.injEq] at hv1 hv2
    obtain ⟨rfl, _, rfl⟩ := hv1
    obtain ⟨rfl, _, rfl⟩ := hv2
    have hil := intsOf_length ps
    refine (Tryd.slices_Equal_int b1 o1 ps.length k1 b2 o2 ps.length k2 (intsOf ps) (intsOf ps) w (by omega) (by omega) (by omega) (by omega) (fun j hj => ?_) (fun j hj => ?_)).mono ?_
    · rw [he1 j (by omega)]
      simp [intsOf, show j < ps.length by omega]
    · rw [he2 j (by omega)]
      simp [intsOf, show j < ps.length by omega]
    · rintro e w' ⟨rfl, q, rfl⟩
      exact ⟨by simp, drewN_below (Below.refl _ _) q⟩

end Go.Proofs.YtfoehmieklldkaaDoor
