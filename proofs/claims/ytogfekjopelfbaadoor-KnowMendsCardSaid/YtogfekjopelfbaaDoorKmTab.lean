/- What the table of common subsequences holds in memory. -/
import Derived.Test.YtogfekjopelfbaaDoorKm1
namespace Go.Proofs.YtogfekjopelfbaaDoor
open Go.RowKit

def rowV (m : Nat) (b : Nat) : Value := .slice (some ⟨b, 0, none⟩) (m + 1) (m + 1)
def lstCells (n m : Nat) (B : Nat → Nat) (i0 : Nat) : Array Value := ((List.range (n + 1)).map fun i => if i0 ≤ i then rowV m (B i) else .slice none 0 0).toArray
theorem lstCells_at {n m : Nat} {B : Nat → Nat} {i0 i : Nat} (h : i ≤ n) (h0 : i0 ≤ i) : (lstCells n m B i0)[i]? = some (rowV m (B i)) := by
  unfold lstCells
  have h' : i < n + 1 := by omega
  simp [h', h0]
theorem lstCells_set {n m : Nat} {B : Nat → Nat} {i : Nat} (h : i ≤ n) (b : Nat) : (lstCells n m B (i + 1)).setIfInBounds i (rowV m b) = lstCells n m (fun t => if t = i then b else B t) i := by
  unfold lstCells
  rw [List.setIfInBounds_toArray]
  congr 1
  apply List.ext_getElem
  · simp
  · intro t h1 h2
    have ht : t < n + 1 := by simpa using h2
    by_cases e : t = i
    · subst e; simp
    · rw [List.getElem_set_ne (fun g => e g.symm)]
      simp only [List.getElem_map, List.getElem_range]
      by_cases g : i ≤ t
      · rw [if_pos (by omega), if_pos g, if_neg e]
      · rw [if_neg (by omega), if_neg g]
theorem lstCells_none {n m : Nat} (B : Nat → Nat) : (madeCells #[Value.slice none 0 0] (n + 1)) = lstCells n m B (n + 1) := by
  apply Array.ext
  · simp [madeCells, lstCells]
  · intro i h1 h2
    have hi : i < n + 1 := by simpa [lstCells] using h2
    have : ¬ n + 1 ≤ i := by omega
    simp [madeCells, lstCells, Nat.mod_one, this]

/-- rows from i0 on are filled -/
structure Tab (w : World) (BL n m : Nat) (B : Nat → Nat) (i0 : Nat) (T : Nat → Nat → Nat) : Prop where
  lst : Has w BL (lstCells n m B i0) 40
  row : ∀ i, i0 ≤ i → i ≤ n → IntsB w (B i) (rangeL (T i) (m + 1))
theorem Tab.below {w w' : World} {BL n m : Nat} {B : Nat → Nat} {i0 : Nat} {T : Nat → Nat → Nat} (h : Tab w BL n m B i0 T) (hb : Below w.heap.size w w') : Tab w' BL n m B i0 T :=
  ⟨h.lst.below hb h.lst.lt, fun i h0 hn => Has.below (h.row i h0 hn) hb (Has.lt (h.row i h0 hn))⟩
theorem has_types {w : World} {b c : Nat} {cs ds : Array Value} {s t : TypeId} (h : Has w b cs s) (k : Has w c ds t) (hst : s ≠ t) : b ≠ c := by
  rintro rfl
  unfold Has at h k
  rw [h] at k
  cases k
  exact hst rfl
theorem Tab.cell {w : World} {BL n m : Nat} {B : Nat → Nat} {i0 : Nat} {T : Nat → Nat → Nat} (h : Tab w BL n m B i0 T) {i j : Nat} (h0 : i0 ≤ i) (hn : i ≤ n) (hj : j ≤ m) :
    w.cell? ⟨BL, i, none⟩ = some (.slice (some ⟨B i, 0, none⟩) (m + 1) (m + 1)) ∧ w.cell? ⟨B i, j, none⟩ = some (.int .i64 (T i j : Nat)) ∧ w.frozen? ⟨B i, j, none⟩ = false := by
  have h1 := cells_range (h.row i h0 hn) (j := j) (by omega)
  refine ⟨?_, h1⟩
  rw [h.lst.cell i, lstCells_at hn h0]; rfl

/-- row i is filled from j on -/
structure TabIn (w : World) (BL n m : Nat) (B : Nat → Nat) (i j : Nat) (T : Nat → Nat → Nat) : Prop where
  lst : Has w BL (lstCells n m B i) 40
  row : ∀ t, i < t → t ≤ n → IntsB w (B t) (rangeL (T t) (m + 1)) ∧ B t ≠ B i
  cur : IntsB w (B i) (rangeL (fun t => if j ≤ t then T i t else 0) (m + 1))
theorem TabIn.cells {w : World} {BL n m : Nat} {B : Nat → Nat} {i j : Nat} {T : Nat → Nat → Nat} (h : TabIn w BL n m B i (j + 1) T) (hi : i < n) (hj : j < m) :
    w.cell? ⟨BL, i, none⟩ = some (.slice (some ⟨B i, 0, none⟩) (m + 1) (m + 1)) ∧ w.cell? ⟨BL, i + 1, none⟩ = some (.slice (some ⟨B (i + 1), 0, none⟩) (m + 1) (m + 1)) ∧
    w.cell? ⟨B (i + 1), j, none⟩ = some (.int .i64 (T (i + 1) j : Nat)) ∧ w.cell? ⟨B (i + 1), j + 1, none⟩ = some (.int .i64 (T (i + 1) (j + 1) : Nat)) ∧
    w.cell? ⟨B i, j + 1, none⟩ = some (.int .i64 (T i (j + 1) : Nat)) ∧ w.cell? ⟨B i, j, none⟩ = some (.int .i64 0) ∧ w.frozen? ⟨B i, j, none⟩ = false := by
  have h1 := (h.row (i + 1) (by omega) (by omega)).1
  have c1 := (cells_range h1 (j := j) (by omega)).1
  have c2 := (cells_range h1 (j := j + 1) (by omega)).1
  have c3 := (cells_range h.cur (j := j + 1) (by omega)).1
  have c4 := cells_range h.cur (j := j) (by omega)
  simp only [Nat.le_refl, if_true] at c3
  rw [if_neg (by omega)] at c4
  refine ⟨?_, ?_, c1, c2, c3, c4.1, c4.2⟩
  · rw [h.lst.cell i, lstCells_at (by omega) (Nat.le_refl _)]; rfl
  · rw [h.lst.cell (i + 1), lstCells_at (by omega) (by omega)]; rfl
theorem TabIn.step {w : World} {BL n m : Nat} {B : Nat → Nat} {i j : Nat} {T : Nat → Nat → Nat} (h : TabIn w BL n m B i (j + 1) T) (_hj : j < m) {u : Int} (hu : u = (T i j : Nat)) :
    TabIn (w.setCell ⟨B i, j, none⟩ (.int .i64 u)) BL n m B i j T := by
  have hne : B i ≠ BL := has_types h.cur h.lst (by decide)
  refine ⟨h.lst.set_other _ _ (Ne.symm hne), fun t h1 h2 => ⟨Has.set_other (h.row t h1 h2).1 _ _ (h.row t h1 h2).2, (h.row t h1 h2).2⟩, ?_⟩
  refine set_range h.cur (h := fun t => if j ≤ t then T i t else 0) (by simp [hu]) (fun t ht hne => ?_)
  by_cases g : j + 1 ≤ t
  · rw [if_pos g, if_pos (by omega)]
  · rw [if_neg g, if_neg (by omega)]
theorem TabIn.done {w : World} {BL n m : Nat} {B : Nat → Nat} {i : Nat} {T : Nat → Nat → Nat} (h : TabIn w BL n m B i 0 T) : Tab w BL n m B i T :=
  ⟨h.lst, fun t h1 h2 => by
    by_cases e : t = i
    · subst e
      have := h.cur
      simpa using this
    · exact (h.row t (by omega) h2).1⟩
/-- a new row -/
theorem Tab.open {w : World} {BL n m : Nat} {B : Nat → Nat} {i : Nat} {T : Nat → Nat → Nat} (h : Tab w BL n m B (i + 1) T) (hi : i ≤ n) (hm : T i m = 0) {u : Value} (hu : u = rowV m w.heap.size) :
    TabIn ((w.setCell ⟨BL, i, none⟩ u).alloc (.cells (madeCells #[.int .i64 0] (m + 1)) 3)) BL n m (fun t => if t = i then w.heap.size else B t) i m T := by
  have hbl := h.lst.lt
  have h1 := madeInts (w.setCell ⟨BL, i, none⟩ u) (m + 1)
  rw [← rangeL_zero, World.size_setCell] at h1
  refine ⟨?_, fun t h2 h3 => ?_, ?_⟩
  · have := Has.alloc (Has.set h.lst i u) (.cells (madeCells #[.int .i64 0] (m + 1)) 3)
    rw [hu, lstCells_set hi] at this
    rw [hu]; exact this
  · have hr := h.row t (by omega) h3
    have hlt := Has.lt hr
    rw [if_neg (by omega), if_pos rfl]
    refine ⟨Has.alloc (Has.set_other hr _ _ ?_) _, by omega⟩
    exact has_types hr h.lst (by decide)
  · rw [if_pos rfl]
    have hz : rangeL (fun t => if m ≤ t then T i t else 0) (m + 1) = rangeL (fun _ => 0) (m + 1) := by
      unfold rangeL
      refine List.map_congr_left fun t ht => ?_
      have ht' : t < m + 1 := by simpa using ht
      congr 1
      show (if m ≤ t then T i t else 0) = 0
      by_cases g : m ≤ t
      · obtain rfl : t = m := by omega
        rw [if_pos g, hm]
      · rw [if_neg g]
    unfold IntsB
    rw [hz]
    exact h1

theorem TabIn.same {w w' : World} {BL n m : Nat} {B : Nat → Nat} {i j : Nat} {T : Nat → Nat → Nat} (h : TabIn w BL n m B i j T) (e : w'.heap = w.heap) : TabIn w' BL n m B i j T :=
  ⟨by unfold Has; rw [e]; exact h.lst, fun t h1 h2 => ⟨by unfold IntsB Has; rw [e]; exact (h.row t h1 h2).1, (h.row t h1 h2).2⟩, by unfold IntsB Has; rw [e]; exact h.cur⟩

end Go.Proofs.YtogfekjopelfbaaDoor
