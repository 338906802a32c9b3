/- Tools of the walks: blocks of ints, made slices, cmp.Or. -/
import Derived.Test.YtfohehldkchnjaaRows
import Derived.Test.YtfohehldkchnjaaBase
import Derived.BigQuiet
import Derived.Deep.QuietTactic
import Derived.Deep.DeepCutAuto
import Derived.Deep.CutBlock
import Derived.Deep.LoopGhost
import Derived.Deep.RegionHeld3
import Derived.Laws.ResultCell
import Derived.OwnWalk
namespace Go.Proofs.Ytfohehldkchnjaa
open Go.RowKit

theorem below_up {B : Nat} {a w w' : World} (h : Below B a w) (k : Below w.heap.size w w') (hB : B ≤ w.heap.size) : Below B a w' := h.trans (k.mono hB)
theorem below_up' {a w w' : World} (h : Below a.heap.size a w) (k : Below w.heap.size w w') : Below a.heap.size a w' := below_up h k h.size
theorem box1 (w : World) (cs : Array Value) (t : TypeId) : Has (w.alloc (.cells cs t)) w.heap.size cs t ∧ Below w.heap.size w (w.alloc (.cells cs t)) :=
  ⟨Has.new _ _ _, (Below.refl _ _).alloc (Nat.le_refl _) _⟩
theorem ints2_at (w : World) (a b : Int) (t : TypeId) : SliceAt 1 intR (w.alloc (.cells #[.int .i64 a, .int .i64 b] t)) (.slice (some ⟨w.heap.size, 0, none⟩) 2 2) [a, b] := by
  have hx := Has.new w #[.int .i64 a, .int .i64 b] t
  refine .inr ⟨w.heap.size, 0, 2, rfl, by simp, by simp, fun i hi => ?_⟩
  match i, hi with
  | 0, _ => exact ⟨[.int .i64 a], ⟨rfl, fun j hj => by
      have hj0 : j = 0 := by simpa using hj
      subst hj0
      exact hx.cell 0⟩, rfl⟩
  | 1, _ => exact ⟨[.int .i64 b], ⟨rfl, fun j hj => by
      have hj0 : j = 0 := by simpa using hj
      subst hj0
      exact hx.cell 1⟩, rfl⟩


/-- a block of ints -/
def IntsB (w : World) (b : Nat) (os : List Int) : Prop := Has w b (os.map (Value.int .i64)).toArray 3
theorem IntsB.cells {w : World} {b : Nat} {os : List Int} (h : IntsB w b os) (j : Nat) (hj : j < os.length) : w.cell? ⟨b, j, none⟩ = some (.int .i64 os[j]) ∧ w.frozen? ⟨b, j, none⟩ = false := by
  refine ⟨?_, h.fz j⟩
  rw [h.cell j]
  simp [hj]
theorem IntsB.set {w : World} {b : Nat} {os : List Int} (h : IntsB w b os) (j : Nat) (n : Int) : IntsB (w.setCell ⟨b, j, none⟩ (.int .i64 n)) b (os.set j n) := by
  have := Has.set h j (.int .i64 n)
  unfold IntsB
  rw [List.map_set, ← List.setIfInBounds_toArray]
  exact this
theorem IntsB.slice {w : World} {b cap : Nat} {os : List Int} (h : IntsB w b os) (hc : os.length ≤ cap) : SliceAt 1 intR w (.slice (some ⟨b, 0, none⟩) os.length cap) os :=
  .inr ⟨b, 0, cap, rfl, hc, h.lt, fun i hi => ⟨[.int .i64 os[i]], ⟨rfl, fun j hj => by
    have hj0 : j = 0 := by simpa using hj
    subst hj0
    have := (h.cells i hi).1
    simpa using this⟩, rfl⟩⟩
theorem madeInts (w : World) (n : Nat) : IntsB (w.alloc (.cells (madeCells #[.int .i64 0] n) 3)) w.heap.size (List.replicate n 0) := by
  have : (madeCells #[.int .i64 0] n) = ((List.replicate n (0 : Int)).map (Value.int .i64)).toArray := by
    apply Array.ext
    · simp [madeCells]
    · intro i h1 h2
      simp [madeCells, Nat.mod_one]
  unfold IntsB
  rw [← this]
  exact Has.new _ _ _

theorem infoInt : (Try.prog.info? 3).map (fun i => (i.zero, i.size, i.bytes)) = some (some (.int .i64 0), 1, 8) := by kernel_rfl
theorem make_ints (w : World) (n : Nat) (hn : n ≤ 1000000) :
    (Instr.makeSlice 130 (.int .i64 (n : Int)) (.int .i64 (n : Int))).run Try.prog w = .ok (.slice (some ⟨w.heap.size, 0, none⟩) n n) (w.alloc (.cells (madeCells #[.int .i64 0] n) 3)) := by
  obtain ⟨i0, hi, hz0, hz1, hz2⟩ := info_parts infoInt
  have h := run_make (P := Try.prog) w 130 3 i0 (.int .i64 0) Try.underlying130 hi hz0 .i64 .i64 (n : Int) (n : Int) (by omega) (by omega) (by rw [hz2]; omega) (by omega)
  rw [h, hz1, Nat.mul_one]
  rfl
theorem replicate_map (n : Nat) : List.replicate n (0 : Int) = (List.range n).map fun _ => 0 := by
  apply List.ext_getElem
  · simp
  · intro i h1 h2; simp
theorem map_range_set {g h : Nat → Int} {n s : Nat} {x : Int} (hx : x = h s) (hne : ∀ t, t < n → t ≠ s → h t = g t) : ((List.range n).map g).set s x = (List.range n).map h := by
  subst hx
  apply List.ext_getElem
  · simp
  · intro i h1 h2
    have hi : i < n := by simpa using h2
    by_cases e : i = s
    · subst e; simp
    · rw [List.getElem_set_ne (fun g => e g.symm)]
      simp [hne i hi e]

def rangeL (g : Nat → Nat) (n : Nat) : List Int := (List.range n).map fun i => ((g i : Nat) : Int)
theorem rangeL_length (g : Nat → Nat) (n : Nat) : (rangeL g n).length = n := by simp [rangeL]
theorem rangeL_zero (n : Nat) : rangeL (fun _ => 0) n = List.replicate n 0 := by rw [replicate_map]; rfl
theorem cells_range {w : World} {b : Nat} {g : Nat → Nat} {n : Nat} (h : IntsB w b (rangeL g n)) {j : Nat} (hj : j < n) : w.cell? ⟨b, j, none⟩ = some (.int .i64 (g j : Nat)) ∧ w.frozen? ⟨b, j, none⟩ = false := by
  have := h.cells j (by rw [rangeL_length]; exact hj)
  simpa [rangeL] using this
theorem set_range {w : World} {b : Nat} {g h : Nat → Nat} {n j : Nat} {u : Int} (hI : IntsB w b (rangeL g n)) (hu : u = ((h j : Nat) : Int)) (hne : ∀ t, t < n → t ≠ j → h t = g t) : IntsB (w.setCell ⟨b, j, none⟩ (.int .i64 u)) b (rangeL h n) := by
  have := hI.set j u
  unfold rangeL at this
  rw [map_range_set (h := fun t => ((h t : Nat) : Int)) hu (fun t ht hn => by rw [hne t ht hn])] at this
  exact this

/-- the first that is not 0 -/
def orI : List Int → Int
  | [] => 0
  | e :: r => if e = 0 then orI r else e
theorem orI_cons (e : Int) (r : List Int) : orI (e :: r) = if e = 0 then orI r else e := rfl
theorem orI2 (a b : Int) : orI [a, b] = if a = 0 then b else a := by
  simp only [orI]
  split
  · split <;> simp_all
  · rfl
end Go.Proofs.Ytfohehldkchnjaa
