/- A slice of structs that a call has built, sorted by the library: from 'owns' to the row kit at k cells, and back. No program in sight. -/
import Derived.Test.YtemikhnkjligdaaGreatDoorQBase
import Derived.Shelf.SlSortCmp.WholeK
import Derived.Test.YtemikhnkjligdaaGreatDoorQRfLaw
import Derived.Test.YtemikhnkjligdaaGreatDoorQShLaw
import Derived.Test.YtemikhnkjligdaaGreatDoorQTools
namespace Go.Proofs.YtemikhnkjligdaaGreatDoor
open Go Go.Shelf Go.RowKit Go.Lib Go.Sort
variable {α : Type} [Inhabited α]

theorem flatK_list (enc : α → List Value) (k : Nat) (hk : ∀ x, (enc x).length = k) (l : List α) : (flatK enc k l.toArray).toList = l.flatMap enc := by
  have hlen : (l.flatMap enc).length = l.length * k := by
    induction l with
    | nil => simp
    | cons x r ih => rw [List.flatMap_cons, List.length_append, hk, ih, List.length_cons, Nat.succ_mul]; omega
  apply List.ext_getElem?
  intro t
  by_cases ht : t < l.length * k
  · have k0 : 0 < k := by rcases Nat.eq_zero_or_pos k with h | h
                          · subst h; simp at ht
                          · exact h
    have hi : t / k < l.length := by rw [Nat.div_lt_iff_lt_mul k0]; exact ht
    have hm : t % k < k := Nat.mod_lt _ k0
    have e := flatMap_at enc k l (fun x _ => hk x) (t / k) (t % k) hi hm
    rw [Nat.div_add_mod'] at e
    rw [e, Array.getElem?_toList, getElem?_pos _ _ (by simpa using ht), ← getElem!_pos _ t (by simpa using ht), get_flatK _ _ _ _ (by simpa using ht)]
    have e2 : l.toArray[t / k]! = l[t / k] := by rw [getElem!_pos _ _ (by simpa using hi)]; simp
    rw [e2, List.getElem?_eq_getElem (by rw [hk]; exact hm), getElem!_pos _ _ (by rw [hk]; exact hm)]
  · rw [List.getElem?_eq_none (by rw [Array.length_toList, size_flatK]; simpa using ht), List.getElem?_eq_none (by rw [hlen]; omega)]

theorem holds_flat {w : World} {g : Nat} {cur : Array Value} {e : TypeId} (F : Array Value) (hb : w.heap[g]? = some (.cells cur e (0, 0))) (ht : cur.toList.take F.size = F.toList) : Holds id w g 0 F := by
  intro j hj
  refine ⟨?_, by simp [World.frozen?, hb]⟩
  have h1 : (cur.toList.take F.size)[j]? = F.toList[j]? := by rw [ht]
  rw [List.getElem?_take_of_lt hj] at h1
  simp only [World.cell?, hb, Nat.zero_add]
  simp only [Option.isSome_none, Bool.false_eq_true, if_false]
  rw [← Array.getElem?_toList, h1, Array.getElem?_toList, getElem!_pos F j hj, Array.getElem?_eq_getElem hj]
  rfl

theorem heap_put {w : World} {g : Nat} {cur : Array Value} {e : TypeId} {fr : Nat × Nat} (F : Array Value) (hb : w.heap[g]? = some (.cells cur e fr)) : (putRow id w g 0 F).heap[g]? = some (.cells (putCells id 0 F cur) e fr) := by
  simp [putRow, mapBlock, Array.getElem?_modify, hb, onCells]
theorem grownBy_sortedK {w : World} {g n k : Nat} {enc : α → List Value} {os : Array Obj} (d : Array α) : w.grownBy (sortWorldK enc k w g 0 n d os) (some g) := by
  refine ⟨rfl, rfl, rfl, by simp [sortWorldK, putRowK], fun j hk hne => ?_⟩
  unfold sortWorldK
  rw [heap_grow_old _ _ (by simpa [putRowK] using hk)]
  have : g ≠ j := fun e => hne (by rw [e])
  simp [putRowK, putRow, mapBlock, Sort.ahead, Array.getElem?_modify, this]
theorem take_put (cur F : Array Value) (h : F.size ≤ cur.size) : (putCells id 0 F cur).toList.take F.size = F.toList := by
  apply List.ext_getElem?
  intro j
  by_cases hj : j < F.size
  · rw [List.getElem?_take_of_lt hj, Array.getElem?_toList]
    simp [putCells, hj, show j < cur.size by omega]
  · rw [List.getElem?_take_eq_none (by omega), List.getElem?_eq_none (by simp; omega)]

/-- the slice as the sort wants it, and as it comes back -/
theorem owns_sortK {w : World} {base g cap k : Nat} {e : TypeId} {enc : α → List Value} (hk : ∀ x, (enc x).length = k) {l : List α}
    (h : w.ownsRow base e k (.slice (some ⟨g, 0, none⟩) l.length cap) l.length (l.flatMap enc)) :
    HoldsK enc k w g 0 l.toArray ∧ g < w.heap.size ∧ ∀ (d : Array α) n os, d.size = l.length →
      (sortWorldK enc k w g 0 n d os).ownsRow base e k (.slice (some ⟨g, 0, none⟩) l.length cap) l.length (d.toList.flatMap enc) := by
  have e1 := flatK_list enc k hk l
  rcases h.2 with ⟨h0, _⟩ | ⟨g', cap', cur, hv, hg, hb, hn, hcap, hs, ht⟩
  · cases h0
  cases hv
  have hsz : (flatK enc k l.toArray).size = l.length * k := by simp
  refine ⟨holds_flat _ hb (by rw [hsz, e1, ht]), (Array.getElem?_eq_some_iff.1 hb).1, fun d n os hd => ?_⟩
  have e2 := flatK_list enc k hk d.toList
  rw [Array.toArray_toList] at e2
  have hsz2 : (flatK enc k d).size = l.length * k := by simp [hd]
  refine ⟨?_, .inr ⟨g, cap, putCells id 0 (flatK enc k d) cur, rfl, hg, ?_, hn, hcap, by simpa [putCells] using hs, ?_⟩⟩
  · rw [← e2, ← hsz2]; simp
  · unfold sortWorldK
    rw [heap_grow_old _ _ (by simpa [putRowK] using (Array.getElem?_eq_some_iff.1 hb).1)]
    exact heap_put (w := Sort.ahead w n) _ hb
  · rw [← e2, ← hsz2]
    exact take_put _ _ (by rw [hsz2, hs]; exact Nat.mul_le_mul_right _ hn)
theorem perm_of_in {l : List α} {d : Array α} (h : PermIn 0 l.toArray.size l.toArray d) : d.toList.Perm l ∧ d.size = l.length := by
  obtain ⟨h1, _, h2⟩ := h
  refine ⟨?_, by simpa using h1⟩
  have hd : d.extract 0 l.toArray.size = d := by rw [← h1]; simp
  rw [hd] at h2
  simpa using h2
theorem pairwise_of_in {d : Array α} {lt : α → α → Bool} {n : Nat} (hn : d.size = n) (h : SortedIn lt 0 n d) : d.toList.Pairwise fun x y => lt y x = false := by
  rw [List.pairwise_iff_getElem]
  intro i j hi hj hij
  have := h i j (Nat.zero_le _) hij (by rw [← hn]; simpa using hj)
  rw [getElem!_pos d i (by simpa using hi), getElem!_pos d j (by simpa using hj)] at this
  simpa using this

end Go.Proofs.YtemikhnkjligdaaGreatDoor

/- The order of waiting work: a strict order of positions. No program in sight. -/
namespace Go.Proofs.YtemikhnkjligdaaGreatDoor
open Go Go.Shelf Go.RowKit Go.Lib Go.Sort

theorem cmpI_lt (a b : Int) : (cmpI a b < 0 ↔ a < b) ∧ (cmpI a b = 0 ↔ a = b) := by
  unfold cmpI
  by_cases h1 : a < b
  · simp [h1]; omega
  · by_cases h2 : b < a
    · simp [h1, h2]; omega
    · simp [h1, h2]; omega
def or3 (a b c : Int) : Int := if a = 0 then (if b = 0 then c else b) else a
def cmpW (x y : WkD) : Int := or3 (cmpI y.urg x.urg) (cmpI x.since y.since) (cmpI x.ticket y.ticket)
theorem cmpW_lt (x y : WkD) : cmpW x y < 0 ↔ (y.urg < x.urg ∨ y.urg = x.urg ∧ (x.since < y.since ∨ x.since = y.since ∧ x.ticket < y.ticket)) := by
  unfold cmpW or3
  have a := cmpI_lt y.urg x.urg
  have b := cmpI_lt x.since y.since
  have c := cmpI_lt x.ticket y.ticket
  by_cases h1 : cmpI y.urg x.urg = 0
  · rw [if_pos h1]
    by_cases h2 : cmpI x.since y.since = 0
    · rw [if_pos h2]; omega
    · rw [if_neg h2]; omega
  · rw [if_neg h1]; omega
theorem swoW {α : Type} (f : α → WkD) : SWO (ltOf fun a b => cmpW (f a) (f b)) where
  irrefl x := by
    unfold ltOf
    simp only
    have := cmpW_lt (f x) (f x)
    exact decide_eq_false (by omega)
  trans x y z h1 h2 := by
    unfold ltOf at *
    simp only at *
    have a := cmpW_lt (f x) (f y)
    have b := cmpW_lt (f y) (f z)
    have c := cmpW_lt (f x) (f z)
    simp only [decide_eq_true_eq] at *
    omega
  ntrans x y z h1 h2 := by
    unfold ltOf at *
    simp only at *
    have a := cmpW_lt (f x) (f y)
    have b := cmpW_lt (f y) (f z)
    have c := cmpW_lt (f x) (f z)
    simp only [decide_eq_false_iff_not] at *
    omega
end Go.Proofs.YtemikhnkjligdaaGreatDoor

/- Blocks of ints, made slices. -/
namespace Go.Proofs.YtemikhnkjligdaaGreatDoor
open Go.RowKit

/-- a block of ints -/
def IntsB (w : World) (b : Nat) (os : List Int) : Prop := Has w b (os.map (Value.int .i64)).toArray 3
theorem IntsB.cells {w : World} {b : Nat} {os : List Int} (h : IntsB w b os) (j : Nat) (hj : j < os.length) : w.cell? ⟨b, j, none⟩ = some (.int .i64 os[j]) ∧ w.frozen? ⟨b, j, none⟩ = false := by
  refine ⟨?_, h.fz j⟩
  rw [h.cell j]
  simp [hj]
theorem IntsB.set {w : World} {b : Nat} {os : List Int} (h : IntsB w b os) (j : Nat) (n : Int) : IntsB (w.setCell ⟨b, j, none⟩ (.int .i64 n)) b (os.set j n) := by
  have := Has.set h j (.int .i64 n)
  unfold IntsB
  rw [List.map_set, ← List.setIfInBounds_toArray]
  exact this
theorem IntsB.slice {w : World} {b cap : Nat} {os : List Int} (h : IntsB w b os) (hc : os.length ≤ cap) : SliceAt 1 intR w (.slice (some ⟨b, 0, none⟩) os.length cap) os :=
  .inr ⟨b, 0, cap, rfl, hc, h.lt, fun i hi => ⟨[.int .i64 os[i]], ⟨rfl, fun j hj => by
    have hj0 : j = 0 := by simpa using hj
    subst hj0
    have := (h.cells i hi).1
    simpa using this⟩, rfl⟩⟩
theorem madeInts (w : World) (n : Nat) : IntsB (w.alloc (.cells (madeCells #[.int .i64 0] n) 3)) w.heap.size (List.replicate n 0) := by
  have : (madeCells #[.int .i64 0] n) = ((List.replicate n (0 : Int)).map (Value.int .i64)).toArray := by
    apply Array.ext
    · simp [madeCells]
    · intro i h1 h2
      simp [madeCells, Nat.mod_one]
  unfold IntsB
  rw [← this]
  exact Has.new _ _ _

theorem make_ints (w : World) (n : Nat) (hn : n ≤ 1000000) :
    (Instr.makeSlice 39 (.int .i64 (n : Int)) (.int .i64 (n : Int))).run Tryz.prog w = .ok (.slice (some ⟨w.heap.size, 0, none⟩) n n) (w.alloc (.cells (madeCells #[.int .i64 0] n) 3)) := by
  obtain ⟨i0, hi, hz0, hz1, hz2⟩ := info_parts infoInt
  have h := run_make (P := Tryz.prog) w 39 3 i0 (.int .i64 0) Tryz.underlying39 hi hz0 .i64 .i64 (n : Int) (n : Int) (by omega) (by omega) (by rw [hz2]; omega) (by omega)
  rw [h, hz1, Nat.mul_one]
  rfl
theorem replicate_map (n : Nat) : List.replicate n (0 : Int) = (List.range n).map fun _ => 0 := by
  apply List.ext_getElem
  · simp
  · intro i h1 h2; simp
theorem map_range_set {g h : Nat → Int} {n s : Nat} {x : Int} (hx : x = h s) (hne : ∀ t, t < n → t ≠ s → h t = g t) : ((List.range n).map g).set s x = (List.range n).map h := by
  subst hx
  apply List.ext_getElem
  · simp
  · intro i h1 h2
    have hi : i < n := by simpa using h2
    by_cases e : i = s
    · subst e; simp
    · rw [List.getElem_set_ne (fun g => e g.symm)]
      simp [hne i hi e]

def rangeL (g : Nat → Nat) (n : Nat) : List Int := (List.range n).map fun i => ((g i : Nat) : Int)
theorem rangeL_length (g : Nat → Nat) (n : Nat) : (rangeL g n).length = n := by simp [rangeL]
theorem rangeL_zero (n : Nat) : rangeL (fun _ => 0) n = List.replicate n 0 := by rw [replicate_map]; rfl
theorem cells_range {w : World} {b : Nat} {g : Nat → Nat} {n : Nat} (h : IntsB w b (rangeL g n)) {j : Nat} (hj : j < n) : w.cell? ⟨b, j, none⟩ = some (.int .i64 (g j : Nat)) ∧ w.frozen? ⟨b, j, none⟩ = false := by
  have := h.cells j (by rw [rangeL_length]; exact hj)
  simpa [rangeL] using this
theorem set_range {w : World} {b : Nat} {g h : Nat → Nat} {n j : Nat} {u : Int} (hI : IntsB w b (rangeL g n)) (hu : u = ((h j : Nat) : Int)) (hne : ∀ t, t < n → t ≠ j → h t = g t) : IntsB (w.setCell ⟨b, j, none⟩ (.int .i64 u)) b (rangeL h n) := by
  have := hI.set j u
  unfold rangeL at this
  rw [map_range_set (h := fun t => ((h t : Nat) : Int)) hu (fun t ht hn => by rw [hne t ht hn])] at this
  exact this

end Go.Proofs.YtemikhnkjligdaaGreatDoor
