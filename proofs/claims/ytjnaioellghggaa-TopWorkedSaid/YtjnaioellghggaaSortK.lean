/- A slice of structs that a call has built, sorted by the library: from 'owns' to the row kit at k cells, and back. No program in sight. -/
import Derived.Test.YtjnaioellghggaaBase
import Derived.Shelf.SlSortCmp.WholeK
namespace Go.Proofs.Ytjnaioellghggaa
open Go Go.Shelf Go.RowKit Go.Lib Go.Sort
variable {α : Type} [Inhabited α]

theorem flatK_list (enc : α → List Value) (k : Nat) (hk : ∀ x, (enc x).length = k) (l : List α) : (flatK enc k l.toArray).toList = l.flatMap enc := by
  have hlen : (l.flatMap enc).length = l.length * k := by
    induction l with
    | nil => simp
    | cons x r ih => rw [List.flatMap_cons, List.length_append, hk, ih, List.length_cons, Nat.succ_mul]; omega
  apply List.ext_getElem?
  intro t
  by_cases ht : t < l.length * k
  · have k0 : 0 < k := by rcases Nat.eq_zero_or_pos k with h | h
                          · subst h; simp at ht
                          · exact h
    have hi : t / k < l.length := by rw [Nat.div_lt_iff_lt_mul k0]; exact ht
    have hm : t % k < k := Nat.mod_lt _ k0
    have e := flatMap_at enc k l (fun x _ => hk x) (t / k) (t % k) hi hm
    rw [Nat.div_add_mod'] at e
    rw [e, Array.getElem?_toList, getElem?_pos _ _ (by simpa using ht), ← getElem!_pos _ t (by simpa using ht), get_flatK _ _ _ _ (by simpa using ht)]
    have e2 : l.toArray[t / k]! = l[t / k] := by rw [getElem!_pos _ _ (by simpa using hi)]; simp
    rw [e2, List.getElem?_eq_getElem (by rw [hk]; exact hm), getElem!_pos _ _ (by rw [hk]; exact hm)]
  · rw [List.getElem?_eq_none (by rw [Array.length_toList, size_flatK]; simpa using ht), List.getElem?_eq_none (by rw [hlen]; omega)]

theorem holds_flat {w : World} {g : Nat} {cur : Array Value} {e : TypeId} (F : Array Value) (hb : w.heap[g]? = some (.cells cur e (0, 0))) (ht : cur.toList.take F.size = F.toList) : Holds id w g 0 F := by
  intro j hj
  refine ⟨?_, by simp [World.frozen?, hb]⟩
  have h1 : (cur.toList.take F.size)[j]? = F.toList[j]? := by rw [ht]
  rw [List.getElem?_take_of_lt hj] at h1
  simp only [World.cell?, hb, Nat.zero_add]
  simp only [Option.isSome_none, Bool.false_eq_true, if_false]
  rw [← Array.getElem?_toList, h1, Array.getElem?_toList, getElem!_pos F j hj, Array.getElem?_eq_getElem hj]
  rfl

theorem heap_put {w : World} {g : Nat} {cur : Array Value} {e : TypeId} {fr : Nat × Nat} (F : Array Value) (hb : w.heap[g]? = some (.cells cur e fr)) : (putRow id w g 0 F).heap[g]? = some (.cells (putCells id 0 F cur) e fr) := by
  simp [putRow, mapBlock, Array.getElem?_modify, hb, onCells]
theorem grownBy_sortedK {w : World} {g n k : Nat} {enc : α → List Value} {os : Array Obj} (d : Array α) : w.grownBy (sortWorldK enc k w g 0 n d os) (some g) := by
  refine ⟨rfl, rfl, rfl, by simp [sortWorldK, putRowK], fun j hk hne => ?_⟩
  unfold sortWorldK
  rw [heap_grow_old _ _ (by simpa [putRowK] using hk)]
  have : g ≠ j := fun e => hne (by rw [e])
  simp [putRowK, putRow, mapBlock, Sort.ahead, Array.getElem?_modify, this]
theorem take_put (cur F : Array Value) (h : F.size ≤ cur.size) : (putCells id 0 F cur).toList.take F.size = F.toList := by
  apply List.ext_getElem?
  intro j
  by_cases hj : j < F.size
  · rw [List.getElem?_take_of_lt hj, Array.getElem?_toList]
    simp [putCells, hj, show j < cur.size by omega]
  · rw [List.getElem?_take_eq_none (by omega), List.getElem?_eq_none (by simp; omega)]

/-- the slice as the sort wants it, and as it comes back -/
theorem owns_sortK {w : World} {base g cap k : Nat} {e : TypeId} {enc : α → List Value} (hk : ∀ x, (enc x).length = k) {l : List α}
    (h : w.ownsRow base e k (.slice (some ⟨g, 0, none⟩) l.length cap) l.length (l.flatMap enc)) :
    HoldsK enc k w g 0 l.toArray ∧ g < w.heap.size ∧ ∀ (d : Array α) n os, d.size = l.length →
      (sortWorldK enc k w g 0 n d os).ownsRow base e k (.slice (some ⟨g, 0, none⟩) l.length cap) l.length (d.toList.flatMap enc) := by
  have e1 := flatK_list enc k hk l
  rcases h.2 with ⟨h0, _⟩ | ⟨g', cap', cur, hv, hg, hb, hn, hcap, hs, ht⟩
  · cases h0
  cases hv
  have hsz : (flatK enc k l.toArray).size = l.length * k := by simp
  refine ⟨holds_flat _ hb (by rw [hsz, e1, ht]), (Array.getElem?_eq_some_iff.1 hb).1, fun d n os hd => ?_⟩
  have e2 := flatK_list enc k hk d.toList
  rw [Array.toArray_toList] at e2
  have hsz2 : (flatK enc k d).size = l.length * k := by simp [hd]
  refine ⟨?_, .inr ⟨g, cap, putCells id 0 (flatK enc k d) cur, rfl, hg, ?_, hn, hcap, by simpa [putCells] using hs, ?_⟩⟩
  · rw [← e2, ← hsz2]; simp
  · unfold sortWorldK
    rw [heap_grow_old _ _ (by simpa [putRowK] using (Array.getElem?_eq_some_iff.1 hb).1)]
    exact heap_put (w := Sort.ahead w n) _ hb
  · rw [← e2, ← hsz2]
    exact take_put _ _ (by rw [hsz2, hs]; exact Nat.mul_le_mul_right _ hn)
theorem perm_of_in {l : List α} {d : Array α} (h : PermIn 0 l.toArray.size l.toArray d) : d.toList.Perm l ∧ d.size = l.length := by
  obtain ⟨h1, _, h2⟩ := h
  refine ⟨?_, by simpa using h1⟩
  have hd : d.extract 0 l.toArray.size = d := by rw [← h1]; simp
  rw [hd] at h2
  simpa using h2
theorem pairwise_of_in {d : Array α} {lt : α → α → Bool} {n : Nat} (hn : d.size = n) (h : SortedIn lt 0 n d) : d.toList.Pairwise fun x y => lt y x = false := by
  rw [List.pairwise_iff_getElem]
  intro i j hi hj hij
  have := h i j (Nat.zero_le _) hij (by rw [← hn]; simpa using hj)
  rw [getElem!_pos d i (by simpa using hi), getElem!_pos d j (by simpa using hj)] at this
  simpa using this

end Go.Proofs.Ytjnaioellghggaa
