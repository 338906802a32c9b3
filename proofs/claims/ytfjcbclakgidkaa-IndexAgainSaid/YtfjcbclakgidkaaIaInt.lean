/- slices.Clone, BinarySearch, Insert, Delete, Equal at ints that lie in memory. -/
import Derived.Test.YtfjcbclakgidkaaIaTm
import Derived.Test.YtfjcbclakgidkaaIaIn1
import Derived.Test.YtfjcbclakgidkaaShelf
import Derived.Sort.OwnSortedInts
namespace Go.Proofs.Ytfjcbclakgidkaa
open Go.RowKit Go.Sort Go.Lib

theorem IntsAt.cells {w : World} {b off cap : Nat} {l : List Int} (h : IntsAt w (.slice (some ⟨b, off, none⟩) l.length cap) l) (h0 : 0 < l.length) : b < w.heap.size ∧ ∀ j, j < l.length → w.cell? ⟨b, off + j, none⟩ = some (.int .i64 (l.getD j 0)) := by
  obtain ⟨b', off', cap', hv, _, hb, hel⟩ := SliceAt.at h.1 h0
  simp only [Value.slice.injEq, Option.some.injEq, Addr.mk.injEq] at hv
  obtain ⟨⟨rfl, rfl, _⟩, _, rfl⟩ := hv
  refine ⟨hb, fun j hj => ints_cell hel j _ ?_⟩
  rw [List.getElem?_eq_getElem hj, List.getD_eq_getElem?_getD, List.getElem?_eq_getElem hj]
  rfl
/-- nothing, or lying somewhere -/
theorem IntsAt.two {w : World} {v : Value} {l : List Int} (h : IntsAt w v l) : (∃ a cap, v = .slice a 0 cap ∧ l = []) ∨ (0 < l.length ∧ ∃ b off cap, v = .slice (some ⟨b, off, none⟩) l.length cap) := by
  rcases h.1 with h | ⟨b, off, cap, rfl, h⟩
  · exact .inl h
  · by_cases h0 : l.length = 0
    · have : l = [] := List.eq_nil_of_length_eq_zero h0
      exact .inl ⟨_, _, by rw [h0], this⟩
    · exact .inr ⟨by omega, b, off, cap, rfl⟩
theorem cloneI (v : Value) (l : List Int) (w : World) (h : IntsAt w v l) (hl : l.length * 8 ≤ 140737488355328) :
    Calls Try.prog 37 #[v] w fun e w' => (∃ v', e = .returned v' ∧ w'.ownsRow w.heap.size 3 1 v' l.length (l.map (Value.int .i64))) ∧ Below w.heap.size w w' := by
  rcases h.two with ⟨a, cap, rfl, rfl⟩ | ⟨h0, b, off, cap, rfl⟩
  · cases a with
    | none =>
      refine (Try.slices_Clone_int_nil 0 cap w).mono ?_
      rintro e w' ⟨rfl, rfl⟩
      exact ⟨⟨_, rfl, World.ownsRow_nil _ _ _ _⟩, Below.refl _ _⟩
    | some ad =>
      refine (Try.slices_Clone_int_zero ad cap w).mono ?_
      rintro e w' ⟨v', rfl, ho, _, hb⟩
      exact ⟨⟨_, rfl, ho⟩, hb⟩
  · refine (Try.slices_Clone_int b off l.length cap l w (Nat.le_refl _) hl (h.cells h0).2).mono ?_
    rintro e w' ⟨v', rfl, ho, _, hb⟩
    rw [List.take_length] at ho
    exact ⟨⟨_, rfl, ho⟩, hb⟩
theorem binI (v : Value) (l : List Int) (x : Int) (w : World) (h : IntsAt w v l) (hl : l.length ≤ 1000000) (hs : l.Pairwise (· ≤ ·)) :
    Calls Try.prog 26 #[v, .int .i64 x] w fun e w' => e = .returned (.tuple #[.int .i64 (l.countP (· < x) : Nat), .bool (l.contains x)]) ∧ Below w.heap.size w w' := by
  rcases h.two with ⟨a, cap, rfl, rfl⟩ | ⟨h0, b, off, cap, rfl⟩
  · refine (Try.slices_BinarySearch_int_empty a cap x w).mono ?_
    rintro e w' ⟨rfl, hw⟩
    exact ⟨rfl, by first | (subst hw; exact Below.refl _ _) | (obtain ⟨q, rfl⟩ := hw; exact drewN_below (Below.refl _ _) q)⟩
  · refine (Try.slices_BinarySearch_int b off l.length cap l x w (Nat.le_refl _) (by omega) (h.cells h0).2 (by rw [List.take_length]; exact hs)).mono ?_
    rintro e w' ⟨rfl, q, rfl⟩
    rw [List.take_length]
    exact ⟨rfl, drewN_below (Below.refl _ _) q⟩
theorem insI (B : Nat) (v : Value) (l : List Int) (i X : Nat) (u : Int) (w : World) (ho : w.ownsRow B 3 1 v l.length (l.map (Value.int .i64))) (hX : Has w X #[.int .i64 u] 3) (hne : v.ownBlock ≠ some X) (hi : i ≤ l.length) (hB : B ≤ w.heap.size) (hl : l.length ≤ 1000000) :
    Calls Try.prog 36 #[v, .int .i64 i, .slice (some ⟨X, 0, none⟩) 1 1] w fun e w' => (∃ v', e = .returned v' ∧ w'.ownsRow B 3 1 v' (l.length + 1) ((l.take i ++ u :: l.drop i).map (Value.int .i64))) ∧ Below B w w' := by
  obtain ⟨a, c, rfl⟩ := owns_slice ho
  by_cases h0 : l.length = 0
  · obtain rfl : l = [] := List.eq_nil_of_length_eq_zero h0
    obtain rfl : i = 0 := by simpa using hi
    refine (insert_zeroI B c X a (.int .i64 u) w ho hX rfl hB).mono ?_
    rintro e w' ⟨v', rfl, ho', hb⟩
    exact ⟨⟨v', rfl, ho'⟩, hb⟩
  · obtain ⟨g, rfl⟩ : ∃ g, a = some ⟨g, 0, none⟩ := by
      rcases ho.2 with ⟨q, _⟩ | ⟨g, cap, cur, q, _⟩
      · simp only [Value.slice.injEq] at q
        omega
      · simp only [Value.slice.injEq] at q
        exact ⟨g, q.1⟩
    refine (insert_anyI B g c l.length i X (l.map (Value.int .i64)) [.int .i64 u] w ho hX rfl (fun e => hne (by rw [e]; rfl)) (by intro z hz; rw [List.mem_singleton.1 hz]; rfl) (by intro z hz; obtain ⟨y, _, rfl⟩ := List.mem_map.1 hz; rfl) hi (by omega) hB (by omega)).mono ?_
    rintro e w' ⟨v', rfl, ho', hb⟩
    refine ⟨⟨v', rfl, ?_⟩, hb⟩
    rw [Nat.mul_one, ← List.map_take, ← List.map_drop] at ho'
    rw [List.map_append, List.map_cons]
    simpa using ho'
theorem SliceAt.front {α : Type} {sz : Nat} {R : World → List Value → α → Prop} {w : World} {a : Option Addr} {n c : Nat} {l : List α} (h : SliceAt sz R w (.slice a n c) l) {m : Nat} (hm : m ≤ n) : SliceAt sz R w (.slice a m c) (l.take m) := by
  rcases h with ⟨a', cap, hv, rfl⟩ | ⟨b, off, cap, hv, hc, hb, hel⟩
  · simp only [Value.slice.injEq] at hv
    obtain ⟨rfl, rfl, rfl⟩ := hv
    obtain rfl : m = 0 := by omega
    exact .inl ⟨a, c, rfl, rfl⟩
  · simp only [Value.slice.injEq] at hv
    obtain ⟨rfl, rfl, rfl⟩ := hv
    have hl : (l.take m).length = m := by rw [List.length_take]; omega
    refine .inr ⟨b, off, c, by rw [hl], by omega, hb, fun i hi => ?_⟩
    rw [hl] at hi
    obtain ⟨cs, h1, h2⟩ := hel i (by omega)
    refine ⟨cs, h1, ?_⟩
    rw [List.getElem_take]
    exact h2
theorem delI (B : Nat) (v : Value) (l : List Int) (i : Nat) (w : World) (ho : w.ownsRow B 3 1 v l.length (l.map (Value.int .i64))) (hi : i < l.length) :
    Calls Try.prog 40 #[v, .int .i64 i, .int .i64 ((i + 1 : Nat) : Int)] w fun e w' => (∃ v', e = .returned v' ∧ IntsAt w' v' (l.take i ++ l.drop (i + 1)) ∧ v'.ownBlock = v.ownBlock) ∧ w.grownBy w' v.ownBlock := by
  rcases ho.2 with ⟨rfl, q⟩ | ⟨g, cap, cur, rfl, h1, h2, h3, h4, h5, h6⟩
  · omega
  · rw [Nat.mul_one] at h6
    refine (Try.slices_Delete_int g 0 cap i (i + 1) l w (holds_of_blockI h2 h6) h3 (by unfold maxLen at h4; omega) (by omega) (by omega)).mono ?_
    rintro e w' ⟨rfl, q, rfl⟩
    have hlen : (l.take i ++ l.drop (i + 1) ++ List.replicate (i + 1 - i) (0 : Int)).length = l.length := by simp; omega
    have ho2 := ownsRow_sortedI (w := w) (base := B) (n := q) (os := #[]) (e := 3) (ss := l) (ts := l.take i ++ l.drop (i + 1) ++ List.replicate (i + 1 - i) (0 : Int)) hlen h1 h2 h3 h4 h5
    have hg := grownBy_sortedI (w := w) (g := g) (n := q) (os := #[]) (l.take i ++ l.drop (i + 1) ++ List.replicate (i + 1 - i) (0 : Int)).toArray
    rw [grow_empty] at ho2 hg
    refine ⟨⟨_, rfl, ?_, rfl⟩, hg⟩
    have hs : SliceAt 1 intR _ _ (l.take i ++ l.drop (i + 1) ++ List.replicate (i + 1 - i) (0 : Int)) := slice_of_owns1 (R := intR) (Value.int .i64) (by rw [hlen]; exact ho2) (fun _ _ => rfl)
    have hf := SliceAt.front hs (m := l.length - (i + 1 - i)) (by omega)
    have hk : (l.take i ++ l.drop (i + 1)).length = l.length - (i + 1 - i) := by simp; omega
    rw [← hk, List.take_left] at hf
    rw [← hk]
    exact ⟨hf, fun c hc => Typed.of_own ho2 c hc⟩
end Go.Proofs.Ytfjcbclakgidkaa
