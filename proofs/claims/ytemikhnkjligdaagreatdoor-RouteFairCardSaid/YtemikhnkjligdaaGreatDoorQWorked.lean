/- The walk of cal.Worked. -/
import Derived.Test.YtemikhnkjligdaaGreatDoorQOp1
namespace Go.Proofs.YtemikhnkjligdaaGreatDoor
open Go Go.RowKit Go.Shelf
attribute [local go_sem] Oper.semAt_some

theorem lens_snoc (l : List Sp) (x : Sp) : lens (l ++ [x]) = lens l + (x.2 - x.1) := by
  rw [lens_append]
  simp [lens]
theorem lens_pre {pre xs : List Sp} {lo hi : Int} (hp : pre <+: xs) (h : Apart lo hi xs) (hlo : lo ≤ hi) : 0 ≤ lens pre ∧ lens pre ≤ hi - lo := by
  obtain ⟨r, rfl⟩ := hp
  have h1 := lens_cnt h hlo
  rw [lens_append] at h1
  have hge : ∀ l : List Sp, (∀ s ∈ l, s.1 < s.2) → 0 ≤ lens l := by
    intro l
    induction l with
    | nil => intro _; exact Int.le_refl _
    | cons s r ih =>
      intro hs
      have := ih (fun x hx => hs x (List.mem_cons_of_mem _ hx))
      have := hs s List.mem_cons_self
      simp only [lens]
      omega
  have h2 := hge pre (fun s hs => (h.mem s (List.mem_append_left _ hs)).2.1)
  have h3 := hge r (fun s hs => (h.mem s (List.mem_append_right _ hs)).2.1)
  have h4 := cnt_le (covB (pre ++ r)) lo hi
  omega

/-- what a consumer's loop keeps: one cell of its own, and what was there when the function was entered -/
structure KeepCell (w : World) (B : Nat) (t : TypeId) (v : Value) (O : Blocks) (W : World) : Prop where
  cell : Has W B #[v] t
  below : Below w.heap.size w W
  off : ¬ O B
  own : ∀ k, O k → w.heap.size ≤ k
theorem keepCell_abides {w : World} {B : Nat} {t : TypeId} {v : Value} : Abides (KeepCell w B t v) := by
  intro O W O' W' h ht ho hs
  have hb := h.cell.lt
  have hz := h.below.size
  have ho' : ∀ k, O' k → w.heap.size ≤ k := fun k g => by
    rcases ho k g with g | g
    · exact h.own k g
    · omega
  refine ⟨ht.has h.cell h.off, ht.below h.below hz h.own, fun g => ?_, ho'⟩
  rcases ho _ g with g | g
  · exact h.off g
  · omega

theorem keepCell_next {w : World} {B : Nat} {t : TypeId} {v u : Value} {O R : Blocks} {W : World} (h : KeepCell w B t v O W) (hB : w.heap.size ≤ B) (hR : ¬ R B) : Held O R W (W.setCell ⟨B, 0, none⟩ u) ∧ KeepCell w B t u O (W.setCell ⟨B, 0, none⟩ u) := by
  refine ⟨Held.of_turns (Turns.setCell (O := fun k => k = B) _ _ rfl) ?_, ⟨h.cell.set 0 u, h.below.setCell (p := ⟨B, 0, none⟩) hB _, h.off, h.own⟩⟩
  rintro k (g | g) rfl
  · exact h.off g
  · exact hR g

def WkPost (c : CalD) (fr en : Int) (w : World) (e : Ending) (w' : World) : Prop :=
  ∃ n k : Int, e = .returned (.tuple #[.int .i64 n, .int .i64 k]) ∧ (k = 0 ↔ CkFine c ∧ strI fr en = 0) ∧ (k = 0 → n = lens (openL c fr en)) ∧ (k ≠ 0 → n = 0) ∧ Below w.heap.size w w'

/-- the frame and the world as a round begins -/
def WkAx (T : Value → Value → Array Value) (x : Sp) (n : Nat) (a : Act) (W : World) : Prop :=
  ∃ Bx, n ≤ Bx ∧ Bx < W.heap.size ∧ Has W Bx #[.int .i64 x.1, .int .i64 x.2] 163 ∧ a = { tmps := T (.pointer (some ⟨Bx, 0, none⟩)) (.agg #[.int .i64 x.1, .int .i64 x.2]), defers := [] }
theorem wkAx_put {T : Value → Value → Array Value} {D : Nat} {x : Sp} {n : Nat} {a : Act} {W : World} (o : Obj) (h : WkAx T x n a W) (hD : D < n) : WkAx T x n a (W.putObj D o) := by
  obtain ⟨Bx, h1, h2, h3, h4⟩ := h
  exact ⟨Bx, h1, by simpa using h2, (World.putObj_heap_other (by omega)).trans h3, h4⟩

end Go.Proofs.YtemikhnkjligdaaGreatDoor
