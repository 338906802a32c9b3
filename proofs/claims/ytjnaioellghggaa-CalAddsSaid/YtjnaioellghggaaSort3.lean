/- slices.Sort of three ints in a block of the call's own. -/
import Derived.Test.YtjnaioellghggaaCOpen
import Derived.Test.YtjnaioellghggaaShelf
import Derived.Sort.OwnSortedInts
namespace Go.Proofs.Ytjnaioellghggaa
open Go Go.RowKit Go.Shelf Go.Sort Go.ChangeShapes Go.WideShapes

theorem sorted3 (x y z : Int) : ∃ a b c, [x, y, z].mergeSort (fun x y => decide (x ≤ y)) = [a, b, c] ∧ a ≤ b ∧ b ≤ c := by
  have hl : ([x, y, z].mergeSort (fun x y => decide (x ≤ y))).length = 3 := by rw [List.length_mergeSort]; rfl
  obtain ⟨a, b, c, h⟩ := len3 hl
  have hs := List.pairwise_mergeSort (le := fun x y : Int => decide (x ≤ y)) (fun a b c h k => by simp at *; omega) (fun a b => by simp; omega) [x, y, z]
  rw [h] at hs
  refine ⟨a, b, c, h, ?_, ?_⟩
  · have := List.rel_of_pairwise_cons hs (List.mem_cons_self : b ∈ [b, c])
    simpa using this
  · have := List.rel_of_pairwise_cons (List.Pairwise.of_cons hs) (List.mem_cons_self : c ∈ [c])
    simpa using this
set_option maxRecDepth 100000 in
theorem sort3_any (x y z : Int) (B : Nat) (w : World) (h : Has w B #[.int .i64 x, .int .i64 y, .int .i64 z] 3) :
    Calls Try.prog 17 #[.slice (some ⟨B, 0, none⟩) 3 3] w fun e w' => e = .returned (.tuple #[]) ∧ ∃ a b c, a ≤ b ∧ b ≤ c ∧ Has w' B #[.int .i64 a, .int .i64 b, .int .i64 c] 3 ∧ w.grownBy w' (some B) := by
  refine (Try.slices_Sort_int B 0 3 [x, y, z] w (holds_of_blockI (ss := [x, y, z]) h rfl) h.lt (by simp)).mono ?_
  rintro e w' ⟨rfl, n, os, rfl⟩
  obtain ⟨a, b, c, hs, h1, h2⟩ := sorted3 x y z
  refine ⟨rfl, a, b, c, h1, h2, ?_, grownBy_sortedI _⟩
  have := heap_sortedI (n := n) (os := os) ([x, y, z].mergeSort fun x y => decide (x ≤ y)).toArray h
  rw [hs] at this ⊢
  exact this
end Go.Proofs.Ytjnaioellghggaa
