/- Lists whose elements are right, one by one and pair by pair, as a loop finds them. No program in sight. -/
import Derived.WalkKit
namespace Go.Proofs.YtllcgcnebofdoaaGreatDoor

structure Lst {α : Type} (P : α → Prop) (Q : α → α → Prop) (l : List α) : Prop where
  each : ∀ i (h : i < l.length), P l[i]
  order : ∀ i (h : i + 1 < l.length), Q l[i] l[i + 1]
theorem Lst.nil {α : Type} {P : α → Prop} {Q : α → α → Prop} : Lst P Q [] := ⟨fun i h => absurd h (by simp), fun i h => absurd h (by simp)⟩
theorem Lst.next {α : Type} {P : α → Prop} {Q : α → α → Prop} {l : List α} {i : Nat} (h : Lst P Q (l.take i)) (hi : i < l.length) (hx : P l[i]) (ho : ∀ hp : 0 < i, Q (l[i - 1]'(by omega)) l[i]) : Lst P Q (l.take (i + 1)) := by
  refine ⟨fun j hj => ?_, fun j hj => ?_⟩
  · rw [List.getElem_take]
    rw [List.length_take] at hj
    by_cases g : j = i
    · subst g; exact hx
    · have := h.each j (by rw [List.length_take]; omega)
      rwa [List.getElem_take] at this
  · rw [List.getElem_take, List.getElem_take]
    rw [List.length_take] at hj
    by_cases g : j + 1 = i
    · have := ho (by omega)
      simp only [← g] at this ⊢
      exact this
    · have := h.order j (by rw [List.length_take]; omega)
      rwa [List.getElem_take, List.getElem_take] at this
theorem Lst.mem {α : Type} {P : α → Prop} {Q : α → α → Prop} {l : List α} (h : Lst P Q l) {x : α} (hx : x ∈ l) : P x := by
  obtain ⟨i, hi, rfl⟩ := List.mem_iff_getElem.1 hx
  exact h.each i hi
theorem Lst.before {α : Type} {P : α → Prop} {Q : α → α → Prop} {l : List α} (h : Lst P Q l) {i : Nat} (hi : i < l.length) (hp : 0 < i) : Q (l[i - 1]'(by omega)) l[i] := by
  have := h.order (i - 1) (by omega)
  simpa [Nat.sub_add_cancel hp] using this
end Go.Proofs.YtllcgcnebofdoaaGreatDoor
