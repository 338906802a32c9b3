/- Plain laws of the merging of rising spans as one goes: what has been told, and the last span that is not told yet. No program in sight. -/
import Derived.Test.YtemikhnkjligdaaGreatDoorQShLaw
namespace Go.Proofs.YtemikhnkjligdaaGreatDoor

def opStep : List Sp × Option Sp → Sp → List Sp × Option Sp
  | (em, none), s => (em, some s)
  | (em, some l), s => if s.1 ≤ l.2 then (em, some (l.1, max l.2 s.2)) else (em ++ [l], some s)
def opFin : List Sp × Option Sp → List Sp
  | (em, none) => em
  | (em, some l) => em ++ [l]
def opSt (pre : List Sp) : List Sp × Option Sp := pre.foldl opStep ([], none)
def lastV : Option Sp → Sp
  | none => (-1, -1)
  | some l => l
theorem opFin_merge : ∀ (r : List Sp) (st : List Sp × Option Sp), opFin (r.foldl opStep st) = st.1 ++ mergeF st.2 r
  | [], (em, none) => by simp [opFin, mergeF]
  | [], (em, some l) => by simp [opFin, mergeF]
  | s :: r, (em, none) => by
    rw [List.foldl_cons, opFin_merge r]
    simp [opStep, mergeF]
  | s :: r, (em, some l) => by
    rw [List.foldl_cons, opFin_merge r]
    by_cases h : s.1 ≤ l.2
    · simp [opStep, mergeF, h]
    · simp [opStep, mergeF, h]
theorem opSt_snoc (pre : List Sp) (x : Sp) : opSt (pre ++ [x]) = opStep (opSt pre) x := by unfold opSt; rw [List.foldl_append]; rfl
theorem opSt_all (xs : List Sp) : opFin (opSt xs) = mergeF none xs := by
  unfold opSt
  rw [opFin_merge]
  rfl
theorem opSt_pre {pre xs : List Sp} (h : pre <+: xs) : (opSt pre).1 <+: mergeF none xs := by
  obtain ⟨r, rfl⟩ := h
  rw [← opSt_all]
  unfold opSt
  rw [List.foldl_append, opFin_merge]
  exact List.prefix_append _ _
theorem opSt_bd {P : Sp → Prop} (hP : ∀ l s : Sp, P l → P s → P (l.1, max l.2 s.2)) : ∀ (r : List Sp) (st : List Sp × Option Sp), (∀ x ∈ r, P x) → (∀ l, st.2 = some l → P l) → ∀ l, (r.foldl opStep st).2 = some l → P l
  | [], st, _, h2, l, hl => h2 l hl
  | s :: r, st, h1, h2, l, hl => by
    refine opSt_bd hP r (opStep st s) (fun x hx => h1 x (List.mem_cons_of_mem _ hx)) ?_ l hl
    obtain ⟨em, o⟩ := st
    intro l' hl'
    cases o with
    | none =>
      simp only [opStep, Option.some.injEq] at hl'
      subst hl'
      exact h1 s List.mem_cons_self
    | some l0 =>
      simp only [opStep] at hl'
      split at hl'
      · simp only [Option.some.injEq] at hl'
        subst hl'
        exact hP l0 s (h2 l0 rfl) (h1 s List.mem_cons_self)
      · simp only [Option.some.injEq] at hl'
        subst hl'
        exact h1 s List.mem_cons_self
theorem opSt_last {pre xs : List Sp} (h : pre <+: xs) (hx : ∀ x ∈ xs, 0 ≤ x.1 ∧ x.1 < x.2 ∧ x.2 ≤ 3000001) {l : Sp} (hl : (opSt pre).2 = some l) : 0 ≤ l.1 ∧ l.1 < l.2 ∧ l.2 ≤ 3000001 :=
  opSt_bd (P := fun x => 0 ≤ x.1 ∧ x.1 < x.2 ∧ x.2 ≤ 3000001) (fun l s h1 h2 => by simp only; omega) pre ([], none) (fun x hm => hx x (h.subset hm)) (fun l hl => by cases hl) l hl

end Go.Proofs.YtemikhnkjligdaaGreatDoor
