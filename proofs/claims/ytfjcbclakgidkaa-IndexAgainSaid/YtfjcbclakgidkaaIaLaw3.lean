/- The plain law of IndexAgain: where an entry goes among entries; what a right index looks like. No program in sight. -/
import Derived.Test.YtfjcbclakgidkaaIaLaw2
namespace Go.Proofs.Ytfjcbclakgidkaa

theorem filter_all {A : Type} {p : A → Bool} {l : List A} (h : ∀ a ∈ l, p a = true) : l.filter p = l := List.filter_eq_self.2 h
theorem filter_no {A : Type} {p : A → Bool} {l : List A} (h : ∀ a ∈ l, p a = false) : l.filter p = [] := List.filter_eq_nil_iff.2 (fun a ha => by rw [h a ha]; decide)
/-- entries in two parts: those below, those above -/
theorem insE_parts {v : EnD} {a b : List EnD} (ha : ∀ u ∈ a, u.1 < v.1) (hb : ∀ u ∈ b, v.1 < u.1) : insE v (a ++ b) = a ++ v :: b := by
  unfold insE
  rw [List.filter_append, List.filter_append, filter_all (fun u hu => by simpa using ha u hu), filter_no (l := b) (fun u hu => by have := hb u hu; simp; omega),
    filter_no (l := a) (fun u hu => by have := ha u hu; simp; omega), filter_all (l := b) (fun u hu => by simpa using hb u hu)]
  simp
theorem insE_last {v : EnD} {E : List EnD} (h : ∀ u ∈ E, u.1 < v.1) : insE v E = E ++ [v] := by
  have := insE_parts (v := v) (a := E) (b := []) h (by simp)
  simpa using this
theorem insE_swap {v u : EnD} {a b : List EnD} (hu : u.1 = v.1) (ha : ∀ u ∈ a, u.1 < v.1) (hb : ∀ u ∈ b, v.1 < u.1) : insE v (a ++ u :: b) = a ++ v :: b := by
  rw [← insE_parts ha hb]
  unfold insE
  rw [List.filter_append, List.filter_append, List.filter_append, List.filter_append, List.filter_cons, List.filter_cons, if_neg (by simp [hu]), if_neg (by simp [hu])]
theorem insE_out (v : EnD) (E : List EnD) : insE v (outE v.1 E) = insE v E := by
  unfold insE outE
  rw [List.filter_filter, List.filter_filter]
  have e1 : (E.filter fun a => decide (a.1 < v.1) && decide (a.1 ≠ v.1)) = E.filter fun u => decide (u.1 < v.1) := List.filter_congr fun u _ => by
    by_cases h : u.1 < v.1
    · have : u.1 ≠ v.1 := by omega
      simp [h, this]
    · simp [h]
  have e2 : (E.filter fun a => decide (v.1 < a.1) && decide (a.1 ≠ v.1)) = E.filter fun u => decide (v.1 < u.1) := List.filter_congr fun u _ => by
    by_cases h : v.1 < u.1
    · have : u.1 ≠ v.1 := by omega
      simp [h, this]
    · simp [h]
  rw [e1, e2]
theorem outE_no (v : EnD) (E : List EnD) : ∀ u ∈ outE v.1 E, u.1 ≠ v.1 := by
  intro u hu
  simpa [outE] using (List.mem_filter.1 hu).2
/-- what stands ahead of the first entry that is not below, and behind it -/
theorem asc_take {E : List EnD} (h : AscE E) {k : Nat} (hk : k < E.length) : (∀ u ∈ E.take k, u.1 < E[k].1) ∧ ∀ u ∈ E.drop (k + 1), E[k].1 < u.1 := by
  have h1 : AscE (E.take k ++ E[k] :: E.drop (k + 1)) := by
    rw [← List.drop_eq_getElem_cons hk, List.take_append_drop]
    exact h
  obtain ⟨_, h2, h3⟩ := List.pairwise_append.1 h1
  exact ⟨fun u hu => h3 u hu _ List.mem_cons_self, fun u hu => (List.pairwise_cons.1 h2).1 u hu⟩
/-- the law's own list: with one entry more, or changed -/
def moreE (v : EnD) (E : List EnD) (k : Nat) : List EnD := if h : k < E.length then (if E[k].1 = v.1 then E.set k v else E.take k ++ v :: E.drop k) else E ++ [v]
theorem moreE_ins {v : EnD} {E : List EnD} (h : AscE E) {k : Nat} (h1 : ∀ j (hj : j < E.length), j < k → E[j].1 < v.1) (h2 : ∀ hk : k < E.length, v.1 ≤ E[k].1) (hkl : k ≤ E.length) : moreE v E k = insE v E := by
  have ht : ∀ u ∈ E.take k, u.1 < v.1 := by
    intro u hu
    obtain ⟨j, hj, rfl⟩ := List.mem_iff_getElem.1 hu
    rw [List.getElem_take]
    rw [List.length_take] at hj
    exact h1 j (by omega) (by omega)
  unfold moreE
  split
  · rename_i hk
    have hd := (asc_take h hk).2
    have hE : E = E.take k ++ E[k] :: E.drop (k + 1) := by rw [← List.drop_eq_getElem_cons hk, List.take_append_drop]
    split
    · rename_i e
      rw [e] at hd
      rw [List.set_eq_take_append_cons_drop, if_pos hk]
      conv => rhs; rw [hE]
      rw [insE_swap e ht hd]
    · rename_i e
      have hlt : v.1 < E[k].1 := by have := h2 hk; omega
      conv => rhs; rw [← List.take_append_drop k E]
      rw [insE_parts ht]
      intro u hu
      rw [List.drop_eq_getElem_cons hk] at hu
      rcases List.mem_cons.1 hu with rfl | hu
      · exact hlt
      · exact Int.lt_trans hlt (hd u hu)
  · rename_i hk
    rw [List.take_of_length_le (by omega)] at ht
    exact (insE_last ht).symm
end Go.Proofs.Ytfjcbclakgidkaa
