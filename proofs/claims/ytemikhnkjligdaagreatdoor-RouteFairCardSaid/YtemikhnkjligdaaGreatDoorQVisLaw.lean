/- Plain laws for the walk of the shifts of a day: one more shift; how many there are. No program in sight. -/
import Derived.Test.YtemikhnkjligdaaGreatDoorQShLaw
namespace Go.Proofs.YtemikhnkjligdaaGreatDoor

theorem clip_next (a b beg : Int) {l : List Sp} {i : Nat} (hi : i < l.length) : clipL a b beg (l.take (i + 1)) = clipL a b beg (l.take i) ++ (if max a (beg + l[i].1) < min b (beg + l[i].2) then [(max a (beg + l[i].1), min b (beg + l[i].2))] else []) := by
  rw [List.take_succ_eq_append_getElem hi]
  unfold clipL
  rw [List.map_append, List.filter_append]
  congr 1
  by_cases g : max a (beg + l[i].1) < min b (beg + l[i].2)
  · rw [if_pos g, List.map_cons, List.map_nil, List.filter_cons_of_pos (by simpa using g)]; rfl
  · rw [if_neg g, List.map_cons, List.map_nil, List.filter_cons_of_neg (by simpa using g)]; rfl
theorem clip_prefix (a b beg : Int) (l : List Sp) (i : Nat) : clipL a b beg (l.take i) <+: clipL a b beg l := by
  have e : clipL a b beg l = clipL a b beg (l.take i) ++ clipL a b beg (l.drop i) := by
    conv => lhs; rw [← List.take_append_drop i l]
    unfold clipL
    rw [List.map_append, List.filter_append]
  rw [e]
  exact List.prefix_append _ _
theorem hours_length (l : List Shf) : (hours l).length = l.length := by unfold hours; rw [List.length_map]
theorem hours_at (l : List Shf) (i : Nat) (hi : i < l.length) : (hours l)[i]'(by rw [hours_length]; exact hi) = (l[i].2.1, l[i].2.2) := by
  unfold hours
  rw [List.getElem_map]
theorem shD_length {c : CalD} (h : CalFine c) (d : Int) : (shD c d).length ≤ 60 := by
  unfold shD
  split
  · rename_i sp hsp
    obtain ⟨i, hi, rfl⟩ := List.mem_iff_getElem.1 (List.mem_of_find?_eq_some hsp)
    rw [hours_length]
    have := (h.spc i hi).len
    omega
  · rw [hours_length]
    exact Nat.le_trans (List.length_filter_le _ _) h.wl
theorem days_snoc (c : CalD) (o a b : Int) : ∀ (n : Nat) (d : Int), daysFrom c o a b d (n + 1) = daysFrom c o a b d n ++ clipL a b ((d + n) * 1440 - o) (shD c (d + n))
  | 0, d => by simp [daysFrom]
  | n + 1, d => by
    have ih := days_snoc c o a b n (d + 1)
    have e : d + 1 + (n : Int) = d + ((n + 1 : Nat) : Int) := by omega
    rw [daysFrom, ih, e]
    conv => rhs; rw [daysFrom]
    rw [List.append_assoc]
theorem days_prefix (c : CalD) (o a b d : Int) {m n : Nat} (h : m ≤ n) : daysFrom c o a b d m <+: daysFrom c o a b d n := by
  obtain ⟨k, rfl⟩ := Nat.exists_eq_add_of_le h
  clear h
  induction k with
  | zero => exact List.prefix_rfl
  | succ k ih => exact ih.trans (by rw [show m + (k + 1) = m + k + 1 by omega, days_snoc]; exact List.prefix_append _ _)
theorem prts_bd : ∀ (cs : List (Int × Int)) (f off : Int), ZOk f off cs → 0 ≤ f → f ≤ 3000000 → -1440 ≤ off → off ≤ 1440 → ∀ p ∈ prts f off cs, 0 ≤ p.f ∧ p.f ≤ 3000000 ∧ 0 ≤ p.t ∧ p.t ≤ 3000001 ∧ -1440 ≤ p.o ∧ p.o ≤ 1440
  | [], f, off, _, h1, h2, h3, h4, p, hp => by
    simp only [prts, List.mem_singleton] at hp
    subst hp
    simp only
    omega
  | (a, o) :: r, f, off, h, h1, h2, h3, h4, p, hp => by
    obtain ⟨⟨q1, q2⟩, ⟨q3, q4⟩, q5, _, q6⟩ := h
    simp only [prts, List.mem_cons] at hp
    rcases hp with rfl | hp
    · simp only
      omega
    · exact prts_bd r a o q6 (by omega) q2 q3 q4 p hp
theorem flat_next {α β : Type} (f : α → List β) {l : List α} {i : Nat} (hi : i < l.length) : (l.take (i + 1)).flatMap f = (l.take i).flatMap f ++ f l[i] := by
  rw [List.take_succ_eq_append_getElem hi, List.flatMap_append]
  simp
theorem flat_prefix {α β : Type} (f : α → List β) (l : List α) (i : Nat) : (l.take i).flatMap f <+: l.flatMap f := by
  conv => rhs; rw [← List.take_append_drop i l, List.flatMap_append]
  exact List.prefix_append _ _

end Go.Proofs.YtemikhnkjligdaaGreatDoor
