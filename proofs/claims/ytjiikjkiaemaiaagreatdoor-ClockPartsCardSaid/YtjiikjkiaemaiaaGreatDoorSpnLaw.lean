/- Plain law: a right calendar has at most 50000 open spans between two moments. No program in sight. -/
import Derived.Test.YtjiikjkiaemaiaaGreatDoorCalLaw
namespace Go.Proofs.YtjiikjkiaemaiaaGreatDoor

theorem merge_len : ∀ (r : List Sp) (o : Option Sp), (mergeF o r).length ≤ r.length + (match o with | some _ => 1 | none => 0)
  | [], none => by simp [mergeF]
  | [], some l => by simp [mergeF]
  | s :: r, none => by
    have := merge_len r (some s)
    simp only [mergeF, List.length_cons] at this ⊢
    omega
  | s :: r, some l => by
    simp only [mergeF]
    split
    · have := merge_len r (some (l.1, max l.2 s.2))
      simp only [List.length_cons] at this ⊢
      omega
    · have := merge_len r (some s)
      simp only [List.length_cons] at this ⊢
      omega
theorem clip_len (a b beg : Int) (l : List Sp) : (clipL a b beg l).length ≤ l.length := by
  unfold clipL
  refine Nat.le_trans (List.length_filter_le _ _) ?_
  rw [List.length_map]
  exact Nat.le_refl _
/-- how many week's shifts begin on a day of the week -/
def wkN (c : CalD) (j : Int) : Nat := (c.wk.filter fun x => decide (x.1 = j)).length
def exN (c : CalD) (j : Int) : Nat := wkN c j - 12
theorem shD_len {c : CalD} (h : CalFine c) (d : Int) : (shD c d).length ≤ 12 + exN c (d % 7) := by
  unfold shD
  split
  · rename_i s hs
    have hm := List.mem_of_find?_eq_some hs
    obtain ⟨i, hi, rfl⟩ := List.mem_iff_getElem.1 hm
    have := (h.spc i hi).len
    unfold hours
    rw [List.length_map]
    omega
  · unfold hours exN wkN
    rw [List.length_map]
    omega
theorem wk_sum : ∀ (l : List Shf), (l.filter fun x => decide (x.1 = 0)).length + (l.filter fun x => decide (x.1 = 1)).length + (l.filter fun x => decide (x.1 = 2)).length + (l.filter fun x => decide (x.1 = 3)).length + (l.filter fun x => decide (x.1 = 4)).length + (l.filter fun x => decide (x.1 = 5)).length + (l.filter fun x => decide (x.1 = 6)).length ≤ l.length
  | [] => by simp
  | x :: r => by
    have ih := wk_sum r
    simp only [List.filter_cons, List.length_cons]
    by_cases h0 : x.1 = 0
    · simp [h0]; omega
    by_cases h1 : x.1 = 1
    · simp [h1]; omega
    by_cases h2 : x.1 = 2
    · simp [h2]; omega
    by_cases h3 : x.1 = 3
    · simp [h3]; omega
    by_cases h4 : x.1 = 4
    · simp [h4]; omega
    by_cases h5 : x.1 = 5
    · simp [h5]; omega
    by_cases h6 : x.1 = 6
    · simp [h6]; omega
    simp [h0, h1, h2, h3, h4, h5, h6]
    omega
theorem ex_sum {c : CalD} (h : CalFine c) : exN c 0 + exN c 1 + exN c 2 + exN c 3 + exN c 4 + exN c 5 + exN c 6 ≤ 48 := by
  have h1 := wk_sum c.wk
  have h2 := h.wl
  unfold exN wkN
  omega
/-- the shifts of n days from d on -/
def dayN (c : CalD) (d : Int) : Nat → Nat
  | 0 => 0
  | n + 1 => exN c (d % 7) + dayN c (d + 1) n
theorem dayN_add (c : CalD) : ∀ (m n : Nat) (d : Int), dayN c d (m + n) = dayN c d m + dayN c (d + m) n
  | 0, n, d => by simp [dayN]
  | m + 1, n, d => by
    rw [show m + 1 + n = (m + n) + 1 by omega, dayN, dayN, dayN_add c m n (d + 1), show d + 1 + (m : Int) = d + ((m + 1 : Nat) : Int) by omega]
    omega
theorem dayN_week {c : CalD} (h : CalFine c) (d : Int) : dayN c d 7 ≤ 48 := by
  have hs := ex_sum h
  simp only [dayN]
  have e : d % 7 = 0 ∨ d % 7 = 1 ∨ d % 7 = 2 ∨ d % 7 = 3 ∨ d % 7 = 4 ∨ d % 7 = 5 ∨ d % 7 = 6 := by omega
  have f1 : (d + 1) % 7 = (d % 7 + 1) % 7 := by omega
  have f2 : (d + 1 + 1) % 7 = (d % 7 + 2) % 7 := by omega
  have f3 : (d + 1 + 1 + 1) % 7 = (d % 7 + 3) % 7 := by omega
  have f4 : (d + 1 + 1 + 1 + 1) % 7 = (d % 7 + 4) % 7 := by omega
  have f5 : (d + 1 + 1 + 1 + 1 + 1) % 7 = (d % 7 + 5) % 7 := by omega
  have f6 : (d + 1 + 1 + 1 + 1 + 1 + 1) % 7 = (d % 7 + 6) % 7 := by omega
  rw [f1, f2, f3, f4, f5, f6]
  rcases e with e | e | e | e | e | e | e <;> rw [e] <;> simp only [Int.reduceAdd, Int.reduceMod] <;> omega
theorem dayN_mono (c : CalD) (d : Int) {m n : Nat} (h : m ≤ n) : dayN c d m ≤ dayN c d n := by
  obtain ⟨k, rfl⟩ := Nat.exists_eq_add_of_le h
  rw [dayN_add]
  omega
theorem dayN_le {c : CalD} (h : CalFine c) : ∀ (k n : Nat) (d : Int), n ≤ 7 * k → dayN c d n ≤ 48 * k
  | 0, n, d, hn => by
    obtain rfl : n = 0 := by omega
    simp [dayN]
  | k + 1, n, d, hn => by
    by_cases g : n ≤ 7
    · have := dayN_mono c d g
      have := dayN_week h d
      omega
    · obtain ⟨m, rfl⟩ : ∃ m, n = 7 + m := ⟨n - 7, by omega⟩
      rw [dayN_add]
      have := dayN_week h d
      have := dayN_le h k m (d + (7 : Nat)) (by omega)
      omega
theorem days_len {c : CalD} (h : CalFine c) (o a b : Int) : ∀ (n : Nat) (d : Int), (daysFrom c o a b d n).length ≤ 12 * n + dayN c d n
  | 0, _ => by simp [daysFrom]
  | n + 1, d => by
    have ih := days_len h o a b n (d + 1)
    have h1 := clip_len a b (d * 1440 - o) (shD c d)
    have h2 := shD_len h d
    rw [daysFrom, List.length_append, dayN]
    omega
theorem part_len {c : CalD} (h : CalFine c) (fr to : Int) (p : Pt) (hp : p.f ≤ p.t) : ((partL c fr to p).length : Int) * 10080 ≤ 132 * (p.t - p.f) + 1100000 := by
  unfold partL
  split
  · simp only [List.length_nil]
    omega
  · rename_i hlt
    generalize hn : (((min to p.t - 1 + p.o) / 1440 - ((max fr p.f + p.o) / 1440 - 1)).toNat + 1) = n
    have h1 := days_len h p.o (max fr p.f) (min to p.t) n ((max fr p.f + p.o) / 1440 - 1)
    have h2 := dayN_le h (n / 7 + 1) n ((max fr p.f + p.o) / 1440 - 1) (by omega)
    generalize (daysFrom c p.o (max fr p.f) (min to p.t) ((max fr p.f + p.o) / 1440 - 1) n).length = L at *
    have hL : L ≤ 12 * n + 48 * (n / 7 + 1) := Nat.le_trans h1 (Nat.add_le_add_left h2 _)
    have hn2 : (n : Int) * 1440 ≤ (p.t - p.f) + 4320 := by
      rw [← hn]
      have ha : min to p.t ≤ p.t := by omega
      have hb : p.f ≤ max fr p.f := by omega
      have hc : max fr p.f < min to p.t := by omega
      generalize min to p.t = B at *
      generalize max fr p.f = A at *
      omega
    omega
theorem parts_len {c : CalD} (h : CalFine c) (fr to : Int) : ∀ (cs : List (Int × Int)) (f o off : Int), ZOk f off cs → f ≤ 3000001 → (((prts f o cs).flatMap (partL c fr to)).length : Int) * 10080 ≤ 132 * (3000001 - f) + 1100000 * ((cs.length : Int) + 1)
  | [], f, o, off, _, hf => by
    simp only [prts, List.flatMap_cons, List.flatMap_nil, List.append_nil]
    have := part_len h fr to ⟨f, 3000001, o⟩ hf
    simp only [List.length_nil] at this ⊢
    omega
  | (a, p) :: r, f, o, off, hz, hf => by
    obtain ⟨⟨z1, z2⟩, _, z3, _, z5⟩ := hz
    have ih := parts_len h fr to r a p p z5 (by omega)
    have h1 := part_len h fr to ⟨f, a, o⟩ (by simp only; omega)
    simp only [prts, List.flatMap_cons, List.length_append, List.length_cons] at ih h1 ⊢
    push_cast at ih h1 ⊢
    omega
theorem open_few {c : CalD} (h : CalFine c) (fr to : Int) : (openL c fr to).length ≤ 50000 := by
  have h1 := merge_len (shiftL c fr to) none
  have h2 := parts_len h fr to c.cs 0 c.off c.off h.zone.ok (by omega)
  have h3 := h.zone.len
  unfold openL
  simp only at h1
  unfold shiftL at h1 ⊢
  generalize ((prts 0 c.off c.cs).flatMap (partL c fr to)).length = L at *
  omega
end Go.Proofs.YtjiikjkiaemaiaaGreatDoor
