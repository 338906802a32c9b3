/- Plain laws of the parts of a clock's time: what goes on to a moment keeps them right, and what is counted of them. No program in sight. -/
import Derived.Test.YtjiikjkiaemaiaaGreatDoorClkLaw
namespace Go.Proofs.YtjiikjkiaemaiaaGreatDoor

/-- a part: from, to, what it is -/
abbrev Prt := Int × Int × Int
def cntP (p : Prt) : Int := if p.2.2 = 1 then p.2.1 - p.1 else 0
/-- right parts, the last one first, from a to b; so much of them is counted -/
def PtR (a : Int) : List Prt → Int → Int → Prop
  | [], b, cn => b = a ∧ cn = 0
  | p :: r, b, cn => p.2.1 = b ∧ p.1 < p.2.1 ∧ (∀ q ∈ r.head?, q.2.2 ≠ p.2.2) ∧ PtR a r p.1 (cn - cntP p)
theorem PtR.len {a : Int} : ∀ {R : List Prt} {b cn : Int}, PtR a R b cn → (R.length : Int) ≤ b - a ∧ a ≤ b
  | [], b, cn, ⟨h, _⟩ => by simp only [List.length_nil]; omega
  | p :: r, b, cn, ⟨h1, h2, _, h4⟩ => by
    have := PtR.len h4
    simp only [List.length_cons]
    push_cast
    omega
/-- going on to a moment -/
def upR (m : Int) (R : List Prt) (at' en what : Int) : List Prt :=
  if min en m ≤ at' then R else match R with
    | p :: r => if p.2.2 = what then (p.1, min en m, what) :: r else (at', min en m, what) :: p :: r
    | [] => [(at', min en m, what)]
def upA (m at' en : Int) : Int := if min en m ≤ at' then at' else min en m
theorem upR_skip {m at' en what : Int} {R : List Prt} (h : min en m ≤ at') : upR m R at' en what = R ∧ upA m at' en = at' := by
  unfold upR upA
  rw [if_pos h, if_pos h]
  exact ⟨rfl, rfl⟩
theorem upR_nil {m at' en what : Int} (h : ¬ min en m ≤ at') : upR m [] at' en what = [(at', min en m, what)] ∧ upA m at' en = min en m := by
  unfold upR upA
  rw [if_neg h, if_neg h]
  exact ⟨rfl, rfl⟩
theorem upR_same {m at' en what : Int} {p : Prt} {r : List Prt} (h : ¬ min en m ≤ at') (hp : p.2.2 = what) : upR m (p :: r) at' en what = (p.1, min en m, what) :: r ∧ upA m at' en = min en m := by
  unfold upR upA
  rw [if_neg h, if_neg h]
  simp only [if_pos hp]
  exact ⟨trivial, trivial⟩
theorem upR_new {m at' en what : Int} {p : Prt} {r : List Prt} (h : ¬ min en m ≤ at') (hp : p.2.2 ≠ what) : upR m (p :: r) at' en what = (at', min en m, what) :: p :: r ∧ upA m at' en = min en m := by
  unfold upR upA
  rw [if_neg h, if_neg h]
  simp only [if_neg hp]
  exact ⟨trivial, trivial⟩
theorem up_ok {a m at' en what : Int} {R : List Prt} {cn : Int} (h : PtR a R at' cn) : PtR a (upR m R at' en what) (upA m at' en) (cn + if what = 1 then upA m at' en - at' else 0) := by
  unfold upR upA
  by_cases g : min en m ≤ at'
  · rw [if_pos g, if_pos g]
    have e : cn + (if what = 1 then at' - at' else 0) = cn := by split <;> omega
    rw [e]
    exact h
  · rw [if_neg g, if_neg g]
    cases R with
    | nil =>
      refine ⟨rfl, by simp only; omega, by simp, ?_⟩
      obtain ⟨h1, h2⟩ := h
      refine ⟨h1, ?_⟩
      unfold cntP
      simp only
      split <;> omega
    | cons p r =>
      obtain ⟨h1, h2, h3, h4⟩ := h
      by_cases e : p.2.2 = what
      · simp only [if_pos e]
        refine ⟨rfl, by simp only; omega, fun q hq => by rw [← e]; exact h3 q hq, ?_⟩
        have e2 : cn + (if what = 1 then min en m - at' else 0) - cntP (p.1, min en m, what) = cn - cntP p := by
          unfold cntP
          rw [e]
          simp only
          split <;> omega
        rw [e2]
        exact h4
      · simp only [if_neg e]
        refine ⟨rfl, by simp only; omega, fun q hq => ?_, h1, h2, h3, ?_⟩
        · cases hq
          exact e
        · have e2 : cn + (if what = 1 then min en m - at' else 0) - cntP (at', min en m, what) - cntP p = cn - cntP p := by
            unfold cntP
            simp only
            split <;> omega
          rw [e2]
          exact h4
/-- the same, the first one first, behind something of a kind -/
def FwP (prev : Option Int) (a : Int) : List Prt → Int → Int → Prop
  | [], b, cn => b = a ∧ cn = 0
  | p :: r, b, cn => p.1 = a ∧ p.1 < p.2.1 ∧ prev ≠ some p.2.2 ∧ FwP (some p.2.2) p.2.1 r b (cn - cntP p)
def lastW (prev : Option Int) : List Prt → Option Int
  | [] => prev
  | p :: r => lastW (some p.2.2) r
theorem lastW_snoc (q : Prt) : ∀ (L : List Prt) (prev : Option Int), lastW prev (L ++ [q]) = some q.2.2
  | [], _ => rfl
  | p :: r, _ => by rw [List.cons_append, lastW, lastW_snoc q r]
theorem fw_snoc (p : Prt) : ∀ (L : List Prt) (prev : Option Int) (a cn : Int), FwP prev a L p.1 (cn - cntP p) → p.1 < p.2.1 → lastW prev L ≠ some p.2.2 → FwP prev a (L ++ [p]) p.2.1 cn
  | [], prev, a, cn, ⟨h1, h2⟩, h3, h4 => ⟨h1, h3, h4, rfl, by omega⟩
  | q :: r, prev, a, cn, ⟨h1, h2, h3, h5⟩, h6, h4 => by
    refine ⟨h1, h2, h3, fw_snoc p r (some q.2.2) q.2.1 (cn - cntP q) ?_ h6 h4⟩
    rw [show cn - cntP q - cntP p = cn - cntP p - cntP q by omega]
    exact h5
theorem fw_of {a : Int} : ∀ {R : List Prt} {b cn : Int}, PtR a R b cn → FwP none a R.reverse b cn ∧ lastW none R.reverse = R.head?.map (fun p => p.2.2)
  | [], b, cn, h => ⟨h, rfl⟩
  | p :: r, b, cn, ⟨h1, h2, h3, h4⟩ => by
    obtain ⟨i1, i2⟩ := fw_of h4
    rw [List.reverse_cons]
    refine ⟨?_, by rw [lastW_snoc]; rfl⟩
    rw [← h1]
    refine fw_snoc p _ none a cn i1 h2 ?_
    rw [i2]
    cases hr : r.head? with
    | none => simp
    | some q =>
      have := h3 q (by rw [hr]; rfl)
      simpa using this

/-- the spans of a piece, one after the other -/
def spR (m : Int) : List Sp → List Prt → Int → List Prt × Int
  | [], R, at' => (R, at')
  | s :: l, R, at' => spR m l (upR m (upR m R at' s.1 2) (upA m at' s.1) s.2 1) (upA m (upA m at' s.1) s.2)
theorem spR_append (m : Int) (s : Sp) : ∀ (l : List Sp) (R : List Prt) (at' : Int), spR m (l ++ [s]) R at' = spR m [s] (spR m l R at').1 (spR m l R at').2
  | [], _, _ => rfl
  | x :: l, R, at' => by rw [List.cons_append, spR, spR_append m s l]; rfl
theorem spR_ok {a m : Int} : ∀ {l : List Sp} {R : List Prt} {at' cn hi : Int}, PtR a R at' cn → Apart at' hi l → hi ≤ m → PtR a (spR m l R at').1 (spR m l R at').2 (cn + lens l) ∧ at' ≤ (spR m l R at').2 ∧ (spR m l R at').2 ≤ max at' hi
  | [], R, at', cn, hi, h, _, _ => by
    simp only [spR, lens, Int.add_zero]
    exact ⟨h, Int.le_refl _, by omega⟩
  | s :: l, R, at', cn, hi, h, ⟨h1, h2, h3, h4⟩, hm => by
    have a1 : upA m at' s.1 = s.1 := by unfold upA; split <;> omega
    have a2 : upA m (upA m at' s.1) s.2 = s.2 := by rw [a1]; unfold upA; split <;> omega
    have u1 := up_ok (m := m) (en := s.1) (what := 2) h
    have u2 := up_ok (m := m) (en := s.2) (what := 1) u1
    simp only [spR]
    rw [a2] at u2 ⊢
    rw [a1] at u2 ⊢
    have h4' : Apart s.2 hi l := h4.le (by omega)
    obtain ⟨g1, g2, g3⟩ := spR_ok u2 h4' hm
    refine ⟨?_, by omega, by omega⟩
    have e : cn + lens (s :: l) = cn + (if (2 : Int) = 1 then s.1 - at' else 0) + (if (1 : Int) = 1 then s.2 - s.1 else 0) + lens l := by
      simp only [lens]
      simp
      omega
    rw [e]
    exact g1
/-- where a piece ends, seen from m -/
def exEnd (p : Pc) (m : Int) : Int := min (if p.2.1 = -1 then m else p.2.1) m
def exStep (cals : List CalD) (m : Int) (p : Pc) (R : List Prt) (at' : Int) : List Prt × Int :=
  if exEnd p m ≤ p.1 then (upR m R at' p.1 3, upA m at' p.1) else
    let x := spR m (openL (pcCal cals p) p.1 (exEnd p m)) (upR m R at' p.1 3) (upA m at' p.1)
    (upR m x.1 x.2 (exEnd p m) 2, upA m x.2 (exEnd p m))
def exF (cals : List CalD) (m : Int) : List Pc → List Prt → Int → List Prt × Int
  | [], R, at' => (upR m R at' m 3, upA m at' m)
  | p :: r, R, at' => exF cals m r (exStep cals m p R at').1 (exStep cals m p R at').2
theorem exEnd_cut (p : Pc) (m : Int) : exEnd p m = cutEnd p m := by
  unfold exEnd cutEnd
  split <;> omega
theorem step_ok {a m : Int} {cals : List CalD} {p : Pc} {R : List Prt} {at' cn : Int} (h : PtR a R at' cn) (ha : at' ≤ p.1) (hm : at' ≤ m) (hm2 : m ≤ 3000001) (h0 : 0 ≤ p.1) (hp : p.1 < pcEnd p) (hc : CalOk (pcCal cals p)) :
    PtR a (exStep cals m p R at').1 (exStep cals m p R at').2 (cn + pcN cals p m) ∧ at' ≤ (exStep cals m p R at').2 ∧ (exStep cals m p R at').2 ≤ m ∧ (exStep cals m p R at').2 ≤ pcEnd p := by
  unfold exStep pcN
  rw [exEnd_cut]
  have u1 := up_ok (m := m) (en := p.1) (what := 3) h
  have e1 : cn + (if (3 : Int) = 1 then upA m at' p.1 - at' else 0) = cn := by simp
  rw [e1] at u1
  by_cases g : cutEnd p m ≤ p.1
  · rw [if_pos g, if_neg (by omega), Int.add_zero]
    refine ⟨u1, ?_, ?_, ?_⟩ <;> (unfold upA; split <;> omega)
  · rw [if_neg g, if_pos (by omega)]
    have hcm : cutEnd p m ≤ m := by
      unfold cutEnd
      split <;> omega
    have hce : cutEnd p m ≤ pcEnd p ∨ p.2.1 = -1 := by
      unfold cutEnd pcEnd
      split
      · exact .inr (by assumption)
      · left; omega
    have a1 : upA m at' p.1 = p.1 := by unfold upA; split <;> omega
    rw [a1] at u1 ⊢
    obtain ⟨s1, s2, s3⟩ := spR_ok (m := m) u1 (open_apart hc p.1 (cutEnd p m) h0) hcm
    generalize spR m (openL (pcCal cals p) p.1 (cutEnd p m)) (upR m R at' p.1 3) p.1 = x at *
    have u2 := up_ok (m := m) (en := cutEnd p m) (what := 2) s1
    have e2 : cn + lens (openL (pcCal cals p) p.1 (cutEnd p m)) + (if (2 : Int) = 1 then upA m x.2 (cutEnd p m) - x.2 else 0) = cn + lens (openL (pcCal cals p) p.1 (cutEnd p m)) := by simp
    rw [e2] at u2
    refine ⟨u2, ?_, ?_, ?_⟩
    · simp only; unfold upA; split <;> omega
    · simp only; unfold upA; split <;> omega
    · simp only
      have hx : upA m x.2 (cutEnd p m) = cutEnd p m := by unfold upA; split <;> omega
      rw [hx]
      rcases hce with q | q
      · exact q
      · unfold pcEnd
        rw [if_pos q]
        omega
theorem exF_ok {a m : Int} {cals : List CalD} (hm2 : m ≤ 3000001) : ∀ {ps : List Pc} {R : List Prt} {at' cn lo : Int}, PtR a R at' cn → PcsOk cals lo ps → at' ≤ lo → at' ≤ m → 0 ≤ lo →
    PtR a (exF cals m ps R at').1 (exF cals m ps R at').2 (cn + elapF cals ps m) ∧ (exF cals m ps R at').2 = m
  | [], R, at', cn, lo, h, _, _, hm, _ => by
    simp only [exF, elapF, Int.add_zero]
    have u := up_ok (m := m) (en := m) (what := 3) h
    have e : cn + (if (3 : Int) = 1 then upA m at' m - at' else 0) = cn := by simp
    rw [e] at u
    exact ⟨u, by unfold upA; split <;> omega⟩
  | p :: r, R, at', cn, lo, h, ⟨h1, h2, h3, h4, h5, h6, h7⟩, ha, hm, h0 => by
    obtain ⟨s1, s2, s3, s4⟩ := step_ok (cals := cals) (p := p) h (by omega) hm hm2 (by omega) h3 h6
    have ih := exF_ok hm2 s1 h7 s4 s3 (by omega)
    simp only [exF, elapF]
    rw [show cn + (pcN cals p m + elapF cals r m) = cn + pcN cals p m + elapF cals r m by omega]
    exact ih
/-- what Explain tells of a clock -/
def partsL (cals : List CalD) (c : ClkD) (m : Int) : List Prt := (exF cals m c.ps [] c.start).1.reverse
theorem parts_ok {c : ClkD} {cals : List CalD} {m : Int} (hp : PcsOk cals c.start c.ps) (hs : 0 ≤ c.start) (hm : c.start ≤ m) (hm2 : m ≤ 3000001) : FwP none c.start (partsL cals c m) m (elapF cals c.ps m) := by
  have h0 : PtR c.start [] c.start 0 := ⟨rfl, rfl⟩
  obtain ⟨g1, g2⟩ := exF_ok hm2 h0 hp (Int.le_refl _) hm hs
  rw [Int.zero_add, g2] at g1
  exact (fw_of g1).1
end Go.Proofs.YtjiikjkiaemaiaaGreatDoor
