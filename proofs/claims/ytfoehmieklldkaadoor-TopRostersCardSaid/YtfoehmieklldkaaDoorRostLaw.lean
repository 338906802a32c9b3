/- Plain law of rosters: who has which forms, and what a right list of duties is. No program in sight. -/
import Derived.Test.YtfoehmieklldkaaDoorLongest
namespace Go.Proofs.YtfoehmieklldkaaDoor

def apartB (a b : FN) (r : Nat) : Bool := decide (a.f + a.n + r ≤ b.f) || decide (b.f + b.n + r ≤ a.f)
def fOf (fs : List FN) (i : Nat) : FN := fs.getD i ⟨0, 0⟩
theorem fOf_at {fs : List FN} {i : Nat} (h : i < fs.length) : fOf fs i = fs[i] := by simp [fOf, h]
/-- the forms of person p, in order -/
def hasL (fs : List FN) (g : List (Nat × Nat)) (p : Nat) : List FN := (g.filter fun d => d.2 == p).map fun d => fOf fs d.1
def loadN (fs : List FN) (g : List (Nat × Nat)) (p : Nat) : Nat := ((hasL fs g p).map FN.n).sum
theorem hasL_snoc (fs : List FN) (g : List (Nat × Nat)) (i q p : Nat) : hasL fs (g ++ [(i, q)]) p = if q = p then hasL fs g p ++ [fOf fs i] else hasL fs g p := by
  unfold hasL
  rw [List.filter_append]
  by_cases h : q = p
  · rw [if_pos h]
    simp [h]
  · rw [if_neg h]
    simp [h]
theorem loadN_snoc (fs : List FN) (g : List (Nat × Nat)) (i q p : Nat) : loadN fs (g ++ [(i, q)]) p = loadN fs g p + if q = p then (fOf fs i).n else 0 := by
  unfold loadN
  rw [hasL_snoc]
  split <;> simp
theorem hasL_length (fs : List FN) (g : List (Nat × Nat)) (p : Nat) : (hasL fs g p).length ≤ g.length := by
  unfold hasL
  rw [List.length_map]
  exact List.length_filter_le _ _
def cnt (g : List (Nat × Nat)) (t : Nat) : Nat := g.countP fun d => d.1 == t
theorem cnt_snoc (g : List (Nat × Nat)) (i q t : Nat) : cnt (g ++ [(i, q)]) t = cnt g t + if i = t then 1 else 0 := by
  unfold cnt
  rw [List.countP_append]
  by_cases h : i = t
  · simp [h]
  · simp [h]
theorem cnt_append (g l : List (Nat × Nat)) (t : Nat) : cnt (g ++ l) t = cnt g t + cnt l t := by
  unfold cnt
  rw [List.countP_append]

/-- a duty that may stand behind the duties g -/
structure DutyOk (fs : List FN) (P R M : Nat) (g : List (Nat × Nat)) (d : Nat × Nat) : Prop where
  f : d.1 < fs.length
  p1 : 1 ≤ d.2
  p2 : d.2 ≤ P
  ap : ∀ x ∈ hasL fs g d.2, apartB x (fOf fs d.1) R = true
  most : loadN fs g d.2 + (fOf fs d.1).n ≤ M
def RightG (fs : List FN) (P R M : Nat) (g : List (Nat × Nat)) : Prop := ∀ k (h : k < g.length), DutyOk fs P R M (g.take k) g[k]
theorem RightG.nil (fs : List FN) (P R M : Nat) : RightG fs P R M [] := fun k h => by simp at h
theorem RightG.snoc {fs : List FN} {P R M : Nat} {g : List (Nat × Nat)} {d : Nat × Nat} (h : RightG fs P R M g) (hd : DutyOk fs P R M g d) : RightG fs P R M (g ++ [d]) := by
  intro k hk
  by_cases e : k < g.length
  · rw [List.getElem_append_left e, List.take_append_of_le_length (by omega)]
    exact h k e
  · have : k = g.length := by simp at hk; omega
    subst this
    rw [List.take_append_of_le_length (Nat.le_refl _), List.take_length]
    simpa using hd

/-- what the loop over the people knows of the best one -/
def fitsB (fs : List FN) (g : List (Nat × Nat)) (x : FN) (R M q : Nat) : Bool := decide (loadN fs g (q + 1) + x.n ≤ M) && !((hasL fs g (q + 1)).any fun y => !apartB y x R)
theorem fitsB_ok {fs : List FN} {g : List (Nat × Nat)} {i R M q P : Nat} (hi : i < fs.length) (hq : q < P) (h : fitsB fs g fs[i] R M q = true) : DutyOk fs P R M g (i, q + 1) := by
  unfold fitsB at h
  rw [Bool.and_eq_true, decide_eq_true_eq, Bool.not_eq_true', List.any_eq_false] at h
  refine ⟨hi, by omega, by show q + 1 ≤ P; omega, fun x hx => ?_, ?_⟩
  · have := h.2 x hx
    simp only [fOf_at hi]
    simpa using this
  · simp only [fOf_at hi]
    exact h.1

end Go.Proofs.YtfoehmieklldkaaDoor
