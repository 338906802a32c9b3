/- Templates, plain: what Quote makes, the text of fields, what a template is read as, what it is filled with. No program in sight. -/
namespace Go.Proofs.Ytfohehldkchnjaa

/-- what Quote makes of a byte -/
def quoB (c : UInt8) : List UInt8 := if c = 123 then [92, 123] else if c = 92 then [92, 92] else [c]
def quo (l : List UInt8) : List UInt8 := l.flatMap quoB
theorem quo_nil : quo [] = [] := rfl
theorem quo_cons (c : UInt8) (r : List UInt8) : quo (c :: r) = quoB c ++ quo r := by simp [quo]
theorem quo_append (a b : List UInt8) : quo (a ++ b) = quo a ++ quo b := by simp [quo]
theorem quo_length : ∀ l : List UInt8, (quo l).length = l.length + l.count 123 + l.count 92
  | [] => rfl
  | c :: r => by
    have ih := quo_length r
    rw [quo_cons, List.length_append, ih, List.count_cons, List.count_cons, List.length_cons]
    unfold quoB
    by_cases h1 : c = 123
    · subst h1
      simp
      omega
    · rw [if_neg h1]
      by_cases h2 : c = 92
      · subst h2
        simp
        omega
      · rw [if_neg h2]
        simp [h1, h2]
        omega
theorem quo_plain : ∀ l : List UInt8, l.count 123 = 0 → l.count 92 = 0 → quo l = l
  | [], _, _ => rfl
  | c :: r, h1, h2 => by
    rw [List.count_eq_zero] at h1 h2
    have a1 : c ≠ 123 := fun e => h1 (by rw [e]; exact List.mem_cons_self)
    have a2 : c ≠ 92 := fun e => h2 (by rw [e]; exact List.mem_cons_self)
    rw [quo_cons, quo_plain r (List.count_eq_zero.2 fun e => h1 (List.mem_cons_of_mem _ e)) (List.count_eq_zero.2 fun e => h2 (List.mem_cons_of_mem _ e))]
    unfold quoB
    rw [if_neg a1, if_neg a2]
    rfl
theorem quo_le (l : List UInt8) : (quo l).length ≤ 2 * l.length := by
  induction l with
  | nil => exact Nat.le_refl _
  | cons c r ih =>
    rw [quo_cons, List.length_append, List.length_cons]
    have : (quoB c).length ≤ 2 := by unfold quoB; split <;> (try split) <;> simp
    omega

/-- a field of a template, or text between fields (no name) -/
structure Fd where
  name : List UInt8
  kind : Int
  one : List UInt8
  two : List UInt8
instance : Inhabited Fd := ⟨⟨[], 0, [], []⟩⟩
def nameB (c : UInt8) : Bool := (decide (97 ≤ c.toNat) && decide (c.toNat ≤ 122)) || (decide (48 ≤ c.toNat) && decide (c.toNat ≤ 57)) || c.toNat == 95
/-- a byte that stands for itself in a field -/
def selfB (c : UInt8) : Bool := c != 92 && c != 123 && c != 125 && c != 10 && c != 58
structure FdOk (f : Fd) : Prop where
  pos : 0 < f.name.length
  few : f.name.length ≤ 20
  all : ∀ c ∈ f.name, nameB c = true
  kind : f.kind = 0 ∧ f.one = [] ∧ f.two = [] ∨ f.kind = 124 ∧ f.two = [] ∨ f.kind = 63
  one : ∀ c ∈ f.one, selfB c = true
  two : ∀ c ∈ f.two, selfB c = true
/-- what stands between a field's name and its end -/
def midT (f : Fd) : List UInt8 := if f.kind = 124 then 124 :: f.one else if f.kind = 63 then 63 :: (f.one ++ 58 :: f.two) else []
def fldT (f : Fd) : List UInt8 := 123 :: 123 :: (f.name ++ midT f ++ [125, 125])
/-- a template: quoted texts, each before a field, and one at the end -/
def tplT : List (List UInt8 × Fd) → List UInt8 → List UInt8
  | [], e => quo e
  | (p, f) :: r, e => quo p ++ (fldT f ++ tplT r e)
def txtF (p : List UInt8) : List Fd := if p = [] then [] else [⟨[], 0, p, []⟩]
/-- what it is read as -/
def readF : List (List UInt8 × Fd) → List UInt8 → List Fd
  | [], e => txtF e
  | (p, f) :: r, e => txtF p ++ f :: readF r e
theorem readF_length : ∀ (l : List (List UInt8 × Fd)) (e : List UInt8), (readF l e).length ≤ 2 * l.length + 1
  | [], e => by unfold readF txtF; split <;> simp
  | (p, f) :: r, e => by
    have ih := readF_length r e
    unfold readF
    rw [List.length_append, List.length_cons, List.length_cons]
    have : (txtF p).length ≤ 1 := by unfold txtF; split <;> simp
    omega
/-- the fields' names -/
def namesF (l : List Fd) : List (List UInt8) := (l.filter fun f => f.name != []).map (·.name)
theorem namesF_append (a b : List Fd) : namesF (a ++ b) = namesF a ++ namesF b := by simp [namesF]
theorem namesF_txt (p : List UInt8) : namesF (txtF p) = [] := by unfold txtF; split <;> rfl
theorem namesF_read : ∀ (l : List (List UInt8 × Fd)) (e : List UInt8), (∀ x ∈ l, FdOk x.2) → namesF (readF l e) = l.map (·.2.name)
  | [], e, _ => namesF_txt e
  | (p, f) :: r, e, h => by
    have hf := (h _ List.mem_cons_self).pos
    have : namesF (f :: readF r e) = f.name :: namesF (readF r e) := by
      have hne : (f.name != []) = true := by
        simp only [bne_iff_ne, ne_eq]
        intro q
        rw [q] at hf
        exact absurd hf (by decide)
      simp [namesF, List.filter_cons, hne]
    unfold readF
    rw [namesF_append, namesF_txt, this, namesF_read r e (fun x hx => h x (List.mem_cons_of_mem _ hx))]
    rfl
/-- what a field is filled with -/
def valF (v : List UInt8) (f : Fd) : List UInt8 :=
  if f.name = [] ∨ f.kind = 124 ∧ v = [] ∨ f.kind = 63 ∧ v ≠ [] then f.one else if f.kind = 63 then f.two else v
def outF (look : List UInt8 → List UInt8) (l : List Fd) : List UInt8 := l.flatMap fun f => valF (look f.name) f
theorem outF_append (look : List UInt8 → List UInt8) (a b : List Fd) : outF look (a ++ b) = outF look a ++ outF look b := by simp [outF]
theorem outF_cons (look : List UInt8 → List UInt8) (f : Fd) (b : List Fd) : outF look (f :: b) = valF (look f.name) f ++ outF look b := by simp [outF]
theorem outF_txt (look : List UInt8 → List UInt8) (p : List UInt8) : outF look (txtF p) = p := by
  unfold txtF
  split
  · rename_i h
    rw [h]; rfl
  · simp [outF, valF]
def fillT (look : List UInt8 → List UInt8) : List (List UInt8 × Fd) → List UInt8 → List UInt8
  | [], e => e
  | (p, f) :: r, e => p ++ (valF (look f.name) f ++ fillT look r e)
theorem out_read (look : List UInt8 → List UInt8) : ∀ (l : List (List UInt8 × Fd)) (e : List UInt8), outF look (readF l e) = fillT look l e
  | [], e => outF_txt look e
  | (p, f) :: r, e => by
    unfold readF fillT
    rw [outF_append, outF_txt, outF_cons, out_read look r e]
theorem self_nameB {c : UInt8} (h : nameB c = true) : c ≠ 125 ∧ c ≠ 124 ∧ c ≠ 63 ∧ c ≠ 123 := by
  refine ⟨?_, ?_, ?_, ?_⟩ <;> (rintro rfl; revert h; decide)
end Go.Proofs.Ytfohehldkchnjaa
