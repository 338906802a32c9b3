/- Plain laws of sweeping over the edges of two lists of spans. No program in sight. -/
import Derived.Test.YtjnaioellghggaaSpLaw
namespace Go.Proofs.Ytjnaioellghggaa

/-- where a span of list k begins (1) or ends (-1) -/
abbrev Edg := Int × Int × Int
def edgesOf (k : Int) (l : List Sp) : List Edg := l.flatMap fun s => [(s.1, k, 1), (s.2, k, -1)]
def sumK (k : Int) : List Edg → Int
  | [] => 0
  | e :: r => (if e.2.1 = k then e.2.2 else 0) + sumK k r
def cntK (k t : Int) : List Edg → Int
  | [] => 0
  | e :: r => (if e.2.1 = k ∧ e.1 ≤ t then e.2.2 else 0) + cntK k t r
theorem sumK_append (k : Int) (a b : List Edg) : sumK k (a ++ b) = sumK k a + sumK k b := by
  induction a with
  | nil => simp [sumK]
  | cons e r ih => simp only [List.cons_append, sumK, ih]; omega
theorem cntK_append (k t : Int) (a b : List Edg) : cntK k t (a ++ b) = cntK k t a + cntK k t b := by
  induction a with
  | nil => simp [cntK]
  | cons e r ih => simp only [List.cons_append, cntK, ih]; omega
theorem cntK_perm {k t : Int} {a b : List Edg} (h : a.Perm b) : cntK k t a = cntK k t b := by
  induction h with
  | nil => rfl
  | cons x _ ih => simp only [cntK, ih]
  | swap x y l => simp only [cntK]; omega
  | trans _ _ h1 h2 => exact h1.trans h2
theorem cntK_all {k t : Int} : ∀ {a : List Edg}, (∀ e ∈ a, e.1 ≤ t) → cntK k t a = sumK k a
  | [], _ => rfl
  | e :: r, h => by
    simp only [cntK, sumK]
    rw [cntK_all (fun x hx => h x (List.mem_cons_of_mem _ hx))]
    have := h e List.mem_cons_self
    by_cases g : e.2.1 = k
    · rw [if_pos ⟨g, this⟩, if_pos g]
    · rw [if_neg (fun q => g q.1), if_neg g]
theorem cntK_none {k t : Int} : ∀ {a : List Edg}, (∀ e ∈ a, t < e.1) → cntK k t a = 0
  | [], _ => rfl
  | e :: r, h => by
    simp only [cntK]
    rw [cntK_none (fun x hx => h x (List.mem_cons_of_mem _ hx))]
    have := h e List.mem_cons_self
    rw [if_neg (fun q => by omega)]
    rfl
theorem cntK_edges {k t : Int} : ∀ {l : List Sp} {lo hi : Int}, Apart lo hi l → cntK k t (edgesOf k l) = if covB l t then 1 else 0
  | [], _, _, _ => rfl
  | s :: r, lo, hi, h => by
    have hc := h.cov_head (t := t)
    obtain ⟨h1, h2, h3, h4⟩ := h
    have ih := cntK_edges (k := k) (t := t) h4
    have e : edgesOf k (s :: r) = (s.1, k, 1) :: (s.2, k, -1) :: edgesOf k r := rfl
    rw [e]
    simp only [cntK, true_and]
    rw [ih]
    by_cases g1 : t < s.1
    · rw [hc.1 g1, Apart.below h4 (by omega), if_neg (by omega), if_neg (by omega)]; rfl
    · by_cases g2 : t < s.2
      · rw [hc.2.1 (by omega) g2, Apart.below h4 (by omega), if_pos (by omega), if_neg (by omega)]; rfl
      · rw [hc.2.2 (by omega), if_pos (by omega), if_pos (by omega)]; omega
theorem cntK_other {k k' t : Int} (h : k ≠ k') : ∀ (l : List Sp), cntK k t (edgesOf k' l) = 0
  | [] => rfl
  | s :: r => by
    have e : edgesOf k' (s :: r) = (s.1, k', 1) :: (s.2, k', -1) :: edgesOf k' r := rfl
    rw [e]
    simp only [cntK]
    rw [cntK_other h r, if_neg (fun q => h q.1.symm), if_neg (fun q => h q.1.symm)]
    rfl
theorem edges_mem {k : Int} {l : List Sp} {lo hi : Int} (h : Apart lo hi l) : ∀ e ∈ edgesOf k l, lo ≤ e.1 ∧ e.1 ≤ hi ∧ e.2.1 = k ∧ (e.2.2 = 1 ∨ e.2.2 = -1) := by
  intro e he
  obtain ⟨s, hs, h2⟩ := List.mem_flatMap.1 he
  have := h.mem s hs
  simp only [List.mem_cons, List.not_mem_nil, or_false] at h2
  rcases h2 with rfl | rfl
  · exact ⟨by simp only; omega, by simp only; omega, rfl, .inl rfl⟩
  · exact ⟨by simp only; omega, by simp only; omega, rfl, .inr rfl⟩
theorem edges_len (k : Int) (l : List Sp) : (edgesOf k l).length = 2 * l.length := by
  induction l with
  | nil => rfl
  | cons s r ih =>
    have e : edgesOf k (s :: r) = (s.1, k, 1) :: (s.2, k, -1) :: edgesOf k r := rfl
    rw [e]; simp only [List.length_cons, ih]; omega
theorem edges_snoc (k : Int) (l : List Sp) (s : Sp) : edgesOf k (l ++ [s]) = edgesOf k l ++ [(s.1, k, 1), (s.2, k, -1)] := by simp [edgesOf, List.flatMap_append]
theorem sumK_edges (k k' : Int) : ∀ l : List Sp, sumK k (edgesOf k' l) = 0
  | [] => rfl
  | s :: r => by
    have e : edgesOf k' (s :: r) = (s.1, k', 1) :: (s.2, k', -1) :: edgesOf k' r := rfl
    rw [e]
    simp only [sumK]
    rw [sumK_edges k k' r]
    split <;> rfl
theorem sumK_perm {k : Int} {a b : List Edg} (h : a.Perm b) : sumK k a = sumK k b := by
  induction h with
  | nil => rfl
  | cons x _ ih => simp only [sumK, ih]
  | swap x y l => simp only [sumK]; omega
  | trans _ _ h1 h2 => exact h1.trans h2
theorem sumK_abs {k : Int} : ∀ {a : List Edg}, (∀ e ∈ a, e.2.2 = 1 ∨ e.2.2 = -1) → -(a.length : Int) ≤ sumK k a ∧ sumK k a ≤ a.length
  | [], _ => ⟨Int.le_refl _, Int.le_refl _⟩
  | e :: r, h => by
    have ih := sumK_abs (k := k) (a := r) (fun x hx => h x (List.mem_cons_of_mem _ hx))
    have := h e List.mem_cons_self
    simp only [sumK, List.length_cons]
    split <;> omega

/-- the edges in order; what is swept so far -/
structure Swp (a b : List Sp) (D : List Edg) : Prop where
  perm : D.Perm (edgesOf 0 a ++ edgesOf 1 b)
  sorted : D.Pairwise fun x y => x.1 ≤ y.1
theorem Swp.mem {a b : List Sp} {D : List Edg} (h : Swp a b D) (ha : Apart 0 3000001 a) (hb : Apart 0 3000001 b) : ∀ e ∈ D, 0 ≤ e.1 ∧ e.1 ≤ 3000001 ∧ (e.2.1 = 0 ∨ e.2.1 = 1) ∧ (e.2.2 = 1 ∨ e.2.2 = -1) := by
  intro e he
  rcases List.mem_append.1 (h.perm.mem_iff.1 he) with g | g
  · have := edges_mem ha e g
    exact ⟨this.1, this.2.1, .inl this.2.2.1, this.2.2.2⟩
  · have := edges_mem hb e g
    exact ⟨this.1, this.2.1, .inr this.2.2.1, this.2.2.2⟩
theorem Swp.cnt {a b : List Sp} {D : List Edg} (h : Swp a b D) (ha : Apart 0 3000001 a) (hb : Apart 0 3000001 b) (t : Int) :
    cntK 0 t D = (if covB a t then 1 else 0) ∧ cntK 1 t D = (if covB b t then 1 else 0) := by
  rw [cntK_perm h.perm, cntK_perm h.perm, cntK_append, cntK_append, cntK_edges ha, cntK_edges hb, cntK_other (by decide), cntK_other (by decide)]
  simp
theorem Swp.total {a b : List Sp} {D : List Edg} (h : Swp a b D) (k : Int) : sumK k D = 0 := by
  rw [sumK_perm h.perm, sumK_append, sumK_edges, sumK_edges]; rfl

/-- at the head of a round -/
structure SwInv (want : Int → Int → Bool) (D : List Edg) (i : Nat) (out : List Sp) : Prop where
  le : i ≤ D.length
  bound : ∀ x ∈ D.take i, ∀ y ∈ D.drop i, x.1 < y.1
  apart : Apart 0 (match D[i]? with | some e => e.1 | none => 3000001) out
  cov : ∀ t, (∀ e, D[i]? = some e → t < e.1) → covB out t = want (cntK 0 t D) (cntK 1 t D)

theorem SwInv.start {want : Int → Int → Bool} {D : List Edg} (hs : D.Pairwise fun x y => x.1 ≤ y.1) (h0 : want 0 0 = false) : SwInv want D 0 [] := by
  refine ⟨Nat.zero_le _, fun x hx => (by cases hx), True.intro, fun t ht => ?_⟩
  have : ∀ e ∈ D, t < e.1 := by
    intro e he
    cases D with
    | nil => cases he
    | cons d r =>
      have h1 := ht d rfl
      rcases List.mem_cons.1 he with rfl | he
      · exact h1
      · have := List.rel_of_pairwise_cons hs he
        omega
  rw [cntK_none this, cntK_none this, h0]
  rfl
/-- the group of edges from i up to j -/
structure Grp (D : List Edg) (i j : Nat) (at_ : Int) : Prop where
  lt : i < j
  le : j ≤ D.length
  here : ∀ e ∈ (D.take j).drop i, e.1 = at_
  first : ∀ e, D[i]? = some e → e.1 = at_
theorem pairwise_split {D : List Edg} (hs : D.Pairwise fun x y => x.1 ≤ y.1) (j : Nat) : ∀ x ∈ D.take j, ∀ y ∈ D.drop j, x.1 ≤ y.1 := by
  rw [← List.take_append_drop j D, List.pairwise_append] at hs
  exact fun x hx y hy => hs.2.2 x hx y hy
theorem drop_first {D : List Edg} (hs : D.Pairwise fun x y => x.1 ≤ y.1) {j : Nat} {f : Edg} (hf : D[j]? = some f) : ∀ y ∈ D.drop j, f.1 ≤ y.1 := by
  intro y hy
  obtain ⟨hj, rfl⟩ := List.getElem?_eq_some_iff.1 hf
  rw [List.drop_eq_getElem_cons hj] at hy
  have h2 : (D.drop j).Pairwise fun x y => x.1 ≤ y.1 := hs.sublist (List.drop_sublist _ _)
  rw [List.drop_eq_getElem_cons hj] at h2
  rcases List.mem_cons.1 hy with rfl | hy
  · exact Int.le_refl _
  · exact List.rel_of_pairwise_cons h2 hy
theorem Grp.upto {D : List Edg} {i j : Nat} {at_ : Int} (hg : Grp D i j at_) (hs : D.Pairwise fun x y => x.1 ≤ y.1) : ∀ x ∈ D.take j, x.1 ≤ at_ := by
  intro x hx
  have hlt := hg.lt
  have hle := hg.le
  by_cases h : x ∈ (D.take j).drop i
  · exact Int.le_of_eq (hg.here x h)
  · have hx2 : x ∈ D.take i := by
      rw [← List.take_append_drop i (D.take j), List.take_take, show min i j = i by omega] at hx
      rcases List.mem_append.1 hx with g | g
      · exact g
      · exact absurd g h
    have hi : i < D.length := by omega
    have h1 := pairwise_split hs i x hx2 D[i] (by rw [List.drop_eq_getElem_cons hi]; exact List.mem_cons_self)
    have h2 := hg.first D[i] (List.getElem?_eq_getElem hi)
    omega
theorem Grp.counts {D : List Edg} {i j : Nat} {at_ : Int} (hg : Grp D i j at_) (hs : D.Pairwise fun x y => x.1 ≤ y.1) (t : Int) (h1 : at_ ≤ t) (h2 : ∀ f, D[j]? = some f → t < f.1) (k : Int) : cntK k t D = sumK k (D.take j) := by
  have e : cntK k t D = cntK k t (D.take j) + cntK k t (D.drop j) := by rw [← cntK_append, List.take_append_drop]
  rw [e, cntK_all (fun x hx => by have := hg.upto hs x hx; omega), cntK_none, Int.add_zero]
  intro y hy
  by_cases hj : j < D.length
  · have := drop_first hs (List.getElem?_eq_getElem hj) y hy
    have := h2 _ (List.getElem?_eq_getElem hj)
    omega
  · rw [List.drop_eq_nil_of_le (by omega)] at hy; cases hy
/-- the last group -/
theorem SwInv.last {want : Int → Int → Bool} {D : List Edg} {i : Nat} {out : List Sp} {at_ : Int} (h : SwInv want D i out) (hg : Grp D i D.length at_) (hs : D.Pairwise fun x y => x.1 ≤ y.1) (hb : at_ ≤ 3000001) (h0 : want (sumK 0 D) (sumK 1 D) = false) :
    SwInv want D D.length out := by
  have hi : i < D.length := hg.lt
  have hgi : D[i]? = some D[i] := List.getElem?_eq_getElem hi
  have hat := hg.first _ hgi
  have hap := h.apart
  rw [hgi] at hap
  simp only at hap
  refine ⟨Nat.le_refl _, fun x _ y hy => (by rw [List.drop_length] at hy; cases hy), ?_, fun t _ => ?_⟩
  · rw [List.getElem?_eq_none (Nat.le_refl _)]
    exact hap.hi (show _ ≤ (3000001 : Int) by omega)
  · by_cases g : t < at_
    · exact h.cov t (fun e he => by rw [hgi] at he; cases he; omega)
    · rw [Apart.above hap (by omega), hg.counts hs t (by omega) (fun f hf => by rw [List.getElem?_eq_none (Nat.le_refl _)] at hf; cases hf) 0, hg.counts hs t (by omega) (fun f hf => by rw [List.getElem?_eq_none (Nat.le_refl _)] at hf; cases hf) 1, List.take_length, h0]
theorem next_bound {D : List Edg} {i j : Nat} {at_ : Int} (hg : Grp D i j at_) (hs : D.Pairwise fun x y => x.1 ≤ y.1) {f : Edg} (hf : D[j]? = some f) (hne : f.1 ≠ at_) : at_ < f.1 ∧ ∀ x ∈ D.take j, ∀ y ∈ D.drop j, x.1 < y.1 := by
  have hi : i < D.length := by have := hg.lt; have := hg.le; omega
  have hlt : at_ < f.1 := by
    have h1 : D[i] ∈ D.take j := List.mem_take_iff_getElem.2 ⟨i, by have := hg.lt; omega, rfl⟩
    have h2 := hg.first _ (List.getElem?_eq_getElem hi)
    obtain ⟨hj, rfl⟩ := List.getElem?_eq_some_iff.1 hf
    have h3 := pairwise_split hs j D[i] h1 D[j] (by rw [List.drop_eq_getElem_cons hj]; exact List.mem_cons_self)
    omega
  refine ⟨hlt, fun x hx y hy => ?_⟩
  have := hg.upto hs x hx
  have := drop_first hs hf y hy
  omega
/-- a group that is not wanted -/
theorem SwInv.skip {want : Int → Int → Bool} {D : List Edg} {i j : Nat} {out : List Sp} {at_ : Int} (h : SwInv want D i out) (hg : Grp D i j at_) (hs : D.Pairwise fun x y => x.1 ≤ y.1) {f : Edg} (hf : D[j]? = some f) (hne : f.1 ≠ at_)
    (hw : want (sumK 0 (D.take j)) (sumK 1 (D.take j)) = false) : SwInv want D j out := by
  obtain ⟨hlt, hbd⟩ := next_bound hg hs hf hne
  have hi : i < D.length := by have := hg.lt; have := hg.le; omega
  have hgi : D[i]? = some D[i] := List.getElem?_eq_getElem hi
  have hat := hg.first _ hgi
  have hap := h.apart
  rw [hgi] at hap
  simp only at hap
  refine ⟨hg.le, hbd, ?_, fun t ht => ?_⟩
  · rw [hf]; exact hap.hi (by simp only; omega)
  · by_cases g : t < at_
    · exact h.cov t (fun e he => by rw [hgi] at he; cases he; omega)
    · have h2 : ∀ f', D[j]? = some f' → t < f'.1 := ht
      rw [Apart.above hap (by omega), hg.counts hs t (by omega) h2 0, hg.counts hs t (by omega) h2 1, hw]
theorem Apart.snoc : ∀ {l : List Sp} {lo hi : Int} {s : Sp}, Apart lo hi l → (∀ x ∈ l, x.2 < s.1) → lo ≤ s.1 → s.1 < s.2 → Apart lo (max hi s.2) (l ++ [s])
  | [], lo, hi, s, _, _, h1, h2 => ⟨h1, h2, by omega, True.intro⟩
  | x :: r, lo, hi, s, ⟨g1, g2, g3, g4⟩, hx, h1, h2 => ⟨g1, g2, by omega, g4.snoc (fun y hy => hx y (List.mem_cons_of_mem _ hy)) (by have := hx x List.mem_cons_self; omega) h2⟩
theorem Apart.grow : ∀ {l : List Sp} {lo hi : Int} {s : Sp} {b : Int}, Apart lo hi (l ++ [s]) → s.2 ≤ b → Apart lo (max hi b) (l ++ [(s.1, b)])
  | [], lo, hi, s, b, ⟨h1, h2, _, _⟩, h => ⟨h1, by simp only; omega, by simp only; omega, True.intro⟩
  | x :: r, lo, hi, s, b, ⟨g1, g2, g3, g4⟩, h => ⟨g1, g2, by omega, Apart.grow (l := r) g4 h⟩
theorem Apart.lo_last : ∀ {l : List Sp} {lo hi : Int} {s : Sp}, Apart lo hi (l ++ [s]) → Apart lo hi l ∧ (∀ x ∈ l, x.2 < s.1) ∧ lo ≤ s.1 ∧ s.1 < s.2 ∧ s.2 ≤ hi
  | [], lo, hi, s, ⟨h1, h2, h3, _⟩ => ⟨True.intro, fun x hx => (by cases hx), h1, h2, h3⟩
  | x :: r, lo, hi, s, ⟨g1, g2, g3, g4⟩ => by
    obtain ⟨k1, k2, k3, k4, k5⟩ := Apart.lo_last (l := r) g4
    refine ⟨⟨g1, g2, g3, k1⟩, fun y hy => ?_, by omega, k4, k5⟩
    rcases List.mem_cons.1 hy with rfl | hy
    · omega
    · exact k2 y hy
theorem SwInv.wanted {want : Int → Int → Bool} {D : List Edg} {i j : Nat} {out out' : List Sp} {at_ : Int} (h : SwInv want D i out) (hg : Grp D i j at_) (hs : D.Pairwise fun x y => x.1 ≤ y.1) {f : Edg} (hf : D[j]? = some f) (hne : f.1 ≠ at_)
    (hw : want (sumK 0 (D.take j)) (sumK 1 (D.take j)) = true) (hap' : Apart 0 f.1 out') (hc : ∀ t, covB out' t = (covB out t || (decide (at_ ≤ t) && decide (t < f.1)))) : SwInv want D j out' := by
  obtain ⟨hlt, hbd⟩ := next_bound hg hs hf hne
  have hi : i < D.length := by have := hg.lt; have := hg.le; omega
  have hgi : D[i]? = some D[i] := List.getElem?_eq_getElem hi
  have hat := hg.first _ hgi
  refine ⟨hg.le, hbd, by rw [hf]; exact hap', fun t ht => ?_⟩
  have htf := ht f hf
  rw [hc]
  by_cases g : t < at_
  · rw [h.cov t (fun e he => by rw [hgi] at he; cases he; omega), show decide (at_ ≤ t) = false by simp; omega]
    simp
  · rw [hg.counts hs t (by omega) ht 0, hg.counts hs t (by omega) ht 1, hw, show decide (at_ ≤ t) = true by simp; omega, show decide (t < f.1) = true by simp; omega]
    simp
/-- a new span -/
theorem SwInv.put {want : Int → Int → Bool} {D : List Edg} {i j : Nat} {out : List Sp} {at_ : Int} (h : SwInv want D i out) (hg : Grp D i j at_) (hs : D.Pairwise fun x y => x.1 ≤ y.1) {f : Edg} (hf : D[j]? = some f) (hne : f.1 ≠ at_)
    (hw : want (sumK 0 (D.take j)) (sumK 1 (D.take j)) = true) (h0 : 0 ≤ at_) (hl : ∀ x, out.getLast? = some x → x.2 ≠ at_) : SwInv want D j (out ++ [(at_, f.1)]) := by
  obtain ⟨hlt, _⟩ := next_bound hg hs hf hne
  have hi : i < D.length := by have := hg.lt; have := hg.le; omega
  have hgi : D[i]? = some D[i] := List.getElem?_eq_getElem hi
  have hat := hg.first _ hgi
  have hap := h.apart
  rw [hgi] at hap
  simp only at hap
  have hx : ∀ x ∈ out, x.2 < at_ := by
    rcases List.eq_nil_or_concat out with rfl | ⟨l, s, rfl⟩
    · intro x hx; cases hx
    · rw [List.concat_eq_append] at hap hl ⊢
      obtain ⟨k1, k2, k3, k4, k5⟩ := hap.lo_last
      have hn := hl s (by simp)
      intro x hx
      rcases List.mem_append.1 hx with g | g
      · have := k2 x g; omega
      · obtain rfl : x = s := by simpa using g
        omega
  have hap2 := hap.snoc (s := (at_, f.1)) hx h0 hlt
  refine h.wanted hg hs hf hne hw (hap2.hi (by simp only; omega)) fun t => ?_
  rw [covB_append, covB_cons, covB_nil, Bool.or_false]
/-- the last span goes on -/
theorem SwInv.join {want : Int → Int → Bool} {D : List Edg} {i j : Nat} {out : List Sp} {s : Sp} {at_ : Int} (h : SwInv want D i (out ++ [s])) (hg : Grp D i j at_) (hs : D.Pairwise fun x y => x.1 ≤ y.1) {f : Edg} (hf : D[j]? = some f) (hne : f.1 ≠ at_)
    (hw : want (sumK 0 (D.take j)) (sumK 1 (D.take j)) = true) (hl : s.2 = at_) : SwInv want D j (out ++ [(s.1, f.1)]) := by
  obtain ⟨hlt, _⟩ := next_bound hg hs hf hne
  have hi : i < D.length := by have := hg.lt; have := hg.le; omega
  have hgi : D[i]? = some D[i] := List.getElem?_eq_getElem hi
  have hat := hg.first _ hgi
  have hap := h.apart
  rw [hgi] at hap
  simp only at hap
  obtain ⟨_, _, _, h4, _⟩ := hap.lo_last
  have hap2 := hap.grow (b := f.1) (by omega)
  refine h.wanted hg hs hf hne hw (hap2.hi (by omega)) fun t => ?_
  rw [covB_append, covB_append, covB_cons, covB_cons, covB_nil, Bool.or_false, Bool.or_false, Bool.or_assoc]
  congr 1
  rw [Bool.eq_iff_iff]
  simp only [Bool.or_eq_true, Bool.and_eq_true, decide_eq_true_eq]
  omega
/-- all is swept -/
theorem SwInv.done {want : Int → Int → Bool} {D : List Edg} {out : List Sp} (h : SwInv want D D.length out) : Apart 0 3000001 out ∧ ∀ t, covB out t = want (cntK 0 t D) (cntK 1 t D) := by
  have h1 := h.apart
  rw [List.getElem?_eq_none (Nat.le_refl _)] at h1
  exact ⟨h1, fun t => h.cov t (fun e he => by rw [List.getElem?_eq_none (Nat.le_refl _)] at he; cases he)⟩

end Go.Proofs.Ytjnaioellghggaa
