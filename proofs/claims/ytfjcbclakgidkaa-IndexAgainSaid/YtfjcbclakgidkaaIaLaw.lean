/- The plain law of IndexAgain: an index is told by its entries alone, in whatever order they came in. No program in sight. -/
import Derived.Test.YtfjcbclakgidkaaWords
namespace Go.Proofs.Ytfjcbclakgidkaa

structure Lin (K : Type) [LT K] : Prop where
  irr : ∀ a : K, ¬ a < a
  tr : ∀ a b c : K, a < b → b < c → a < c
  tot : ∀ a b : K, a < b ∨ a = b ∨ b < a
theorem lin_int : Lin Int := ⟨fun a => by omega, fun a b c h1 h2 => by omega, fun a b => by omega⟩
theorem lin_bytes : Lin (List UInt8) := ⟨fun a => List.lt_irrefl a, fun a b c h1 h2 => List.lt_trans h1 h2, fun a b => by
  by_cases h : a < b
  · exact .inl h
  · by_cases g : b < a
    · exact .inr (.inr g)
    · exact .inr (.inl (List.le_antisymm (List.not_lt.1 g) (List.not_lt.1 h)))⟩
section
variable {K A : Type} [DecidableEq K] (key : A → K)
def findK (l : List A) (k : K) : Option A := l.find? fun a => key a = k
theorem findK_none {l : List A} {k : K} (h : ∀ a ∈ l, key a ≠ k) : findK key l k = none := by
  unfold findK
  rw [List.find?_eq_none]
  intro a ha
  simpa using h a ha
theorem findK_cons (x : A) (l : List A) (k : K) : findK key (x :: l) k = if key x = k then some x else findK key l k := by
  unfold findK
  rw [List.find?_cons]
  by_cases h : key x = k <;> simp [h]
theorem findK_some {l : List A} {k : K} {x : A} (h : findK key l k = some x) : x ∈ l ∧ key x = k := by
  unfold findK at h
  refine ⟨List.mem_of_find?_eq_some h, ?_⟩
  simpa using List.find?_some h
end
section
variable {K A : Type} [LT K] [DecidableEq K] (key : A → K)
def Asc (l : List A) : Prop := l.Pairwise fun a b => key a < key b
theorem findK_mem (hK : Lin K) : ∀ {l : List A}, Asc key l → ∀ {x : A}, x ∈ l → findK key l (key x) = some x
  | [], _, x, h => by cases h
  | y :: l, ha, x, h => by
    have h1 := List.pairwise_cons.1 ha
    rw [findK_cons]
    by_cases e : key y = key x
    · rw [if_pos e]
      rcases List.mem_cons.1 h with rfl | h
      · rfl
      · have := h1.1 x h
        rw [e] at this
        exact absurd this (hK.irr _)
    · rw [if_neg e]
      rcases List.mem_cons.1 h with rfl | h
      · exact absurd rfl e
      · exact findK_mem hK h1.2 h
/-- two rising lists in which the same is found are the same -/
theorem asc_ext (hK : Lin K) : ∀ {a b : List A}, Asc key a → Asc key b → (∀ k, findK key a k = findK key b k) → a = b
  | [], [], _, _, _ => rfl
  | [], y :: b, _, _, h => by
    have := h (key y)
    rw [findK_cons, if_pos rfl] at this
    cases this
  | x :: a, [], _, _, h => by
    have := h (key x)
    rw [findK_cons, if_pos rfl] at this
    cases this
  | x :: a, y :: b, ha, hb, h => by
    have h1 := List.pairwise_cons.1 ha
    have h2 := List.pairwise_cons.1 hb
    have hxy : x = y := by
      have hx := h (key x)
      have hy := h (key y)
      rw [findK_cons, if_pos rfl] at hx
      rw [findK_cons key y, if_pos rfl] at hy
      obtain ⟨m1, _⟩ := findK_some key hx.symm
      obtain ⟨m2, _⟩ := findK_some key hy
      rcases List.mem_cons.1 m1 with e | m1
      · exact e
      · rcases List.mem_cons.1 m2 with e | m2
        · exact e.symm
        · exact absurd (hK.tr _ _ _ (h1.1 y m2) (h2.1 x m1)) (hK.irr _)
    subst hxy
    congr 1
    refine asc_ext hK h1.2 h2.2 fun k => ?_
    have hk := h k
    rw [findK_cons, findK_cons] at hk
    by_cases e : key x = k
    · rw [findK_none key (fun z hz g => by have := h1.1 z hz; rw [g, e] at this; exact hK.irr _ this), findK_none key (fun z hz g => by have := h2.1 z hz; rw [g, e] at this; exact hK.irr _ this)]
    · rw [if_neg e, if_neg e] at hk
      exact hk
theorem find_below (hK : Lin K) {x : A} {l : List A} {k : K} (hx : ∀ z ∈ l, key x < key z) (hk : k < key x ∨ k = key x) : findK key l k = none := by
  refine findK_none key fun z hz g => ?_
  have h := hx z hz
  rw [g] at h
  rcases hk with hk | hk
  · exact hK.irr _ (hK.tr _ _ _ h hk)
  · rw [hk] at h
    exact hK.irr _ h
end
section
variable {K A : Type} [LT K] [DecidableEq K] [DecidableRel (fun a b : K => a < b)] (key : A → K)
def mrg : List A → List A → List A
  | [], b => b
  | x :: a, [] => x :: a
  | x :: a, y :: b => if key x < key y then x :: mrg a (y :: b) else if key x = key y then y :: mrg a b else y :: mrg (x :: a) b
theorem mrg_mem : ∀ (a b : List A) (z : A), z ∈ mrg key a b → z ∈ a ∨ z ∈ b
  | [], b, z, h => by
    rw [mrg] at h
    exact .inr h
  | x :: a, [], z, h => by
    rw [mrg] at h
    exact .inl h
  | x :: a, y :: b, z, h => by
    rw [mrg] at h
    split at h
    · rcases List.mem_cons.1 h with rfl | h
      · exact .inl List.mem_cons_self
      · rcases mrg_mem a (y :: b) z h with h | h
        · exact .inl (List.mem_cons_of_mem _ h)
        · exact .inr h
    · split at h
      · rcases List.mem_cons.1 h with rfl | h
        · exact .inr List.mem_cons_self
        · rcases mrg_mem a b z h with h | h
          · exact .inl (List.mem_cons_of_mem _ h)
          · exact .inr (List.mem_cons_of_mem _ h)
      · rcases List.mem_cons.1 h with rfl | h
        · exact .inr List.mem_cons_self
        · rcases mrg_mem (x :: a) b z h with h | h
          · exact .inl h
          · exact .inr (List.mem_cons_of_mem _ h)
theorem mrg_asc (hK : Lin K) : ∀ (a b : List A), Asc key a → Asc key b → Asc key (mrg key a b)
  | [], b, _, hb => by
    rw [mrg]
    exact hb
  | x :: a, [], ha, _ => by
    rw [mrg]
    exact ha
  | x :: a, y :: b, ha, hb => by
    have h1 := List.pairwise_cons.1 ha
    have h2 := List.pairwise_cons.1 hb
    rw [mrg]
    split
    · rename_i hlt
      refine List.pairwise_cons.2 ⟨fun z hz => ?_, mrg_asc hK a (y :: b) h1.2 hb⟩
      rcases mrg_mem key a (y :: b) z hz with h | h
      · exact h1.1 z h
      · rcases List.mem_cons.1 h with rfl | h
        · exact hlt
        · exact hK.tr _ _ _ hlt (h2.1 z h)
    · rename_i hlt
      split
      · rename_i heq
        refine List.pairwise_cons.2 ⟨fun z hz => ?_, mrg_asc hK a b h1.2 h2.2⟩
        rcases mrg_mem key a b z hz with h | h
        · rw [← heq]
          exact h1.1 z h
        · exact h2.1 z h
      · rename_i heq
        have hgt : key y < key x := by
          rcases hK.tot (key x) (key y) with h | h | h
          · exact absurd h hlt
          · exact absurd h heq
          · exact h
        refine List.pairwise_cons.2 ⟨fun z hz => ?_, mrg_asc hK (x :: a) b ha h2.2⟩
        rcases mrg_mem key (x :: a) b z hz with h | h
        · rcases List.mem_cons.1 h with rfl | h
          · exact hgt
          · exact hK.tr _ _ _ hgt (h1.1 z h)
        · exact h2.1 z h
theorem mrg_find (hK : Lin K) : ∀ (a b : List A), Asc key a → Asc key b → ∀ k, findK key (mrg key a b) k = (findK key b k).or (findK key a k)
  | [], b, _, _, k => by
    rw [mrg, show findK key ([] : List A) k = none from rfl]
    cases findK key b k <;> rfl
  | x :: a, [], _, _, k => by
    rw [mrg, show findK key ([] : List A) k = none from rfl]
    rfl
  | x :: a, y :: b, ha, hb, k => by
    have h1 := List.pairwise_cons.1 ha
    have h2 := List.pairwise_cons.1 hb
    rw [mrg]
    split
    · rename_i hlt
      rw [findK_cons, mrg_find hK a (y :: b) h1.2 hb k]
      by_cases e : key x = k
      · rw [if_pos e, findK_cons key x a, if_pos e]
        have : findK key (y :: b) k = none := by
          refine findK_none key fun z hz g => ?_
          rw [← e] at g
          rcases List.mem_cons.1 hz with rfl | hz
          · rw [g] at hlt
            exact hK.irr _ hlt
          · have := hK.tr _ _ _ hlt (h2.1 z hz)
            rw [g] at this
            exact hK.irr _ this
        rw [this]
        rfl
      · rw [if_neg e, findK_cons key x a, if_neg e]
    · rename_i hlt
      split
      · rename_i heq
        rw [findK_cons, mrg_find hK a b h1.2 h2.2 k, findK_cons key y b, findK_cons key x a]
        by_cases e : key y = k
        · rw [if_pos e, if_pos e]
          rfl
        · rw [if_neg e, if_neg e, if_neg (fun g => e (heq.symm.trans g))]
      · rename_i heq
        have hgt : key y < key x := by
          rcases hK.tot (key x) (key y) with h | h | h
          · exact absurd h hlt
          · exact absurd h heq
          · exact h
        rw [findK_cons, mrg_find hK (x :: a) b ha h2.2 k, findK_cons key y b]
        by_cases e : key y = k
        · rw [if_pos e, if_pos e]
          rfl
        · rw [if_neg e, if_neg e]
end
end Go.Proofs.Ytfjcbclakgidkaa
