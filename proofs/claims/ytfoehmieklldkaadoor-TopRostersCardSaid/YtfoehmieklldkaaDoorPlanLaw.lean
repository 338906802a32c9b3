/- Plain laws of plans: the plan that takes the longest form at each slot covers, nothing of it can be left out, and no other plan that covers is smaller. No program in sight. -/
import Derived.WalkKit
namespace Go.Proofs.YtfoehmieklldkaaDoor

/-- a form: the slots from f on, up to e -/
structure Fm where
  f : Nat
  e : Nat
def hitB (x : Fm) (s : Nat) : Bool := decide (x.f ≤ s) && decide (s < x.e)
theorem hitB_iff {x : Fm} {s : Nat} : hitB x s = true ↔ x.f ≤ s ∧ s < x.e := by simp [hitB]

/-- the sum of the first n -/
def sm (g : Nat → Nat) : Nat → Nat
  | 0 => 0
  | n + 1 => sm g n + g n
theorem sm_le {g h : Nat → Nat} : ∀ {n : Nat}, (∀ i, i < n → g i ≤ h i) → sm g n ≤ sm h n
  | 0, _ => Nat.le_refl _
  | n + 1, H => Nat.add_le_add (sm_le (fun i hi => H i (by omega))) (H n (by omega))
theorem sm_congr {g h : Nat → Nat} : ∀ {n : Nat}, (∀ i, i < n → g i = h i) → sm g n = sm h n
  | 0, _ => rfl
  | n + 1, H => by show sm g n + g n = sm h n + h n; rw [sm_congr (fun i hi => H i (by omega)), H n (by omega)]
theorem sm_add (g h : Nat → Nat) : ∀ n : Nat, sm (fun i => g i + h i) n = sm g n + sm h n
  | 0 => rfl
  | n + 1 => by show sm (fun i => g i + h i) n + (g n + h n) = (sm g n + g n) + (sm h n + h n); rw [sm_add g h n]; omega
theorem sm_zero : ∀ n : Nat, sm (fun _ => 0) n = 0
  | 0 => rfl
  | n + 1 => by show sm (fun _ => 0) n + 0 = 0; rw [sm_zero n]
theorem sm_bound {g : Nat → Nat} {B : Nat} : ∀ {n : Nat}, (∀ i, i < n → g i ≤ B) → sm g n ≤ n * B
  | 0, _ => by simp [sm]
  | n + 1, H => by
    have h1 := sm_bound (n := n) (fun i hi => H i (by omega))
    have h2 := H n (by omega)
    show sm g n + g n ≤ (n + 1) * B
    rw [Nat.succ_mul]; omega
theorem sm_eq_zero {g : Nat → Nat} : ∀ {n : Nat}, sm g n = 0 → ∀ i, i < n → g i = 0
  | 0, _, i, hi => by omega
  | n + 1, h, i, hi => by
    have h' : sm g n + g n = 0 := h
    by_cases e : i = n
    · subst e; omega
    · exact sm_eq_zero (n := n) (by omega) i (by omega)

def upd (p : Nat → Nat) (k v : Nat) : Nat → Nat := fun i => if i = k then v else p i
theorem upd_same (p : Nat → Nat) (k v : Nat) : upd p k v k = v := by simp [upd]
theorem upd_ne (p : Nat → Nat) {k i : Nat} (v : Nat) (h : i ≠ k) : upd p k v i = p i := by simp [upd, h]
theorem upd_self (p : Nat → Nat) (k : Nat) : upd p k (p k) = p := by
  funext i
  by_cases h : i = k
  · subst h; simp [upd]
  · simp [upd, h]
/-- what is chosen of a plan -/
def pick (c : Nat → Bool) (p : Nat → Nat) (N : Nat) : Nat := sm (fun i => if c i = true then p i else 0) N
theorem pick_upd (c : Nat → Bool) (p : Nat → Nat) (k m : Nat) : ∀ N : Nat, pick c (upd p k (p k + m)) N = pick c p N + if k < N ∧ c k = true then m else 0
  | 0 => by simp [pick, sm]
  | N + 1 => by
    have ih := pick_upd c p k m N
    unfold pick at ih ⊢
    simp only [sm]
    rw [ih]
    by_cases hk : N = k
    · subst hk
      rw [upd_same]
      by_cases hc : c N = true
      · simp [hc]; omega
      · simp [hc]
    · rw [upd_ne _ _ hk]
      by_cases h1 : k < N
      · have h2 : k < N + 1 := by omega
        simp only [h1, h2, true_and]; omega
      · have h2 : ¬ k < N + 1 := by omega
        simp only [h1, h2, false_and, if_false]; omega
theorem pick_le {c d : Nat → Bool} {p : Nat → Nat} {N : Nat} (h : ∀ i, i < N → 0 < p i → c i = true → d i = true) : pick c p N ≤ pick d p N := by
  refine sm_le fun i hi => ?_
  show (if c i = true then p i else 0) ≤ (if d i = true then p i else 0)
  by_cases hc : c i = true
  · by_cases h0 : 0 < p i
    · rw [if_pos hc, if_pos (h i hi h0 hc)]; exact Nat.le_refl _
    · have : p i = 0 := by omega
      simp [this]
  · rw [if_neg hc]; exact Nat.zero_le _
theorem pick_split {a b c : Nat → Bool} {p : Nat → Nat} {N : Nat} (h : ∀ i, i < N → 0 < p i → c i = true → (a i = true ∨ b i = true)) : pick c p N ≤ pick a p N + pick b p N := by
  unfold pick
  rw [← sm_add]
  refine sm_le fun i hi => ?_
  show (if c i = true then p i else 0) ≤ (if a i = true then p i else 0) + (if b i = true then p i else 0)
  by_cases hc : c i = true
  · by_cases h0 : 0 < p i
    · rcases h i hi h0 hc with ha | hb
      · rw [if_pos hc, if_pos ha]; omega
      · rw [if_pos hc, if_pos hb]; omega
    · have : p i = 0 := by omega
      simp [this]
  · rw [if_neg hc]; exact Nat.zero_le _
theorem pick_join {a b c : Nat → Bool} {p : Nat → Nat} {N : Nat} (hab : ∀ i, i < N → a i = true → b i = true → False) (hac : ∀ i, i < N → a i = true → c i = true) (hbc : ∀ i, i < N → b i = true → c i = true) : pick a p N + pick b p N ≤ pick c p N := by
  unfold pick
  rw [← sm_add]
  refine sm_le fun i hi => ?_
  show (if a i = true then p i else 0) + (if b i = true then p i else 0) ≤ (if c i = true then p i else 0)
  by_cases ha : a i = true
  · have hb : ¬ b i = true := fun hb => hab i hi ha hb
    rw [if_pos ha, if_neg hb, if_pos (hac i hi ha)]; omega
  · rw [if_neg ha]
    by_cases hb : b i = true
    · rw [if_pos hb, if_pos (hbc i hi hb)]; omega
    · rw [if_neg hb]; omega

/-- the people of a plan in a slot -/
def cov (F : Nat → Fm) (p : Nat → Nat) (N s : Nat) : Nat := pick (fun i => hitB (F i) s) p N
/-- the people of forms that end by x -/
def endBy (F : Nat → Fm) (p : Nat → Nat) (N x : Nat) : Nat := pick (fun i => decide ((F i).e ≤ x)) p N

/-- the form with a slot that goes on the longest, the first one of them -/
def IsLongest (F : Nat → Fm) (N s k : Nat) : Prop :=
  k < N ∧ hitB (F k) s = true ∧ (∀ j, j < N → hitB (F j) s = true → (F j).e ≤ (F k).e) ∧ (∀ j, j < k → hitB (F j) s = true → (F j).e < (F k).e)
/-- what 'longest' has found among the first n forms -/
def lngI (F : Nat → Fm) (s : Nat) : Nat → Int
  | 0 => -1
  | n + 1 => if hitB (F n) s = true ∧ (lngI F s n < 0 ∨ (F (lngI F s n).toNat).e < (F n).e) then (n : Int) else lngI F s n
theorem lngI_spec (F : Nat → Fm) (s : Nat) : ∀ n : Nat, (lngI F s n = -1 ∧ ∀ j, j < n → hitB (F j) s = false) ∨ ∃ k : Nat, lngI F s n = (k : Int) ∧ IsLongest F n s k
  | 0 => .inl ⟨rfl, fun j hj => by omega⟩
  | n + 1 => by
    rcases lngI_spec F s n with ⟨h1, h2⟩ | ⟨k, h1, h2, h3, h4, h5⟩
    · by_cases hh : hitB (F n) s = true
      · refine .inr ⟨n, ?_, by omega, hh, ?_, ?_⟩
        · simp only [lngI, h1]; rw [if_pos ⟨hh, .inl (by omega)⟩]
        · intro j hj hj2
          by_cases e : j = n
          · subst e; exact Nat.le_refl _
          · rw [h2 j (by omega)] at hj2; cases hj2
        · intro j hj hj2
          rw [h2 j hj] at hj2; cases hj2
      · refine .inl ⟨?_, ?_⟩
        · simp only [lngI]; rw [if_neg (fun h => hh h.1), h1]
        · intro j hj
          by_cases e : j = n
          · subst e; simpa using hh
          · exact h2 j (by omega)
    · by_cases hh : hitB (F n) s = true ∧ (F k).e < (F n).e
      · refine .inr ⟨n, ?_, by omega, hh.1, ?_, ?_⟩
        · simp only [lngI, h1]; rw [if_pos ⟨hh.1, .inr (by simpa using hh.2)⟩]
        · intro j hj hj2
          by_cases e : j = n
          · subst e; exact Nat.le_refl _
          · have := h4 j (by omega) hj2; omega
        · intro j hj hj2
          have := h4 j hj hj2; omega
      · refine .inr ⟨k, ?_, by omega, h3, ?_, h5⟩
        · simp only [lngI, h1]
          rw [if_neg]
          rintro ⟨g1, g2 | g2⟩
          · omega
          · exact hh ⟨g1, by simpa using g2⟩
        · intro j hj hj2
          by_cases e : j = n
          · subst e
            have : ¬ (F k).e < (F j).e := fun g => hh ⟨hj2, g⟩
            omega
          · exact h4 j (by omega) hj2
theorem lngI_lo (F : Nat → Fm) (s n : Nat) : -1 ≤ lngI F s n := by
  rcases lngI_spec F s n with ⟨h, _⟩ | ⟨k, h, _⟩ <;> omega
theorem lngI_hi (F : Nat → Fm) (s n : Nat) : lngI F s n < n ∨ n = 0 := by
  rcases lngI_spec F s n with ⟨h, _⟩ | ⟨k, h, h2, _⟩ <;> omega

/-- what the loop over the slots keeps -/
structure PlanInv (F : Nat → Fm) (D : Nat → Nat) (N t : Nat) (p : Nat → Nat) : Prop where
  covers : ∀ s, s < t → D s ≤ cov F p N s
  support : ∀ i, i < N → 0 < p i → (F i).f ≤ t
  tight : ∀ i, i < N → 0 < p i → ∃ s, s < t ∧ IsLongest F N s i ∧ cov F p N s = D s
  least : ∀ q : Nat → Nat, (∀ s, s < t → D s ≤ cov F q N s) → ∀ x, endBy F p N x ≤ endBy F q N x

theorem PlanInv.start (F : Nat → Fm) (D : Nat → Nat) (N : Nat) : PlanInv F D N 0 (fun _ => 0) := by
  refine ⟨fun s hs => by omega, fun i _ h => absurd h (by omega), fun i _ h => absurd h (by omega), fun q _ x => ?_⟩
  have : endBy F (fun _ => 0) N x = 0 := by
    unfold endBy pick
    rw [sm_congr (h := fun _ => 0) (fun i _ => by simp), sm_zero]
  omega
theorem PlanInv.skip {F : Nat → Fm} {D : Nat → Nat} {N t : Nat} {p : Nat → Nat} (h : PlanInv F D N t p) (hd : D t ≤ cov F p N t) : PlanInv F D N (t + 1) p := by
  refine ⟨fun s hs => ?_, fun i hi h0 => Nat.le_succ_of_le (h.support i hi h0), fun i hi h0 => ?_, fun q hq x => h.least q (fun s hs => hq s (by omega)) x⟩
  · by_cases e : s = t
    · subst e; exact hd
    · exact h.covers s (by omega)
  · obtain ⟨s, h1, h2⟩ := h.tight i hi h0
    exact ⟨s, by omega, h2⟩
theorem PlanInv.add {F : Nat → Fm} {D : Nat → Nat} {N t k : Nat} {p : Nat → Nat} (h : PlanInv F D N t p) (hd : cov F p N t < D t) (hk : IsLongest F N t k) :
    PlanInv F D N (t + 1) (upd p k (p k + (D t - cov F p N t))) := by
  obtain ⟨hkN, hkt, hmax, hfst⟩ := hk
  obtain ⟨hk1, hk2⟩ := hitB_iff.1 hkt
  generalize hm : D t - cov F p N t = m
  have hcov : ∀ s, cov F (upd p k (p k + m)) N s = cov F p N s + if hitB (F k) s = true then m else 0 := fun s => by
    unfold cov
    rw [pick_upd]
    simp only [hkN, true_and]
  have hct : cov F (upd p k (p k + m)) N t = D t := by rw [hcov, if_pos hkt]; omega
  have hpos : ∀ i, 0 < upd p k (p k + m) i → i = k ∨ 0 < p i := fun i h0 => by
    by_cases e : i = k
    · exact .inl e
    · rw [upd_ne _ _ e] at h0; exact .inr h0
  refine ⟨fun s hs => ?_, fun i hi h0 => ?_, fun i hi h0 => ?_, fun q hq x => ?_⟩
  · by_cases e : s = t
    · subst e; omega
    · have := h.covers s (by omega)
      rw [hcov]; omega
  · rcases hpos i h0 with rfl | h0
    · omega
    · have := h.support i hi h0; omega
  · by_cases e : i = k
    · subst e; exact ⟨t, by omega, ⟨hkN, hkt, hmax, hfst⟩, hct⟩
    · rcases hpos i h0 with rfl | h0
      · exact absurd rfl e
      obtain ⟨s, h1, h2, h3⟩ := h.tight i hi h0
      refine ⟨s, by omega, h2, ?_⟩
      have hno : hitB (F k) s = false := by
        by_cases hh : hitB (F k) s = true
        · exfalso
          obtain ⟨g1, g2, g3, g4⟩ := h2
          obtain ⟨i1, i2⟩ := hitB_iff.1 g2
          have e1 := g3 k hkN hh
          have hit : hitB (F i) t = true := hitB_iff.2 ⟨by omega, by omega⟩
          have e2 := hmax i hi hit
          rcases Nat.lt_or_gt_of_ne e with c | c
          · have := hfst i c hit; omega
          · have := g4 k c hh; omega
        · simpa using hh
      rw [hcov, hno]; simpa using h3
  · have hq' : ∀ s, s < t → D s ≤ cov F q N s := fun s hs => hq s (by omega)
    have ih := h.least q hq'
    have hend : ∀ y, endBy F (upd p k (p k + m)) N y = endBy F p N y + if (F k).e ≤ y then m else 0 := fun y => by
      unfold endBy
      rw [pick_upd]
      simp only [hkN, true_and, decide_eq_true_eq]
    by_cases hx : (F k).e ≤ x
    · have a1 : endBy F (upd p k (p k + m)) N x ≤ endBy F (upd p k (p k + m)) N t + cov F (upd p k (p k + m)) N t := by
        refine pick_split fun i hi h0 hc => ?_
        by_cases g : (F i).e ≤ t
        · exact .inl (by simpa using g)
        · refine .inr (hitB_iff.2 ⟨?_, by omega⟩)
          rcases hpos i h0 with rfl | h0
          · exact hk1
          · exact h.support i hi h0
      have a2 : endBy F (upd p k (p k + m)) N t = endBy F p N t := by
        rw [hend, if_neg (by omega)]; rfl
      have a3 := ih t
      have a4 := hq t (by omega)
      have a5 : endBy F q N t + cov F q N t ≤ endBy F q N x := by
        refine pick_join (fun i hi ha hb => ?_) (fun i hi ha => ?_) (fun i hi hb => ?_)
        · have := (hitB_iff.1 hb).2
          simp at ha; omega
        · simp at ha ⊢; omega
        · have := hmax i hi hb
          simp; omega
      omega
    · rw [hend, if_neg hx]
      exact ih x

/-- ALL SLOTS HAVE BEEN SEEN: no other plan that covers is smaller. -/
theorem PlanInv.fewest {F : Nat → Fm} {D : Nat → Nat} {N t : Nat} {p : Nat → Nat} (h : PlanInv F D N t p) {q : Nat → Nat} (hq : ∀ s, s < t → D s ≤ cov F q N s) (E : Nat) (hE : ∀ i, i < N → (F i).e ≤ E) : sm p N ≤ sm q N := by
  have all : ∀ r : Nat → Nat, endBy F r N E = sm r N := fun r => by
    unfold endBy pick
    exact sm_congr fun i hi => by simp [hE i hi]
  have := h.least q hq E
  rwa [all, all] at this

end Go.Proofs.YtfoehmieklldkaaDoor
