/- Plain laws of a clock's time: what its pieces count, and the moment at which it has too much. No program in sight. -/
import Derived.Test.YtllcgcnebofdoaaGreatDoorQShLaw
namespace Go.Proofs.YtllcgcnebofdoaaGreatDoor

/-- a piece: from, to (-1: it goes on), calendar; a clock -/
abbrev Pc := Int × Int × Int
structure ClkD where
  kind : Int
  lev : Int
  min : Int
  start : Int
  stop : Int
  fin : Int
  ps : List Pc
/-- where a piece ends -/
def pcEnd (p : Pc) : Int := if p.2.1 = -1 then 3000001 else p.2.1
def pcCal (cals : List CalD) (p : Pc) : CalD := cals.getD p.2.2.toNat ⟨0, [], [], []⟩
/-- up to m a piece is counted up to here -/
def cutEnd (p : Pc) (m : Int) : Int := if p.2.1 = -1 then m else min m p.2.1
def pcN (cals : List CalD) (p : Pc) (m : Int) : Int := if p.1 < cutEnd p m then lens (openL (pcCal cals p) p.1 (cutEnd p m)) else 0
def elapF (cals : List CalD) : List Pc → Int → Int
  | [], _ => 0
  | p :: r, m => pcN cals p m + elapF cals r m
theorem elap_append (cals : List CalD) (m : Int) : ∀ (a b : List Pc), elapF cals (a ++ b) m = elapF cals a m + elapF cals b m
  | [], b => by simp [elapF]
  | p :: a, b => by rw [List.cons_append, elapF, elapF, elap_append cals m a b]; omega
/-- all that a piece counts -/
def fullN (cals : List CalD) (p : Pc) : Int := lens (openL (pcCal cals p) p.1 (pcEnd p))
/-- the moment that is the k-th one counted -/
def cntF (cals : List CalD) : List Pc → Int → Option Int
  | [], _ => none
  | p :: r, k => if k < fullN cals p then addF k (openL (pcCal cals p) p.1 3000001) else cntF cals r (k - fullN cals p)

/-- pieces of a clock that goes on: one behind the other, each with a right calendar -/
def PcsOk (cals : List CalD) : Int → List Pc → Prop
  | _, [] => True
  | lo, p :: r => lo ≤ p.1 ∧ p.1 ≤ 3000000 ∧ p.1 < pcEnd p ∧ pcEnd p ≤ 3000001 ∧ (p.2.1 = -1 → r = []) ∧ CalOk (pcCal cals p) ∧ PcsOk cals (pcEnd p) r

theorem cnt_one (f : Int → Bool) (a : Int) : cnt f a (a + 1) = if f a then 1 else 0 := by
  unfold cnt
  rw [show (a + 1 - a).toNat = 1 by omega]
  simp [cntN]
/-- the k-th moment at which f holds -/
theorem cnt_at (f : Int → Bool) (a : Int) : ∀ (n : Nat) (k : Nat), k < cnt f a (a + n) → ∃ m, a ≤ m ∧ m < a + n ∧ f m = true ∧ cnt f a m = k
  | 0, k, h => by
    rw [show a + ((0 : Nat) : Int) = a by omega, cnt_self] at h
    omega
  | n + 1, k, h => by
    have e : cnt f a (a + ((n + 1 : Nat) : Int)) = cnt f a (a + n) + cnt f (a + n) (a + n + 1) := by
      rw [show a + ((n + 1 : Nat) : Int) = a + n + 1 by omega]
      exact cnt_split f (by omega) (by omega)
    by_cases g : k < cnt f a (a + n)
    · obtain ⟨m, h1, h2, h3, h4⟩ := cnt_at f a n k g
      exact ⟨m, h1, by omega, h3, h4⟩
    · rw [e, cnt_one] at h
      cases hf : f (a + n) with
      | false => rw [hf] at h; simp at h; omega
      | true =>
        rw [hf] at h
        simp at h
        exact ⟨a + n, by omega, by omega, hf, by omega⟩
theorem open_cnt' {c : CalD} (hc : CalOk c) {fr a b hi : Int} (h0 : 0 ≤ fr) (h1 : fr ≤ a) (h2 : b ≤ hi) : cnt (covB (openL c fr hi)) a b = cnt (openB c) a b :=
  cnt_congr fun t g1 g2 => by
    rw [open_cov hc fr hi h0, show decide (fr ≤ t) = true by simp; omega, show decide (t < hi) = true by simp; omega]
    rfl
/-- the moment that Add finds -/
theorem add_at {c : CalD} (hc : CalOk c) {fr en : Int} (h0 : 0 ≤ fr) (h1 : fr ≤ en) (h2 : en ≤ 3000001) {k : Int} (hk0 : 0 ≤ k) (hk : k < lens (openL c fr en)) :
    ∃ m, addF k (openL c fr 3000001) = some m ∧ fr ≤ m ∧ m < en ∧ lens (openL c fr m) = k ∧ lens (openL c fr (m + 1)) = k + 1 := by
  rw [open_lens hc h0 h1] at hk
  obtain ⟨m, g1, g2, g3, g4⟩ := cnt_at (openB c) fr (en - fr).toNat k.toNat (by rw [show fr + ((en - fr).toNat : Int) = en by omega]; omega)
  have g2 : m < en := by omega
  refine ⟨m, ?_, g1, g2, ?_, ?_⟩
  · have hcv : covB (openL c fr 3000001) m = true := by
      rw [open_cov hc fr 3000001 h0, g3, show decide (fr ≤ m) = true by simp; omega, show decide (m < 3000001) = true by simp; omega]
      rfl
    have := addF_to (open_apart hc fr 3000001 h0) g1 hcv
    rw [open_cnt' hc h0 (Int.le_refl _) (by omega), g4] at this
    rw [← this]
    congr 1
    omega
  · rw [open_lens hc h0 g1, g4]
    omega
  · rw [open_lens hc h0 (by omega), cnt_split (openB c) g1 (by omega : m ≤ m + 1), cnt_one, g3, g4]
    simp
    omega
theorem lens_self {c : CalD} (hc : CalOk c) {a : Int} (h : 0 ≤ a) : lens (openL c a a) = 0 := by
  rw [open_lens hc h (Int.le_refl _), cnt_self]
  rfl
theorem lens_nonneg {c : CalD} (hc : CalOk c) {a b : Int} (h : 0 ≤ a) (hb : a ≤ b) : 0 ≤ lens (openL c a b) := by
  rw [open_lens hc h hb]
  omega
theorem lens_mono {c : CalD} (hc : CalOk c) {a b d : Int} (h : 0 ≤ a) (hb : a ≤ b) (hd : b ≤ d) : lens (openL c a b) ≤ lens (openL c a d) := by
  rw [open_lens hc h hb, open_lens hc h (by omega), cnt_split (openB c) hb hd]
  omega
/-- pieces that begin behind a moment count nothing -/
theorem elap_later {cals : List CalD} {m : Int} : ∀ {ps : List Pc} {lo : Int}, PcsOk cals lo ps → m ≤ lo → elapF cals ps m = 0
  | [], _, _, _ => rfl
  | p :: r, lo, ⟨h1, _, h3, _, _, _, h7⟩, h => by
    rw [elapF, elap_later h7 (by omega)]
    unfold pcN
    have : ¬ p.1 < cutEnd p m := by
      unfold cutEnd
      split <;> omega
    rw [if_neg this]
    rfl
/-- at the moment that is found just so much has elapsed, one moment later one more -/
theorem cnt_found {cals : List CalD} {m : Int} : ∀ {ps : List Pc} {lo k : Int}, PcsOk cals lo ps → 0 ≤ lo → 0 ≤ k → cntF cals ps k = some m → lo ≤ m ∧ m ≤ 3000000 ∧ elapF cals ps m = k ∧ elapF cals ps (m + 1) = k + 1
  | [], _, _, _, _, _, h => by cases h
  | p :: r, lo, k, ⟨h1, h2, h3, h4, h5, h6, h7⟩, h0, hk0, h => by
    unfold cntF at h
    by_cases hk : k < fullN cals p
    · rw [if_pos hk] at h
      obtain ⟨m', e1, e2, e3, e4, e5⟩ := add_at h6 (by omega) (Int.le_of_lt h3) h4 hk0 hk
      rw [e1] at h
      cases h
      have c1 : cutEnd p m = m := by
        unfold cutEnd pcEnd at *
        split <;> rename_i q
        · rfl
        · rw [if_neg q] at e3; omega
      have c2 : cutEnd p (m + 1) = m + 1 := by
        unfold cutEnd pcEnd at *
        split <;> rename_i q
        · rfl
        · rw [if_neg q] at e3; omega
      refine ⟨by omega, by omega, ?_, ?_⟩
      · rw [elapF, elap_later h7 (by omega)]
        unfold pcN
        rw [c1]
        split
        · omega
        · have : p.1 = m := by omega
          rw [← this, lens_self h6 (by omega)] at e4
          omega
      · rw [elapF, elap_later h7 (by omega)]
        unfold pcN
        rw [c2, if_pos (by omega)]
        omega
    · rw [if_neg hk] at h
      have hne : p.2.1 ≠ -1 := by
        intro q
        rw [h5 q] at h
        cases h
      obtain ⟨g1, g2, g3, g4⟩ := cnt_found h7 (by omega) (by omega) h
      have ce : pcEnd p = p.2.1 := by unfold pcEnd; rw [if_neg hne]
      have cf : ∀ t, m ≤ t → pcN cals p t = fullN cals p := by
        intro t ht
        unfold pcN
        have c1 : cutEnd p t = pcEnd p := by
          unfold cutEnd
          rw [if_neg hne, ce]
          omega
        rw [c1, if_pos h3]
        rfl
      refine ⟨by omega, g2, ?_, ?_⟩
      · rw [elapF, cf m (Int.le_refl _), g3]; omega
      · rw [elapF, cf (m + 1) (by omega), g4]; omega
theorem cnt_missed {cals : List CalD} : ∀ {ps : List Pc} {lo k : Int}, PcsOk cals lo ps → 0 ≤ lo → 0 ≤ k → cntF cals ps k = none → elapF cals ps 3000000 ≤ k
  | [], _, _, _, _, hk, _ => hk
  | p :: r, lo, k, ⟨h1, h2, h3, h4, h5, h6, h7⟩, h0, hk0, h => by
    unfold cntF at h
    by_cases hk : k < fullN cals p
    · rw [if_pos hk] at h
      obtain ⟨m', e1, _⟩ := add_at h6 (by omega) (Int.le_of_lt h3) h4 hk0 hk
      rw [e1] at h
      cases h
    · rw [if_neg hk] at h
      have ih := cnt_missed h7 (by omega) (by omega) h
      have hp : pcN cals p 3000000 ≤ fullN cals p := by
        unfold pcN
        split
        · refine lens_mono h6 (by omega) (by omega) ?_
          unfold cutEnd pcEnd
          split <;> omega
        · exact lens_nonneg h6 (by omega) (Int.le_of_lt h3)
      rw [elapF]
      omega
end Go.Proofs.YtllcgcnebofdoaaGreatDoor
