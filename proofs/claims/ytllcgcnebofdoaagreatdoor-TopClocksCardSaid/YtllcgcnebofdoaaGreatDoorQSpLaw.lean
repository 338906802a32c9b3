/- Plain laws of spans: merging, counting of covered moments, the moment up en9 which so much is worked. No program in sight. -/
import Derived.Test.YtllcgcnebofdoaaGreatDoorQBase
import Derived.Test.YtllcgcnebofdoaaGreatDoorQZoneLaw
namespace Go.Proofs.YtllcgcnebofdoaaGreatDoor

abbrev Sp := Int × Int
def covB (l : List Sp) (t : Int) : Bool := l.any fun s => decide (s.1 ≤ t) && decide (t < s.2)
theorem covB_nil (t : Int) : covB [] t = false := rfl
theorem covB_cons (s : Sp) (l : List Sp) (t : Int) : covB (s :: l) t = (decide (s.1 ≤ t) && decide (t < s.2) || covB l t) := rfl
theorem covB_iff {l : List Sp} {t : Int} : covB l t = true ↔ ∃ s ∈ l, s.1 ≤ t ∧ t < s.2 := by
  unfold covB
  rw [List.any_eq_true]
  constructor
  · rintro ⟨s, h1, h2⟩
    exact ⟨s, h1, by simpa using h2⟩
  · rintro ⟨s, h1, h2⟩
    exact ⟨s, h1, by simpa using h2⟩
theorem covB_append (a b : List Sp) (t : Int) : covB (a ++ b) t = (covB a t || covB b t) := by unfold covB; rw [List.any_append]

/-- how many of n moments from a on have a property -/
def cntN (p : Int → Bool) (a : Int) : Nat → Nat
  | 0 => 0
  | n + 1 => cntN p a n + if p (a + n) then 1 else 0
theorem cntN_add (p : Int → Bool) (a : Int) (m : Nat) : ∀ n, cntN p a (m + n) = cntN p a m + cntN p (a + m) n
  | 0 => rfl
  | n + 1 => by
    rw [← Nat.add_assoc, cntN, cntN_add p a m n, cntN, Nat.add_assoc]
    congr 3
    rw [show a + ((m + n : Nat) : Int) = a + (m : Int) + (n : Int) by omega]
theorem cntN_congr {p q : Int → Bool} {a : Int} : ∀ {n : Nat}, (∀ t, a ≤ t → t < a + n → p t = q t) → cntN p a n = cntN q a n
  | 0, _ => rfl
  | n + 1, h => by
    rw [cntN, cntN, cntN_congr (n := n) (fun t h1 h2 => h t h1 (by omega)), h (a + n) (by omega) (by omega)]
theorem cntN_false (a : Int) : ∀ n, cntN (fun _ => false) a n = 0
  | 0 => rfl
  | n + 1 => by rw [cntN, cntN_false a n]; rfl
theorem cntN_true (a : Int) : ∀ n, cntN (fun _ => true) a n = n
  | 0 => rfl
  | n + 1 => by rw [cntN, cntN_true a n]; rfl
theorem cntN_le (p : Int → Bool) (a : Int) : ∀ n, cntN p a n ≤ n
  | 0 => Nat.le_refl _
  | n + 1 => by rw [cntN]; have := cntN_le p a n; split <;> omega
theorem cntN_sum {p q r : Int → Bool} {a : Int} : ∀ {n : Nat}, (∀ t, a ≤ t → t < a + n → (if p t then 1 else 0) = (if q t then 1 else 0) + (if r t then 1 else 0)) → cntN p a n = cntN q a n + cntN r a n
  | 0, _ => rfl
  | n + 1, h => by
    rw [cntN, cntN, cntN, cntN_sum (n := n) (fun t h1 h2 => h t h1 (by omega)), h (a + n) (by omega) (by omega)]
    omega

/-- how many moments in a, b .. have a property -/
def cnt (p : Int → Bool) (a b : Int) : Nat := cntN p a (b - a).toNat
theorem cnt_self (p : Int → Bool) (a : Int) : cnt p a a = 0 := by unfold cnt; rw [Int.sub_self]; rfl
theorem cnt_split (p : Int → Bool) {a b c : Int} (h1 : a ≤ b) (h2 : b ≤ c) : cnt p a c = cnt p a b + cnt p b c := by
  unfold cnt
  obtain ⟨m, rfl⟩ : ∃ m : Nat, b = a + m := ⟨(b - a).toNat, by omega⟩
  obtain ⟨n, rfl⟩ : ∃ n : Nat, c = a + m + n := ⟨(c - (a + m)).toNat, by omega⟩
  rw [show (a + m + n - a).toNat = m + n by omega, show (a + (m : Int) - a).toNat = m by omega, show (a + m + n - (a + m)).toNat = n by omega]
  exact cntN_add p a m n
theorem cnt_congr {p q : Int → Bool} {a b : Int} (h : ∀ t, a ≤ t → t < b → p t = q t) : cnt p a b = cnt q a b := cntN_congr fun t h1 h2 => h t h1 (by omega)
theorem cnt_none {p : Int → Bool} {a b : Int} (h : ∀ t, a ≤ t → t < b → p t = false) : cnt p a b = 0 := by rw [cnt_congr (q := fun _ => false) h]; exact cntN_false _ _
theorem cnt_all {p : Int → Bool} {a b : Int} (h : ∀ t, a ≤ t → t < b → p t = true) : cnt p a b = (b - a).toNat := by rw [cnt_congr (q := fun _ => true) h]; exact cntN_true _ _
theorem cnt_le (p : Int → Bool) (a b : Int) : cnt p a b ≤ (b - a).toNat := cntN_le _ _ _
theorem cnt_sum {p q r : Int → Bool} {a b : Int} (h : ∀ t, a ≤ t → t < b → (if p t then 1 else 0) = (if q t then 1 else 0) + (if r t then 1 else 0)) : cnt p a b = cnt q a b + cnt r a b :=
  cntN_sum fun t h1 h2 => h t h1 (by omega)

/-- spans that rise and do not touch, in lo, hi .. -/
def Apart : Int → Int → List Sp → Prop
  | _, _, [] => True
  | lo, hi, s :: r => lo ≤ s.1 ∧ s.1 < s.2 ∧ s.2 ≤ hi ∧ Apart (s.2 + 1) hi r
theorem Apart.le : ∀ {l : List Sp} {lo lo' hi : Int}, Apart lo hi l → lo' ≤ lo → Apart lo' hi l
  | [], _, _, _, _, _ => True.intro
  | _ :: _, _, _, _, ⟨h1, h2, h3, h4⟩, h => ⟨by omega, h2, h3, h4⟩
theorem Apart.hi : ∀ {l : List Sp} {lo hi hi' : Int}, Apart lo hi l → hi ≤ hi' → Apart lo hi' l
  | [], _, _, _, _, _ => True.intro
  | _ :: _, _, _, _, ⟨h1, h2, h3, h4⟩, h => ⟨h1, h2, by omega, h4.hi h⟩
theorem Apart.below : ∀ {l : List Sp} {lo hi : Int} {t : Int}, Apart lo hi l → t < lo → covB l t = false
  | [], _, _, _, _, _ => rfl
  | s :: r, lo, hi, t, ⟨h1, h2, h3, h4⟩, h => by
    rw [covB_cons, Apart.below h4 (by omega), Bool.or_false]
    simp; intro; omega
theorem Apart.above : ∀ {l : List Sp} {lo hi : Int} {t : Int}, Apart lo hi l → hi ≤ t → covB l t = false
  | [], _, _, _, _, _ => rfl
  | s :: r, lo, hi, t, ⟨h1, h2, h3, h4⟩, h => by
    rw [covB_cons, Apart.above h4 h, Bool.or_false]
    simp; intro; omega
theorem Apart.mem : ∀ {l : List Sp} {lo hi : Int}, Apart lo hi l → ∀ s ∈ l, lo ≤ s.1 ∧ s.1 < s.2 ∧ s.2 ≤ hi
  | [], _, _, _, s, h => by cases h
  | x :: r, lo, hi, ⟨h1, h2, h3, h4⟩, s, h => by
    rcases List.mem_cons.1 h with rfl | h
    · exact ⟨h1, h2, h3⟩
    · have := h4.mem s h
      omega
/-- what covers of the head, and what of the rest -/
theorem Apart.cov_head {s : Sp} {r : List Sp} {lo hi t : Int} (h : Apart lo hi (s :: r)) : (t < s.1 → covB (s :: r) t = false) ∧ (s.1 ≤ t → t < s.2 → covB (s :: r) t = true) ∧ (s.2 ≤ t → covB (s :: r) t = covB r t) := by
  obtain ⟨h1, h2, h3, h4⟩ := h
  refine ⟨fun g => ?_, fun g1 g2 => ?_, fun g => ?_⟩
  · rw [covB_cons, Apart.below h4 (by omega), Bool.or_false]; simp; intro; omega
  · rw [covB_cons]; simp [g1, g2]
  · rw [covB_cons, show (decide (s.1 ≤ t) && decide (t < s.2)) = false by simp; intro; omega, Bool.false_or]

def lens : List Sp → Int
  | [] => 0
  | s :: r => (s.2 - s.1) + lens r
theorem lens_append (a b : List Sp) : lens (a ++ b) = lens a + lens b := by
  induction a with
  | nil => simp [lens]
  | cons s r ih => simp only [List.cons_append, lens, ih]; omega
theorem lens_cnt : ∀ {l : List Sp} {lo hi : Int}, Apart lo hi l → lo ≤ hi → lens l = (cnt (covB l) lo hi : Nat)
  | [], lo, hi, _, _ => by rw [cnt_none (fun t _ _ => covB_nil t)]; rfl
  | s :: r, lo, hi, h, hle => by
    have hc := fun t => h.cov_head (t := t)
    obtain ⟨h1, h2, h3, h4⟩ := h
    rw [cnt_split _ h1 (by omega), cnt_split _ (show s.1 ≤ s.2 by omega) h3, cnt_none (fun t _ g => (hc t).1 g), cnt_all (fun t g1 g2 => (hc t).2.1 g1 g2), cnt_congr (fun t g _ => (hc t).2.2 g)]
    have ih : lens r = (cnt (covB r) s.2 hi : Nat) := by
      by_cases e : s.2 + 1 ≤ hi
      · rw [lens_cnt h4 e, cnt_split (covB r) (show s.2 ≤ s.2 + 1 by omega) e, cnt_none (a := s.2) (fun t _ g => Apart.below h4 (by omega))]
        simp
      · have : r = [] := by
          cases r with
          | nil => rfl
          | cons x y => obtain ⟨g1, g2, g3, _⟩ := h4; omega
        subst this
        rw [cnt_none (fun t _ _ => covB_nil t)]; rfl
    simp only [lens]
    rw [ih]
    omega

/-- overlapping spans made into few -/
def mergeF : Option Sp → List Sp → List Sp
  | none, [] => []
  | some s, [] => [s]
  | none, s :: r => mergeF (some s) r
  | some l, s :: r => if s.1 ≤ l.2 then mergeF (some (l.1, max l.2 s.2)) r else l :: mergeF (some s) r
/-- spans that rise by their beginnings, none of them empty -/
def Rising : Int → Int → List Sp → Prop
  | _, _, [] => True
  | lo, hi, s :: r => lo ≤ s.1 ∧ s.1 < s.2 ∧ s.2 ≤ hi ∧ Rising s.1 hi r
theorem Rising.le : ∀ {l : List Sp} {lo lo' hi : Int}, Rising lo hi l → lo' ≤ lo → Rising lo' hi l
  | [], _, _, _, _, _ => True.intro
  | _ :: _, _, _, _, ⟨h1, h2, h3, h4⟩, h => ⟨by omega, h2, h3, h4⟩
theorem merge_some : ∀ (r : List Sp) (l : Sp) (lo hi : Int), lo ≤ l.1 → l.1 < l.2 → l.2 ≤ hi → Rising l.1 hi r → Apart lo hi (mergeF (some l) r) ∧ ∀ t, covB (mergeF (some l) r) t = covB (l :: r) t
  | [], l, lo, hi, h1, h2, h3, _ => ⟨⟨h1, h2, h3, True.intro⟩, fun t => rfl⟩
  | s :: r, l, lo, hi, h1, h2, h3, ⟨g1, g2, g3, g4⟩ => by
    unfold mergeF
    by_cases e : s.1 ≤ l.2
    · rw [if_pos e]
      obtain ⟨k1, k2⟩ := merge_some r (l.1, max l.2 s.2) lo hi h1 (by simp only; omega) (by simp only; omega) (g4.le g1)
      refine ⟨k1, fun t => ?_⟩
      rw [k2, covB_cons, covB_cons, covB_cons, ← Bool.or_assoc]
      congr 1
      rw [Bool.eq_iff_iff]
      simp only [Bool.or_eq_true, Bool.and_eq_true, decide_eq_true_eq]
      omega
    · rw [if_neg e]
      obtain ⟨k1, k2⟩ := merge_some r s (l.2 + 1) hi (by omega) g2 g3 g4
      exact ⟨⟨h1, h2, h3, k1⟩, fun t => by rw [covB_cons, k2, covB_cons l]⟩
theorem merge_none (r : List Sp) (lo hi : Int) (h : Rising lo hi r) : Apart lo hi (mergeF none r) ∧ ∀ t, covB (mergeF none r) t = covB r t := by
  cases r with
  | nil => exact ⟨True.intro, fun t => rfl⟩
  | cons s r =>
    obtain ⟨h1, h2, h3, h4⟩ := h
    exact merge_some r s lo hi h1 h2 h3 h4

/-- the first open moment up en9 which so much is worked -/
def addF : Int → List Sp → Option Int
  | _, [] => none
  | k, s :: r => if s.2 - s.1 ≤ k then addF (k - (s.2 - s.1)) r else some (s.1 + k)
/-- the first moment up en9 which so much is worked -/
def endF : Int → List Sp → Option Int
  | _, [] => none
  | k, s :: r => if s.2 - s.1 < k then endF (k - (s.2 - s.1)) r else some (s.1 + k)
theorem addF_to : ∀ {l : List Sp} {lo hi en9 : Int}, Apart lo hi l → lo ≤ en9 → covB l en9 = true → addF (cnt (covB l) lo en9 : Nat) l = some en9
  | [], _, _, _, _, _, h => by cases h
  | s :: r, lo, hi, en9, h, hle, hc => by
    have hh := fun t => h.cov_head (t := t)
    obtain ⟨h1, h2, h3, h4⟩ := h
    have hs : s.1 ≤ en9 := by
      apply Classical.byContradiction
      intro g
      rw [(hh en9).1 (by omega)] at hc
      cases hc
    rw [cnt_split _ h1 hs, cnt_none (fun t _ g => (hh t).1 g), Nat.zero_add]
    unfold addF
    by_cases e : en9 < s.2
    · rw [cnt_all (fun t g1 g2 => (hh t).2.1 g1 (by omega)), if_neg (by omega)]
      congr 1; omega
    · rw [cnt_split _ (show s.1 ≤ s.2 by omega) (show s.2 ≤ en9 by omega), cnt_all (fun t g1 g2 => (hh t).2.1 g1 g2), cnt_congr (fun t g _ => (hh t).2.2 g), if_pos (by omega)]
      rw [(hh en9).2.2 (by omega)] at hc
      have hlt : s.2 + 1 ≤ en9 := by
        apply Classical.byContradiction
        intro g
        rw [Apart.below h4 (by omega)] at hc
        cases hc
      have ih := addF_to h4 hlt hc
      rw [cnt_split (covB r) (show s.2 ≤ s.2 + 1 by omega) hlt, cnt_none (a := s.2) (fun t _ g => Apart.below h4 (by omega)), Nat.zero_add, ← ih]
      congr 1
      omega
theorem endF_to : ∀ {l : List Sp} {lo hi en9 : Int}, Apart lo hi l → lo ≤ en9 → covB l en9 = true → 0 < cnt (covB l) lo en9 → ∃ n, endF (cnt (covB l) lo en9 : Nat) l = some n ∧ lo ≤ n ∧ n ≤ en9 ∧ cnt (covB l) n en9 = 0
  | [], _, _, _, _, _, h, _ => by cases h
  | s :: r, lo, hi, en9, h, hle, hc, hpos => by
    have hh := fun t => h.cov_head (t := t)
    obtain ⟨h1, h2, h3, h4⟩ := h
    have hs : s.1 ≤ en9 := by
      apply Classical.byContradiction
      intro g
      rw [(hh en9).1 (by omega)] at hc
      cases hc
    rw [cnt_split _ h1 hs, cnt_none (fun t _ g => (hh t).1 g), Nat.zero_add] at hpos ⊢
    unfold endF
    by_cases e : en9 < s.2
    · rw [cnt_all (fun t g1 g2 => (hh t).2.1 g1 (by omega)), if_neg (by omega)]
      exact ⟨_, rfl, by omega, by omega, by rw [show s.1 + ((en9 - s.1).toNat : Int) = en9 by omega, cnt_self]⟩
    · rw [cnt_split _ (show s.1 ≤ s.2 by omega) (show s.2 ≤ en9 by omega), cnt_all (fun t g1 g2 => (hh t).2.1 g1 g2), cnt_congr (fun t g _ => (hh t).2.2 g)]
      rw [(hh en9).2.2 (by omega)] at hc
      have hlt : s.2 + 1 ≤ en9 := by
        apply Classical.byContradiction
        intro g
        rw [Apart.below h4 (by omega)] at hc
        cases hc
      have hz : cnt (covB r) s.2 en9 = cnt (covB r) (s.2 + 1) en9 := by rw [cnt_split (covB r) (show s.2 ≤ s.2 + 1 by omega) hlt, cnt_none (a := s.2) (fun t _ g => Apart.below h4 (by omega)), Nat.zero_add]
      by_cases e0 : cnt (covB r) s.2 en9 = 0
      · rw [e0, if_neg (by omega)]
        refine ⟨_, rfl, by omega, by omega, ?_⟩
        rw [show s.1 + (((s.2 - s.1).toNat + 0 : Nat) : Int) = s.2 by omega, cnt_congr (fun t g _ => (hh t).2.2 g), e0]
      · rw [if_pos (by omega)]
        obtain ⟨n, k1, k2, k3, k4⟩ := endF_to h4 hlt hc (by omega)
        refine ⟨n, ?_, by omega, k3, ?_⟩
        · rw [← k1]
          congr 1
          omega
        · rw [cnt_congr (fun t g _ => (hh t).2.2 (by omega)), k4]

end Go.Proofs.YtllcgcnebofdoaaGreatDoor

/- Plain laws of a calendar's shifts: what they cover between two moments, and that they rise. No program in sight. -/
namespace Go.Proofs.YtllcgcnebofdoaaGreatDoor

/-- a shift: the day, from, en9 -/
abbrev Shf := Int × Int × Int
structure CalD where
  off : Int
  cs : List (Int × Int)
  wk : List Shf
  sps : List (Int × List Shf)

def hours (l : List Shf) : List Sp := l.map fun x => (x.2.1, x.2.2)
/-- the shifts that begin on a local day -/
def shD (c : CalD) (day : Int) : List Sp := match c.sps.find? (fun s => decide (s.1 = day)) with
  | some s => hours s.2
  | none => hours (c.wk.filter fun x => decide (x.1 = day % 7))

def clipL (a b beg : Int) (l : List Sp) : List Sp := (l.map fun s => (max a (beg + s.1), min b (beg + s.2))).filter fun x => decide (x.1 < x.2)
def daysFrom (c : CalD) (o a b d : Int) : Nat → List Sp
  | 0 => []
  | n + 1 => clipL a b (d * 1440 - o) (shD c d) ++ daysFrom c o a b (d + 1) n
def partL (c : CalD) (fr en9 : Int) (p : Pt) : List Sp :=
  if min en9 p.t ≤ max fr p.f then [] else daysFrom c p.o (max fr p.f) (min en9 p.t) ((max fr p.f + p.o) / 1440 - 1) (((min en9 p.t - 1 + p.o) / 1440 - ((max fr p.f + p.o) / 1440 - 1)).toNat + 1)
def shiftL (c : CalD) (fr en9 : Int) : List Sp := (prts 0 c.off c.cs).flatMap (partL c fr en9)
def openL (c : CalD) (fr en9 : Int) : List Sp := mergeF none (shiftL c fr en9)

structure ShOk (s : Sp) : Prop where
  lo : 0 ≤ s.1
  hi : s.1 < 1440
  ne : s.1 < s.2
  long : s.2 ≤ s.1 + 1440
def SortedSp : List Sp → Prop
  | [] => True
  | s :: r => (∀ x ∈ r, s.1 ≤ x.1) ∧ SortedSp r
structure CalOk (c : CalD) : Prop where
  zone : ZoneOk c.off c.cs
  each : ∀ d, ∀ s ∈ shD c d, ShOk s
  sorted : ∀ d, SortedSp (shD c d)

/-- whether a moment is open -/
def openB (c : CalD) (t : Int) : Bool := (prts 0 c.off c.cs).any fun p => decide (p.f ≤ t) && decide (t < p.t) &&
  ((shD c ((t + p.o) / 1440 - 1)).any (fun s => decide (((t + p.o) / 1440 - 1) * 1440 - p.o + s.1 ≤ t) && decide (t < ((t + p.o) / 1440 - 1) * 1440 - p.o + s.2)) ||
   (shD c ((t + p.o) / 1440)).any (fun s => decide ((t + p.o) / 1440 * 1440 - p.o + s.1 ≤ t) && decide (t < (t + p.o) / 1440 * 1440 - p.o + s.2)))

theorem cov_clip (a b beg t : Int) (l : List Sp) : covB (clipL a b beg l) t = true ↔ a ≤ t ∧ t < b ∧ ∃ s ∈ l, beg + s.1 ≤ t ∧ t < beg + s.2 := by
  rw [covB_iff]
  unfold clipL
  constructor
  · rintro ⟨x, hx, h1, h2⟩
    rw [List.mem_filter, List.mem_map] at hx
    obtain ⟨⟨s, hs, rfl⟩, hd⟩ := hx
    simp only at h1 h2 hd
    exact ⟨by omega, by omega, s, hs, by omega, by omega⟩
  · rintro ⟨h1, h2, s, hs, h3, h4⟩
    refine ⟨(max a (beg + s.1), min b (beg + s.2)), ?_, by simp only; omega, by simp only; omega⟩
    rw [List.mem_filter, List.mem_map]
    exact ⟨⟨s, hs, rfl⟩, by simp only [decide_eq_true_eq]; omega⟩
theorem cov_days (c : CalD) (o a b t : Int) : ∀ (n : Nat) (d : Int), covB (daysFrom c o a b d n) t = true ↔ a ≤ t ∧ t < b ∧ ∃ k : Int, d ≤ k ∧ k < d + n ∧ ∃ s ∈ shD c k, k * 1440 - o + s.1 ≤ t ∧ t < k * 1440 - o + s.2
  | 0, d => by
    constructor
    · intro h; cases h
    · rintro ⟨_, _, k, h1, h2, _⟩; omega
  | n + 1, d => by
    unfold daysFrom
    rw [covB_append, Bool.or_eq_true, cov_clip, cov_days c o a b t n (d + 1)]
    constructor
    · rintro (⟨h1, h2, h3⟩ | ⟨h1, h2, k, h3, h4, h5⟩)
      · exact ⟨h1, h2, d, by omega, by omega, h3⟩
      · exact ⟨h1, h2, k, by omega, by omega, h5⟩
    · rintro ⟨h1, h2, k, h3, h4, h5⟩
      by_cases e : k = d
      · subst e; exact .inl ⟨h1, h2, h5⟩
      · exact .inr ⟨h1, h2, k, by omega, by omega, h5⟩
theorem day_of {d t o : Int} {s : Sp} (h : ShOk s) (h1 : d * 1440 - o + s.1 ≤ t) (h2 : t < d * 1440 - o + s.2) : d = (t + o) / 1440 - 1 ∨ d = (t + o) / 1440 := by
  have := h.lo; have := h.hi; have := h.long
  omega
theorem cov_part {c : CalD} (hc : CalOk c) (fr en9 t : Int) (p : Pt) : covB (partL c fr en9 p) t = true ↔ fr ≤ t ∧ t < en9 ∧ p.f ≤ t ∧ t < p.t ∧ ∃ k : Int, ∃ s ∈ shD c k, k * 1440 - p.o + s.1 ≤ t ∧ t < k * 1440 - p.o + s.2 := by
  unfold partL
  by_cases h : min en9 p.t ≤ max fr p.f
  · rw [if_pos h]
    constructor
    · intro g; cases g
    · rintro ⟨h1, h2, h3, h4, _⟩; omega
  · rw [if_neg h, cov_days]
    constructor
    · rintro ⟨h1, h2, k, _, _, h5⟩
      exact ⟨by omega, by omega, by omega, by omega, k, h5⟩
    · rintro ⟨h1, h2, h3, h4, k, s, hs, h5, h6⟩
      have := day_of (hc.each k s hs) h5 h6
      refine ⟨by omega, by omega, k, ?_, ?_, s, hs, h5, h6⟩
      · omega
      · omega
theorem openB_iff {c : CalD} (hc : CalOk c) (t : Int) : openB c t = true ↔ ∃ p ∈ prts 0 c.off c.cs, p.f ≤ t ∧ t < p.t ∧ ∃ k : Int, ∃ s ∈ shD c k, k * 1440 - p.o + s.1 ≤ t ∧ t < k * 1440 - p.o + s.2 := by
  unfold openB
  rw [List.any_eq_true]
  constructor
  · rintro ⟨p, hp, h⟩
    simp only [Bool.and_eq_true, Bool.or_eq_true, decide_eq_true_eq, List.any_eq_true] at h
    obtain ⟨⟨h1, h2⟩, (⟨s, hs, h3, h4⟩ | ⟨s, hs, h3, h4⟩)⟩ := h
    · exact ⟨p, hp, h1, h2, _, s, hs, h3, h4⟩
    · exact ⟨p, hp, h1, h2, _, s, hs, h3, h4⟩
  · rintro ⟨p, hp, h1, h2, k, s, hs, h3, h4⟩
    refine ⟨p, hp, ?_⟩
    simp only [Bool.and_eq_true, Bool.or_eq_true, decide_eq_true_eq, List.any_eq_true]
    refine ⟨⟨h1, h2⟩, ?_⟩
    rcases day_of (hc.each k s hs) h3 h4 with e | e
    · subst e; exact .inl ⟨s, hs, h3, h4⟩
    · subst e; exact .inr ⟨s, hs, h3, h4⟩
theorem cov_shifts {c : CalD} (hc : CalOk c) (fr en9 t : Int) : covB (shiftL c fr en9) t = (decide (fr ≤ t) && decide (t < en9) && openB c t) := by
  rw [Bool.eq_iff_iff, Bool.and_eq_true, Bool.and_eq_true, decide_eq_true_eq, decide_eq_true_eq, openB_iff hc]
  have h : covB (shiftL c fr en9) t = true ↔ ∃ p ∈ prts 0 c.off c.cs, covB (partL c fr en9 p) t = true := by
    rw [covB_iff]
    unfold shiftL
    constructor
    · rintro ⟨s, hs, h1⟩
      obtain ⟨p, hp, hs⟩ := List.mem_flatMap.1 hs
      exact ⟨p, hp, covB_iff.2 ⟨s, hs, h1⟩⟩
    · rintro ⟨p, hp, h1⟩
      obtain ⟨s, hs, h2⟩ := covB_iff.1 h1
      exact ⟨s, List.mem_flatMap.2 ⟨p, hp, hs⟩, h2⟩
  rw [h]
  constructor
  · rintro ⟨p, hp, h1⟩
    obtain ⟨g1, g2, g3, g4, g5⟩ := (cov_part hc fr en9 t p).1 h1
    exact ⟨⟨g1, g2⟩, p, hp, g3, g4, g5⟩
  · rintro ⟨⟨g1, g2⟩, p, hp, g3, g4, g5⟩
    exact ⟨p, hp, (cov_part hc fr en9 t p).2 ⟨g1, g2, g3, g4, g5⟩⟩

theorem Rising.hi : ∀ {l : List Sp} {lo hi hi' : Int}, Rising lo hi l → hi ≤ hi' → Rising lo hi' l
  | [], _, _, _, _, _ => True.intro
  | _ :: _, _, _, _, ⟨h1, h2, h3, h4⟩, h => ⟨h1, h2, by omega, h4.hi h⟩
theorem Rising.append : ∀ {a b : List Sp} {lo m hi : Int}, Rising lo hi a → (∀ s ∈ a, s.1 ≤ m) → lo ≤ m → Rising m hi b → Rising lo hi (a ++ b)
  | [], b, lo, m, hi, _, _, h, h3 => h3.le h
  | s :: a, b, lo, m, hi, ⟨h1, h2, h3, h4⟩, hm, h, hb => ⟨h1, h2, h3, h4.append (fun x hx => hm x (List.mem_cons_of_mem _ hx)) (hm s List.mem_cons_self) hb⟩
theorem Rising.mem : ∀ {l : List Sp} {lo hi : Int}, Rising lo hi l → ∀ s ∈ l, lo ≤ s.1 ∧ s.1 < s.2 ∧ s.2 ≤ hi
  | [], _, _, _, s, h => by cases h
  | x :: r, lo, hi, ⟨h1, h2, h3, h4⟩, s, h => by
    rcases List.mem_cons.1 h with rfl | h
    · exact ⟨h1, h2, h3⟩
    · have := h4.mem s h
      omega
theorem rise_clip (a b beg : Int) : ∀ (l : List Sp) (lo : Int), SortedSp l → (∀ s ∈ l, ShOk s) → (∀ s ∈ l, lo ≤ max a (beg + s.1)) → Rising lo b (clipL a b beg l)
  | [], _, _, _, _ => True.intro
  | s :: r, lo, ⟨h1, h2⟩, hs, hl => by
    have ih := rise_clip a b beg r (max a (beg + s.1)) h2 (fun x hx => hs x (List.mem_cons_of_mem _ hx)) (fun x hx => by have := h1 x hx; omega)
    have hlo := hl s List.mem_cons_self
    have e : clipL a b beg (s :: r) = if max a (beg + s.1) < min b (beg + s.2) then (max a (beg + s.1), min b (beg + s.2)) :: clipL a b beg r else clipL a b beg r := by
      unfold clipL
      rw [List.map_cons, List.filter_cons]
      simp only [decide_eq_true_eq]
    rw [e]
    split
    · exact ⟨hlo, by assumption, by simp only; omega, ih⟩
    · exact ih.le hlo
theorem rise_days {c : CalD} (hc : CalOk c) (o a b : Int) : ∀ (n : Nat) (d lo : Int), lo ≤ max a (d * 1440 - o) → Rising lo b (daysFrom c o a b d n)
  | 0, _, _, _ => True.intro
  | n + 1, d, lo, h => by
    have ih := rise_days hc o a b n (d + 1) (max a ((d + 1) * 1440 - o)) (Int.le_refl _)
    refine Rising.append (m := max a ((d + 1) * 1440 - o)) (rise_clip a b _ _ lo (hc.sorted d) (hc.each d) (fun s hs => ?_)) (fun x hx => ?_) (by omega) ih
    · have := (hc.each d s hs).lo
      omega
    · unfold clipL at hx
      rw [List.mem_filter, List.mem_map] at hx
      obtain ⟨⟨s, hs, rfl⟩, _⟩ := hx
      have := (hc.each d s hs).hi
      simp only
      omega
theorem rise_part {c : CalD} (hc : CalOk c) (fr en9 : Int) (p : Pt) : Rising (max fr p.f) (min en9 p.t) (partL c fr en9 p) := by
  unfold partL
  split
  · exact True.intro
  · exact rise_days hc _ _ _ _ _ _ (by omega)
theorem rise_parts {c : CalD} (hc : CalOk c) (fr en9 : Int) : ∀ (cs : List (Int × Int)) (f o off : Int), ZOk f off cs → Rising (max fr f) en9 ((prts f o cs).flatMap (partL c fr en9))
  | [], f, o, off, _ => by
    simp only [prts, List.flatMap_cons, List.flatMap_nil, List.append_nil]
    have hp := rise_part hc fr en9 ⟨f, 3000001, o⟩
    exact hp.hi (Int.min_le_left _ _)
  | (a, p) :: r, f, o, off, ⟨h1, h2, h3, h4, h5⟩ => by
    simp only [prts, List.flatMap_cons]
    have hp := rise_part hc fr en9 ⟨f, a, o⟩
    refine Rising.append (m := max fr a) (hp.hi (Int.min_le_left _ _)) (fun s hs => ?_) (by omega) (rise_parts hc fr en9 r a p p h5)
    have := hp.mem s hs
    simp only at this
    omega
theorem rise_shifts {c : CalD} (hc : CalOk c) (fr en9 : Int) (h0 : 0 ≤ fr) : Rising fr en9 (shiftL c fr en9) := by
  have := rise_parts hc fr en9 c.cs 0 c.off c.off hc.zone.ok
  rwa [show max fr 0 = fr by omega] at this

/-- what is open between two moments, as spans -/
theorem open_apart {c : CalD} (hc : CalOk c) (fr en9 : Int) (h0 : 0 ≤ fr) : Apart fr en9 (openL c fr en9) := (merge_none _ _ _ (rise_shifts hc fr en9 h0)).1
theorem open_cov {c : CalD} (hc : CalOk c) (fr en9 : Int) (h0 : 0 ≤ fr) (t : Int) : covB (openL c fr en9) t = (decide (fr ≤ t) && decide (t < en9) && openB c t) := by
  unfold openL
  rw [(merge_none _ _ _ (rise_shifts hc fr en9 h0)).2, cov_shifts hc]
theorem open_lens {c : CalD} (hc : CalOk c) {fr en9 : Int} (h0 : 0 ≤ fr) (h : fr ≤ en9) : lens (openL c fr en9) = (cnt (openB c) fr en9 : Nat) := by
  rw [lens_cnt (open_apart hc fr en9 h0) h]
  congr 1
  refine cnt_congr fun t h1 h2 => ?_
  rw [open_cov hc fr en9 h0]
  simp [h1, h2]

end Go.Proofs.YtllcgcnebofdoaaGreatDoor

/- Plain laws of calendars that may be: their shifts are right, and rise. No program in sight. -/
namespace Go.Proofs.YtllcgcnebofdoaaGreatDoor

/-- whether a shift comes behind another one -/
def behind (a b : Shf) : Prop := b.1 < a.1 ∨ (b.1 = a.1 ∧ (b.2.1 < a.2.1 ∨ (b.2.1 = a.2.1 ∧ b.2.2 < a.2.2)))
structure ShfFine (dated : Bool) (x : Shf) : Prop where
  day : dated = true → x.1 = 0
  lo : 0 ≤ x.1
  hi : x.1 ≤ 6
  f0 : 0 ≤ x.2.1
  f1 : x.2.1 ≤ 1439
  t0 : x.2.1 < x.2.2
  t1 : x.2.2 ≤ x.2.1 + 1440
structure ShfsFine (dated : Bool) (l : List Shf) : Prop where
  each : ∀ i (h : i < l.length), ShfFine dated l[i]
  order : ∀ i (h : i + 1 < l.length), behind l[i + 1] l[i]
structure SpcFine (x : Int × List Shf) : Prop where
  lo : -1 ≤ x.1
  hi : x.1 ≤ 2084
  len : x.2.length ≤ 12
  shifts : ShfsFine true x.2
structure CalFine (c : CalD) : Prop where
  zone : ZoneOk c.off c.cs
  wl : c.wk.length ≤ 60
  sl : c.sps.length ≤ 200
  week : ShfsFine false c.wk
  spc : ∀ i (h : i < c.sps.length), SpcFine c.sps[i]
  rise : ∀ i (h : i + 1 < c.sps.length), c.sps[i].1 < c.sps[i + 1].1

theorem behind_trans {a b c : Shf} (h : behind a b) (k : behind b c) : behind a c := by
  unfold behind at *
  omega
theorem pairwise_of_next {α : Type} {R : α → α → Prop} (ht : ∀ a b c : α, R a b → R b c → R a c) : ∀ (l : List α), (∀ i (h : i + 1 < l.length), R (l[i]'(by omega)) l[i + 1]) → l.Pairwise R
  | [], _ => List.Pairwise.nil
  | [_], _ => List.pairwise_singleton _ _
  | a :: b :: r, h => by
    have ih := pairwise_of_next ht (b :: r) (fun i hi => h (i + 1) (by simp only [List.length_cons] at hi ⊢; omega))
    refine List.Pairwise.cons (fun x hx => ?_) ih
    have hab : R a b := h 0 (by simp)
    rcases List.mem_cons.1 hx with rfl | hx
    · exact hab
    · exact ht _ _ _ hab (List.rel_of_pairwise_cons ih hx)
theorem ShfsFine.pair {d : Bool} {l : List Shf} (h : ShfsFine d l) : l.Pairwise fun a b => behind b a :=
  pairwise_of_next (R := fun a b => behind b a) (fun _ _ _ h k => behind_trans k h) l (fun i hi => h.order i hi)
theorem ShfsFine.mem {d : Bool} {l : List Shf} (h : ShfsFine d l) : ∀ x ∈ l, ShfFine d x := by
  intro x hx
  obtain ⟨i, hi, rfl⟩ := List.mem_iff_getElem.1 hx
  exact h.each i hi
theorem sorted_hours (d : Int) : ∀ (l : List Shf), (l.Pairwise fun a b => behind b a) → (∀ x ∈ l, x.1 = d) → SortedSp (hours l)
  | [], _, _ => True.intro
  | x :: r, h, hd => by
    refine ⟨fun y hy => ?_, sorted_hours d r (List.Pairwise.of_cons h) (fun z hz => hd z (List.mem_cons_of_mem _ hz))⟩
    obtain ⟨z, hz, rfl⟩ := List.mem_map.1 hy
    have h1 := List.rel_of_pairwise_cons h hz
    have h2 := hd x List.mem_cons_self
    have h3 := hd z (List.mem_cons_of_mem _ hz)
    unfold behind at h1
    simp only
    omega
theorem CalFine.ok {c : CalD} (h : CalFine c) : CalOk c := by
  refine ⟨h.zone, fun d s hs => ?_, fun d => ?_⟩
  · unfold shD at hs
    split at hs
    · rename_i sp hsp
      have hm := List.mem_of_find?_eq_some hsp
      obtain ⟨i, hi, rfl⟩ := List.mem_iff_getElem.1 hm
      obtain ⟨x, hx, rfl⟩ := List.mem_map.1 hs
      have := (h.spc i hi).shifts.mem x hx
      exact ⟨this.f0, by have := this.f1; simp only; omega, this.t0, this.t1⟩
    · obtain ⟨x, hx, rfl⟩ := List.mem_map.1 hs
      have := h.week.mem x (List.mem_filter.1 hx).1
      exact ⟨this.f0, by have := this.f1; simp only; omega, this.t0, this.t1⟩
  · unfold shD
    split
    · rename_i sp hsp
      have hm := List.mem_of_find?_eq_some hsp
      obtain ⟨i, hi, rfl⟩ := List.mem_iff_getElem.1 hm
      exact sorted_hours 0 _ (h.spc i hi).shifts.pair (fun x hx => ((h.spc i hi).shifts.mem x hx).day rfl)
    · exact sorted_hours (d % 7) _ (List.Pairwise.filter _ h.week.pair) (fun x hx => by simpa using (List.mem_filter.1 hx).2)
theorem CalFine.days {c : CalD} (h : CalFine c) : c.sps.Pairwise fun a b => a.1 < b.1 :=
  pairwise_of_next (R := fun a b : Int × List Shf => a.1 < b.1) (fun _ _ _ h k => Int.lt_trans h k) c.sps (fun i hi => h.rise i hi)

end Go.Proofs.YtllcgcnebofdoaaGreatDoor
