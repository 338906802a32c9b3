/- Plain laws of a calendar's shifts: what they cover between two moments, and that they rise. No program in sight. -/
import Derived.Test.YtllcgcnebofdoaaGreatDoorSpLaw
import Derived.Test.YtllcgcnebofdoaaGreatDoorZoneLaw
namespace Go.Proofs.YtllcgcnebofdoaaGreatDoor

/-- a shift: the day, from, to -/
abbrev Shf := Int × Int × Int
structure CalD where
  off : Int
  cs : List (Int × Int)
  wk : List Shf
  sps : List (Int × List Shf)

def hours (l : List Shf) : List Sp := l.map fun x => (x.2.1, x.2.2)
/-- the shifts that begin on a local day -/
def shD (c : CalD) (day : Int) : List Sp := match c.sps.find? (fun s => decide (s.1 = day)) with
  | some s => hours s.2
  | none => hours (c.wk.filter fun x => decide (x.1 = day % 7))

def clipL (a b beg : Int) (l : List Sp) : List Sp := (l.map fun s => (max a (beg + s.1), min b (beg + s.2))).filter fun x => decide (x.1 < x.2)
def daysFrom (c : CalD) (o a b d : Int) : Nat → List Sp
  | 0 => []
  | n + 1 => clipL a b (d * 1440 - o) (shD c d) ++ daysFrom c o a b (d + 1) n
def partL (c : CalD) (fr to : Int) (p : Pt) : List Sp :=
  if min to p.t ≤ max fr p.f then [] else daysFrom c p.o (max fr p.f) (min to p.t) ((max fr p.f + p.o) / 1440 - 1) (((min to p.t - 1 + p.o) / 1440 - ((max fr p.f + p.o) / 1440 - 1)).toNat + 1)
def shiftL (c : CalD) (fr to : Int) : List Sp := (prts 0 c.off c.cs).flatMap (partL c fr to)
def openL (c : CalD) (fr to : Int) : List Sp := mergeF none (shiftL c fr to)

structure ShOk (s : Sp) : Prop where
  lo : 0 ≤ s.1
  hi : s.1 < 1440
  ne : s.1 < s.2
  long : s.2 ≤ s.1 + 1440
def SortedSp : List Sp → Prop
  | [] => True
  | s :: r => (∀ x ∈ r, s.1 ≤ x.1) ∧ SortedSp r
structure CalOk (c : CalD) : Prop where
  zone : ZoneOk c.off c.cs
  each : ∀ d, ∀ s ∈ shD c d, ShOk s
  sorted : ∀ d, SortedSp (shD c d)

/-- whether a moment is open -/
def openB (c : CalD) (t : Int) : Bool := (prts 0 c.off c.cs).any fun p => decide (p.f ≤ t) && decide (t < p.t) &&
  ((shD c ((t + p.o) / 1440 - 1)).any (fun s => decide (((t + p.o) / 1440 - 1) * 1440 - p.o + s.1 ≤ t) && decide (t < ((t + p.o) / 1440 - 1) * 1440 - p.o + s.2)) ||
   (shD c ((t + p.o) / 1440)).any (fun s => decide ((t + p.o) / 1440 * 1440 - p.o + s.1 ≤ t) && decide (t < (t + p.o) / 1440 * 1440 - p.o + s.2)))

theorem cov_clip (a b beg t : Int) (l : List Sp) : covB (clipL a b beg l) t = true ↔ a ≤ t ∧ t < b ∧ ∃ s ∈ l, beg + s.1 ≤ t ∧ t < beg + s.2 := by
  rw [covB_iff]
  unfold clipL
  constructor
  · rintro ⟨x, hx, h1, h2⟩
    rw [List.mem_filter, List.mem_map] at hx
    obtain ⟨⟨s, hs, rfl⟩, hd⟩ := hx
    simp only at h1 h2 hd
    exact ⟨by omega, by omega, s, hs, by omega, by omega⟩
  · rintro ⟨h1, h2, s, hs, h3, h4⟩
    refine ⟨(max a (beg + s.1), min b (beg + s.2)), ?_, by simp only; omega, by simp only; omega⟩
    rw [List.mem_filter, List.mem_map]
    exact ⟨⟨s, hs, rfl⟩, by simp only [decide_eq_true_eq]; omega⟩
theorem cov_days (c : CalD) (o a b t : Int) : ∀ (n : Nat) (d : Int), covB (daysFrom c o a b d n) t = true ↔ a ≤ t ∧ t < b ∧ ∃ k : Int, d ≤ k ∧ k < d + n ∧ ∃ s ∈ shD c k, k * 1440 - o + s.1 ≤ t ∧ t < k * 1440 - o + s.2
  | 0, d => by
    constructor
    · intro h; cases h
    · rintro ⟨_, _, k, h1, h2, _⟩; omega
  | n + 1, d => by
    unfold daysFrom
    rw [covB_append, Bool.or_eq_true, cov_clip, cov_days c o a b t n (d + 1)]
    constructor
    · rintro (⟨h1, h2, h3⟩ | ⟨h1, h2, k, h3, h4, h5⟩)
      · exact ⟨h1, h2, d, by omega, by omega, h3⟩
      · exact ⟨h1, h2, k, by omega, by omega, h5⟩
    · rintro ⟨h1, h2, k, h3, h4, h5⟩
      by_cases e : k = d
      · subst e; exact .inl ⟨h1, h2, h5⟩
      · exact .inr ⟨h1, h2, k, by omega, by omega, h5⟩
theorem day_of {d t o : Int} {s : Sp} (h : ShOk s) (h1 : d * 1440 - o + s.1 ≤ t) (h2 : t < d * 1440 - o + s.2) : d = (t + o) / 1440 - 1 ∨ d = (t + o) / 1440 := by
  have := h.lo; have := h.hi; have := h.long
  omega
theorem cov_part {c : CalD} (hc : CalOk c) (fr to t : Int) (p : Pt) : covB (partL c fr to p) t = true ↔ fr ≤ t ∧ t < to ∧ p.f ≤ t ∧ t < p.t ∧ ∃ k : Int, ∃ s ∈ shD c k, k * 1440 - p.o + s.1 ≤ t ∧ t < k * 1440 - p.o + s.2 := by
  unfold partL
  by_cases h : min to p.t ≤ max fr p.f
  · rw [if_pos h]
    constructor
    · intro g; cases g
    · rintro ⟨h1, h2, h3, h4, _⟩; omega
  · rw [if_neg h, cov_days]
    constructor
    · rintro ⟨h1, h2, k, _, _, h5⟩
      exact ⟨by omega, by omega, by omega, by omega, k, h5⟩
    · rintro ⟨h1, h2, h3, h4, k, s, hs, h5, h6⟩
      have := day_of (hc.each k s hs) h5 h6
      refine ⟨by omega, by omega, k, ?_, ?_, s, hs, h5, h6⟩
      · omega
      · omega
theorem openB_iff {c : CalD} (hc : CalOk c) (t : Int) : openB c t = true ↔ ∃ p ∈ prts 0 c.off c.cs, p.f ≤ t ∧ t < p.t ∧ ∃ k : Int, ∃ s ∈ shD c k, k * 1440 - p.o + s.1 ≤ t ∧ t < k * 1440 - p.o + s.2 := by
  unfold openB
  rw [List.any_eq_true]
  constructor
  · rintro ⟨p, hp, h⟩
    simp only [Bool.and_eq_true, Bool.or_eq_true, decide_eq_true_eq, List.any_eq_true] at h
    obtain ⟨⟨h1, h2⟩, (⟨s, hs, h3, h4⟩ | ⟨s, hs, h3, h4⟩)⟩ := h
    · exact ⟨p, hp, h1, h2, _, s, hs, h3, h4⟩
    · exact ⟨p, hp, h1, h2, _, s, hs, h3, h4⟩
  · rintro ⟨p, hp, h1, h2, k, s, hs, h3, h4⟩
    refine ⟨p, hp, ?_⟩
    simp only [Bool.and_eq_true, Bool.or_eq_true, decide_eq_true_eq, List.any_eq_true]
    refine ⟨⟨h1, h2⟩, ?_⟩
    rcases day_of (hc.each k s hs) h3 h4 with e | e
    · subst e; exact .inl ⟨s, hs, h3, h4⟩
    · subst e; exact .inr ⟨s, hs, h3, h4⟩
theorem cov_shifts {c : CalD} (hc : CalOk c) (fr to t : Int) : covB (shiftL c fr to) t = (decide (fr ≤ t) && decide (t < to) && openB c t) := by
  rw [Bool.eq_iff_iff, Bool.and_eq_true, Bool.and_eq_true, decide_eq_true_eq, decide_eq_true_eq, openB_iff hc]
  have h : covB (shiftL c fr to) t = true ↔ ∃ p ∈ prts 0 c.off c.cs, covB (partL c fr to p) t = true := by
    rw [covB_iff]
    unfold shiftL
    constructor
    · rintro ⟨s, hs, h1⟩
      obtain ⟨p, hp, hs⟩ := List.mem_flatMap.1 hs
      exact ⟨p, hp, covB_iff.2 ⟨s, hs, h1⟩⟩
    · rintro ⟨p, hp, h1⟩
      obtain ⟨s, hs, h2⟩ := covB_iff.1 h1
      exact ⟨s, List.mem_flatMap.2 ⟨p, hp, hs⟩, h2⟩
  rw [h]
  constructor
  · rintro ⟨p, hp, h1⟩
    obtain ⟨g1, g2, g3, g4, g5⟩ := (cov_part hc fr to t p).1 h1
    exact ⟨⟨g1, g2⟩, p, hp, g3, g4, g5⟩
  · rintro ⟨⟨g1, g2⟩, p, hp, g3, g4, g5⟩
    exact ⟨p, hp, (cov_part hc fr to t p).2 ⟨g1, g2, g3, g4, g5⟩⟩

theorem Rising.hi : ∀ {l : List Sp} {lo hi hi' : Int}, Rising lo hi l → hi ≤ hi' → Rising lo hi' l
  | [], _, _, _, _, _ => True.intro
  | _ :: _, _, _, _, ⟨h1, h2, h3, h4⟩, h => ⟨h1, h2, by omega, h4.hi h⟩
theorem Rising.append : ∀ {a b : List Sp} {lo m hi : Int}, Rising lo hi a → (∀ s ∈ a, s.1 ≤ m) → lo ≤ m → Rising m hi b → Rising lo hi (a ++ b)
  | [], b, lo, m, hi, _, _, h, h3 => h3.le h
  | s :: a, b, lo, m, hi, ⟨h1, h2, h3, h4⟩, hm, h, hb => ⟨h1, h2, h3, h4.append (fun x hx => hm x (List.mem_cons_of_mem _ hx)) (hm s List.mem_cons_self) hb⟩
theorem Rising.mem : ∀ {l : List Sp} {lo hi : Int}, Rising lo hi l → ∀ s ∈ l, lo ≤ s.1 ∧ s.1 < s.2 ∧ s.2 ≤ hi
  | [], _, _, _, s, h => by cases h
  | x :: r, lo, hi, ⟨h1, h2, h3, h4⟩, s, h => by
    rcases List.mem_cons.1 h with rfl | h
    · exact ⟨h1, h2, h3⟩
    · have := h4.mem s h
      omega
theorem rise_clip (a b beg : Int) : ∀ (l : List Sp) (lo : Int), SortedSp l → (∀ s ∈ l, ShOk s) → (∀ s ∈ l, lo ≤ max a (beg + s.1)) → Rising lo b (clipL a b beg l)
  | [], _, _, _, _ => True.intro
  | s :: r, lo, ⟨h1, h2⟩, hs, hl => by
    have ih := rise_clip a b beg r (max a (beg + s.1)) h2 (fun x hx => hs x (List.mem_cons_of_mem _ hx)) (fun x hx => by have := h1 x hx; omega)
    have hlo := hl s List.mem_cons_self
    have e : clipL a b beg (s :: r) = if max a (beg + s.1) < min b (beg + s.2) then (max a (beg + s.1), min b (beg + s.2)) :: clipL a b beg r else clipL a b beg r := by
      unfold clipL
      rw [List.map_cons, List.filter_cons]
      simp only [decide_eq_true_eq]
    rw [e]
    split
    · exact ⟨hlo, by assumption, by simp only; omega, ih⟩
    · exact ih.le hlo
theorem rise_days {c : CalD} (hc : CalOk c) (o a b : Int) : ∀ (n : Nat) (d lo : Int), lo ≤ max a (d * 1440 - o) → Rising lo b (daysFrom c o a b d n)
  | 0, _, _, _ => True.intro
  | n + 1, d, lo, h => by
    have ih := rise_days hc o a b n (d + 1) (max a ((d + 1) * 1440 - o)) (Int.le_refl _)
    refine Rising.append (m := max a ((d + 1) * 1440 - o)) (rise_clip a b _ _ lo (hc.sorted d) (hc.each d) (fun s hs => ?_)) (fun x hx => ?_) (by omega) ih
    · have := (hc.each d s hs).lo
      omega
    · unfold clipL at hx
      rw [List.mem_filter, List.mem_map] at hx
      obtain ⟨⟨s, hs, rfl⟩, _⟩ := hx
      have := (hc.each d s hs).hi
      simp only
      omega
theorem rise_part {c : CalD} (hc : CalOk c) (fr to : Int) (p : Pt) : Rising (max fr p.f) (min to p.t) (partL c fr to p) := by
  unfold partL
  split
  · exact True.intro
  · exact rise_days hc _ _ _ _ _ _ (by omega)
theorem rise_parts {c : CalD} (hc : CalOk c) (fr to : Int) : ∀ (cs : List (Int × Int)) (f o off : Int), ZOk f off cs → Rising (max fr f) to ((prts f o cs).flatMap (partL c fr to))
  | [], f, o, off, _ => by
    simp only [prts, List.flatMap_cons, List.flatMap_nil, List.append_nil]
    have hp := rise_part hc fr to ⟨f, 3000001, o⟩
    exact hp.hi (Int.min_le_left _ _)
  | (a, p) :: r, f, o, off, ⟨h1, h2, h3, h4, h5⟩ => by
    simp only [prts, List.flatMap_cons]
    have hp := rise_part hc fr to ⟨f, a, o⟩
    refine Rising.append (m := max fr a) (hp.hi (Int.min_le_left _ _)) (fun s hs => ?_) (by omega) (rise_parts hc fr to r a p p h5)
    have := hp.mem s hs
    simp only at this
    omega
theorem rise_shifts {c : CalD} (hc : CalOk c) (fr to : Int) (h0 : 0 ≤ fr) : Rising fr to (shiftL c fr to) := by
  have := rise_parts hc fr to c.cs 0 c.off c.off hc.zone.ok
  rwa [show max fr 0 = fr by omega] at this

/-- what is open between two moments, as spans -/
theorem open_apart {c : CalD} (hc : CalOk c) (fr to : Int) (h0 : 0 ≤ fr) : Apart fr to (openL c fr to) := (merge_none _ _ _ (rise_shifts hc fr to h0)).1
theorem open_cov {c : CalD} (hc : CalOk c) (fr to : Int) (h0 : 0 ≤ fr) (t : Int) : covB (openL c fr to) t = (decide (fr ≤ t) && decide (t < to) && openB c t) := by
  unfold openL
  rw [(merge_none _ _ _ (rise_shifts hc fr to h0)).2, cov_shifts hc]
theorem open_lens {c : CalD} (hc : CalOk c) {fr to : Int} (h0 : 0 ≤ fr) (h : fr ≤ to) : lens (openL c fr to) = (cnt (openB c) fr to : Nat) := by
  rw [lens_cnt (open_apart hc fr to h0) h]
  congr 1
  refine cnt_congr fun t h1 h2 => ?_
  rw [open_cov hc fr to h0]
  simp [h1, h2]

end Go.Proofs.YtllcgcnebofdoaaGreatDoor
