/- Plain laws of a calendar's shifts: what they cover between two moments, and that they rise. No program in sight. -/
import Derived.Test.YtemikhnkjligdaaGreatDoorQZone2
import Derived.Test.YtemikhnkjligdaaGreatDoorQZoneLaw
namespace Go.Proofs.YtemikhnkjligdaaGreatDoor

/-- a shift: the day, from, en9 -/
abbrev Shf := Int × Int × Int
structure CalD where
  off : Int
  cs : List (Int × Int)
  wk : List Shf
  sps : List (Int × List Shf)

def hours (l : List Shf) : List Sp := l.map fun x => (x.2.1, x.2.2)
/-- the shifts that begin on a local day -/
def shD (c : CalD) (day : Int) : List Sp := match c.sps.find? (fun s => decide (s.1 = day)) with
  | some s => hours s.2
  | none => hours (c.wk.filter fun x => decide (x.1 = day % 7))

def clipL (a b beg : Int) (l : List Sp) : List Sp := (l.map fun s => (max a (beg + s.1), min b (beg + s.2))).filter fun x => decide (x.1 < x.2)
def daysFrom (c : CalD) (o a b d : Int) : Nat → List Sp
  | 0 => []
  | n + 1 => clipL a b (d * 1440 - o) (shD c d) ++ daysFrom c o a b (d + 1) n
def partL (c : CalD) (fr en9 : Int) (p : Pt) : List Sp :=
  if min en9 p.t ≤ max fr p.f then [] else daysFrom c p.o (max fr p.f) (min en9 p.t) ((max fr p.f + p.o) / 1440 - 1) (((min en9 p.t - 1 + p.o) / 1440 - ((max fr p.f + p.o) / 1440 - 1)).toNat + 1)
def shiftL (c : CalD) (fr en9 : Int) : List Sp := (prts 0 c.off c.cs).flatMap (partL c fr en9)
def openL (c : CalD) (fr en9 : Int) : List Sp := mergeF none (shiftL c fr en9)

structure ShOk (s : Sp) : Prop where
  lo : 0 ≤ s.1
  hi : s.1 < 1440
  ne : s.1 < s.2
  long : s.2 ≤ s.1 + 1440
def SortedSp : List Sp → Prop
  | [] => True
  | s :: r => (∀ x ∈ r, s.1 ≤ x.1) ∧ SortedSp r
structure CalOk (c : CalD) : Prop where
  zone : ZoneOk c.off c.cs
  each : ∀ d, ∀ s ∈ shD c d, ShOk s
  sorted : ∀ d, SortedSp (shD c d)

/-- whether a moment is open -/
def openB (c : CalD) (t : Int) : Bool := (prts 0 c.off c.cs).any fun p => decide (p.f ≤ t) && decide (t < p.t) &&
  ((shD c ((t + p.o) / 1440 - 1)).any (fun s => decide (((t + p.o) / 1440 - 1) * 1440 - p.o + s.1 ≤ t) && decide (t < ((t + p.o) / 1440 - 1) * 1440 - p.o + s.2)) ||
   (shD c ((t + p.o) / 1440)).any (fun s => decide ((t + p.o) / 1440 * 1440 - p.o + s.1 ≤ t) && decide (t < (t + p.o) / 1440 * 1440 - p.o + s.2)))

theorem cov_clip (a b beg t : Int) (l : List Sp) : covB (clipL a b beg l) t = true ↔ a ≤ t ∧ t < b ∧ ∃ s ∈ l, beg + s.1 ≤ t ∧ t < beg + s.2 := by
  rw [covB_iff]
  unfold clipL
  constructor
  · rintro ⟨x, hx, h1, h2⟩
    rw [List.mem_filter, List.mem_map] at hx
    obtain ⟨⟨s, hs, rfl⟩, hd⟩ := hx
    simp only at h1 h2 hd
    exact ⟨by omega, by omega, s, hs, by omega, by omega⟩
  · rintro ⟨h1, h2, s, hs, h3, h4⟩
    refine ⟨(max a (beg + s.1), min b (beg + s.2)), ?_, by simp only; omega, by simp only; omega⟩
    rw [List.mem_filter, List.mem_map]
    exact ⟨⟨s, hs, rfl⟩, by simp only [decide_eq_true_eq]; omega⟩
theorem cov_days (c : CalD) (o a b t : Int) : ∀ (n : Nat) (d : Int), covB (daysFrom c o a b d n) t = true ↔ a ≤ t ∧ t < b ∧ ∃ k : Int, d ≤ k ∧ k < d + n ∧ ∃ s ∈ shD c k, k * 1440 - o + s.1 ≤ t ∧ t < k * 1440 - o + s.2
  | 0, d => by
    constructor
    · intro h; cases h
    · rintro ⟨_, _, k, h1, h2, _⟩; omega
  | n + 1, d => by
    unfold daysFrom
    rw [covB_append, Bool.or_eq_true, cov_clip, cov_days c o a b t n (d + 1)]
    constructor
    · rintro (⟨h1, h2, h3⟩ | ⟨h1, h2, k, h3, h4, h5⟩)
      · exact ⟨h1, h2, d, by omega, by omega, h3⟩
      · exact ⟨h1, h2, k, by omega, by omega, h5⟩
    · rintro ⟨h1, h2, k, h3, h4, h5⟩
      by_cases e : k = d
      · subst e; exact .inl ⟨h1, h2, h5⟩
      · exact .inr ⟨h1, h2, k, by omega, by omega, h5⟩
theorem day_of {d t o : Int} {s : Sp} (h : ShOk s) (h1 : d * 1440 - o + s.1 ≤ t) (h2 : t < d * 1440 - o + s.2) : d = (t + o) / 1440 - 1 ∨ d = (t + o) / 1440 := by
  have := h.lo; have := h.hi; have := h.long
  omega
theorem cov_part {c : CalD} (hc : CalOk c) (fr en9 t : Int) (p : Pt) : covB (partL c fr en9 p) t = true ↔ fr ≤ t ∧ t < en9 ∧ p.f ≤ t ∧ t < p.t ∧ ∃ k : Int, ∃ s ∈ shD c k, k * 1440 - p.o + s.1 ≤ t ∧ t < k * 1440 - p.o + s.2 := by
  unfold partL
  by_cases h : min en9 p.t ≤ max fr p.f
  · rw [if_pos h]
    constructor
    · intro g; cases g
    · rintro ⟨h1, h2, h3, h4, _⟩; omega
  · rw [if_neg h, cov_days]
    constructor
    · rintro ⟨h1, h2, k, _, _, h5⟩
      exact ⟨by omega, by omega, by omega, by omega, k, h5⟩
    · rintro ⟨h1, h2, h3, h4, k, s, hs, h5, h6⟩
      have := day_of (hc.each k s hs) h5 h6
      refine ⟨by omega, by omega, k, ?_, ?_, s, hs, h5, h6⟩
      · omega
      · omega
theorem openB_iff {c : CalD} (hc : CalOk c) (t : Int) : openB c t = true ↔ ∃ p ∈ prts 0 c.off c.cs, p.f ≤ t ∧ t < p.t ∧ ∃ k : Int, ∃ s ∈ shD c k, k * 1440 - p.o + s.1 ≤ t ∧ t < k * 1440 - p.o + s.2 := by
  unfold openB
  rw [List.any_eq_true]
  constructor
  · rintro ⟨p, hp, h⟩
    simp only [Bool.and_eq_true, Bool.or_eq_true, decide_eq_true_eq, List.any_eq_true] at h
    obtain ⟨⟨h1, h2⟩, (⟨s, hs, h3, h4⟩ | ⟨s, hs, h3, h4⟩)⟩ := h
    · exact ⟨p, hp, h1, h2, _, s, hs, h3, h4⟩
    · exact ⟨p, hp, h1, h2, _, s, hs, h3, h4⟩
  · rintro ⟨p, hp, h1, h2, k, s, hs, h3, h4⟩
    refine ⟨p, hp, ?_⟩
    simp only [Bool.and_eq_true, Bool.or_eq_true, decide_eq_true_eq, List.any_eq_true]
    refine ⟨⟨h1, h2⟩, ?_⟩
    rcases day_of (hc.each k s hs) h3 h4 with e | e
    · subst e; exact .inl ⟨s, hs, h3, h4⟩
    · subst e; exact .inr ⟨s, hs, h3, h4⟩
theorem cov_shifts {c : CalD} (hc : CalOk c) (fr en9 t : Int) : covB (shiftL c fr en9) t = (decide (fr ≤ t) && decide (t < en9) && openB c t) := by
  rw [Bool.eq_iff_iff, Bool.and_eq_true, Bool.and_eq_true, decide_eq_true_eq, decide_eq_true_eq, openB_iff hc]
  have h : covB (shiftL c fr en9) t = true ↔ ∃ p ∈ prts 0 c.off c.cs, covB (partL c fr en9 p) t = true := by
    rw [covB_iff]
    unfold shiftL
    constructor
    · rintro ⟨s, hs, h1⟩
      obtain ⟨p, hp, hs⟩ := List.mem_flatMap.1 hs
      exact ⟨p, hp, covB_iff.2 ⟨s, hs, h1⟩⟩
    · rintro ⟨p, hp, h1⟩
      obtain ⟨s, hs, h2⟩ := covB_iff.1 h1
      exact ⟨s, List.mem_flatMap.2 ⟨p, hp, hs⟩, h2⟩
  rw [h]
  constructor
  · rintro ⟨p, hp, h1⟩
    obtain ⟨g1, g2, g3, g4, g5⟩ := (cov_part hc fr en9 t p).1 h1
    exact ⟨⟨g1, g2⟩, p, hp, g3, g4, g5⟩
  · rintro ⟨⟨g1, g2⟩, p, hp, g3, g4, g5⟩
    exact ⟨p, hp, (cov_part hc fr en9 t p).2 ⟨g1, g2, g3, g4, g5⟩⟩

theorem Rising.hi : ∀ {l : List Sp} {lo hi hi' : Int}, Rising lo hi l → hi ≤ hi' → Rising lo hi' l
  | [], _, _, _, _, _ => True.intro
  | _ :: _, _, _, _, ⟨h1, h2, h3, h4⟩, h => ⟨h1, h2, by omega, h4.hi h⟩
theorem Rising.append : ∀ {a b : List Sp} {lo m hi : Int}, Rising lo hi a → (∀ s ∈ a, s.1 ≤ m) → lo ≤ m → Rising m hi b → Rising lo hi (a ++ b)
  | [], b, lo, m, hi, _, _, h, h3 => h3.le h
  | s :: a, b, lo, m, hi, ⟨h1, h2, h3, h4⟩, hm, h, hb => ⟨h1, h2, h3, h4.append (fun x hx => hm x (List.mem_cons_of_mem _ hx)) (hm s List.mem_cons_self) hb⟩
theorem Rising.mem : ∀ {l : List Sp} {lo hi : Int}, Rising lo hi l → ∀ s ∈ l, lo ≤ s.1 ∧ s.1 < s.2 ∧ s.2 ≤ hi
  | [], _, _, _, s, h => by cases h
  | x :: r, lo, hi, ⟨h1, h2, h3, h4⟩, s, h => by
    rcases List.mem_cons.1 h with rfl | h
    · exact ⟨h1, h2, h3⟩
    · have := h4.mem s h
      omega
theorem rise_clip (a b beg : Int) : ∀ (l : List Sp) (lo : Int), SortedSp l → (∀ s ∈ l, ShOk s) → (∀ s ∈ l, lo ≤ max a (beg + s.1)) → Rising lo b (clipL a b beg l)
  | [], _, _, _, _ => True.intro
  | s :: r, lo, ⟨h1, h2⟩, hs, hl => by
    have ih := rise_clip a b beg r (max a (beg + s.1)) h2 (fun x hx => hs x (List.mem_cons_of_mem _ hx)) (fun x hx => by have := h1 x hx; omega)
    have hlo := hl s List.mem_cons_self
    have e : clipL a b beg (s :: r) = if max a (beg + s.1) < min b (beg + s.2) then (max a (beg + s.1), min b (beg + s.2)) :: clipL a b beg r else clipL a b beg r := by
      unfold clipL
      rw [List.map_cons, List.filter_cons]
      simp only [decide_eq_true_eq]
    rw [e]
    split
    · exact ⟨hlo, by assumption, by simp only; omega, ih⟩
    · exact ih.le hlo
theorem rise_days {c : CalD} (hc : CalOk c) (o a b : Int) : ∀ (n : Nat) (d lo : Int), lo ≤ max a (d * 1440 - o) → Rising lo b (daysFrom c o a b d n)
  | 0, _, _, _ => True.intro
  | n + 1, d, lo, h => by
    have ih := rise_days hc o a b n (d + 1) (max a ((d + 1) * 1440 - o)) (Int.le_refl _)
    refine Rising.append (m := max a ((d + 1) * 1440 - o)) (rise_clip a b _ _ lo (hc.sorted d) (hc.each d) (fun s hs => ?_)) (fun x hx => ?_) (by omega) ih
    · have := (hc.each d s hs).lo
      omega
    · unfold clipL at hx
      rw [List.mem_filter, List.mem_map] at hx
      obtain ⟨⟨s, hs, rfl⟩, _⟩ := hx
      have := (hc.each d s hs).hi
      simp only
      omega
theorem rise_part {c : CalD} (hc : CalOk c) (fr en9 : Int) (p : Pt) : Rising (max fr p.f) (min en9 p.t) (partL c fr en9 p) := by
  unfold partL
  split
  · exact True.intro
  · exact rise_days hc _ _ _ _ _ _ (by omega)
theorem rise_parts {c : CalD} (hc : CalOk c) (fr en9 : Int) : ∀ (cs : List (Int × Int)) (f o off : Int), ZOk f off cs → Rising (max fr f) en9 ((prts f o cs).flatMap (partL c fr en9))
  | [], f, o, off, _ => by
    simp only [prts, List.flatMap_cons, List.flatMap_nil, List.append_nil]
    have hp := rise_part hc fr en9 ⟨f, 3000001, o⟩
    exact hp.hi (Int.min_le_left _ _)
  | (a, p) :: r, f, o, off, ⟨h1, h2, h3, h4, h5⟩ => by
    simp only [prts, List.flatMap_cons]
    have hp := rise_part hc fr en9 ⟨f, a, o⟩
    refine Rising.append (m := max fr a) (hp.hi (Int.min_le_left _ _)) (fun s hs => ?_) (by omega) (rise_parts hc fr en9 r a p p h5)
    have := hp.mem s hs
    simp only at this
    omega
theorem rise_shifts {c : CalD} (hc : CalOk c) (fr en9 : Int) (h0 : 0 ≤ fr) : Rising fr en9 (shiftL c fr en9) := by
  have := rise_parts hc fr en9 c.cs 0 c.off c.off hc.zone.ok
  rwa [show max fr 0 = fr by omega] at this

/-- what is open between two moments, as spans -/
theorem open_apart {c : CalD} (hc : CalOk c) (fr en9 : Int) (h0 : 0 ≤ fr) : Apart fr en9 (openL c fr en9) := (merge_none _ _ _ (rise_shifts hc fr en9 h0)).1
theorem open_cov {c : CalD} (hc : CalOk c) (fr en9 : Int) (h0 : 0 ≤ fr) (t : Int) : covB (openL c fr en9) t = (decide (fr ≤ t) && decide (t < en9) && openB c t) := by
  unfold openL
  rw [(merge_none _ _ _ (rise_shifts hc fr en9 h0)).2, cov_shifts hc]
theorem open_lens {c : CalD} (hc : CalOk c) {fr en9 : Int} (h0 : 0 ≤ fr) (h : fr ≤ en9) : lens (openL c fr en9) = (cnt (openB c) fr en9 : Nat) := by
  rw [lens_cnt (open_apart hc fr en9 h0) h]
  congr 1
  refine cnt_congr fun t h1 h2 => ?_
  rw [open_cov hc fr en9 h0]
  simp [h1, h2]

end Go.Proofs.YtemikhnkjligdaaGreatDoor

/- Plain laws of calendars that may be: their shifts are right, and rise. No program in sight. -/
namespace Go.Proofs.YtemikhnkjligdaaGreatDoor

/-- whether a shift comes behind another one -/
def behind (a b : Shf) : Prop := b.1 < a.1 ∨ (b.1 = a.1 ∧ (b.2.1 < a.2.1 ∨ (b.2.1 = a.2.1 ∧ b.2.2 < a.2.2)))
structure ShfFine (dated : Bool) (x : Shf) : Prop where
  day : dated = true → x.1 = 0
  lo : 0 ≤ x.1
  hi : x.1 ≤ 6
  f0 : 0 ≤ x.2.1
  f1 : x.2.1 ≤ 1439
  t0 : x.2.1 < x.2.2
  t1 : x.2.2 ≤ x.2.1 + 1440
structure ShfsFine (dated : Bool) (l : List Shf) : Prop where
  each : ∀ i (h : i < l.length), ShfFine dated l[i]
  order : ∀ i (h : i + 1 < l.length), behind l[i + 1] l[i]
structure SpcFine (x : Int × List Shf) : Prop where
  lo : -1 ≤ x.1
  hi : x.1 ≤ 2084
  len : x.2.length ≤ 12
  shifts : ShfsFine true x.2
structure CalFine (c : CalD) : Prop where
  zone : ZoneOk c.off c.cs
  wl : c.wk.length ≤ 60
  sl : c.sps.length ≤ 200
  week : ShfsFine false c.wk
  spc : ∀ i (h : i < c.sps.length), SpcFine c.sps[i]
  rise : ∀ i (h : i + 1 < c.sps.length), c.sps[i].1 < c.sps[i + 1].1

theorem behind_trans {a b c : Shf} (h : behind a b) (k : behind b c) : behind a c := by
  unfold behind at *
  omega
theorem pairwise_of_next {α : Type} {R : α → α → Prop} (ht : ∀ a b c : α, R a b → R b c → R a c) : ∀ (l : List α), (∀ i (h : i + 1 < l.length), R (l[i]'(by omega)) l[i + 1]) → l.Pairwise R
  | [], _ => List.Pairwise.nil
  | [_], _ => List.pairwise_singleton _ _
  | a :: b :: r, h => by
    have ih := pairwise_of_next ht (b :: r) (fun i hi => h (i + 1) (by simp only [List.length_cons] at hi ⊢; omega))
    refine List.Pairwise.cons (fun x hx => ?_) ih
    have hab : R a b := h 0 (by simp)
    rcases List.mem_cons.1 hx with rfl | hx
    · exact hab
    · exact ht _ _ _ hab (List.rel_of_pairwise_cons ih hx)
theorem ShfsFine.pair {d : Bool} {l : List Shf} (h : ShfsFine d l) : l.Pairwise fun a b => behind b a :=
  pairwise_of_next (R := fun a b => behind b a) (fun _ _ _ h k => behind_trans k h) l (fun i hi => h.order i hi)
theorem ShfsFine.mem {d : Bool} {l : List Shf} (h : ShfsFine d l) : ∀ x ∈ l, ShfFine d x := by
  intro x hx
  obtain ⟨i, hi, rfl⟩ := List.mem_iff_getElem.1 hx
  exact h.each i hi
theorem sorted_hours (d : Int) : ∀ (l : List Shf), (l.Pairwise fun a b => behind b a) → (∀ x ∈ l, x.1 = d) → SortedSp (hours l)
  | [], _, _ => True.intro
  | x :: r, h, hd => by
    refine ⟨fun y hy => ?_, sorted_hours d r (List.Pairwise.of_cons h) (fun z hz => hd z (List.mem_cons_of_mem _ hz))⟩
    obtain ⟨z, hz, rfl⟩ := List.mem_map.1 hy
    have h1 := List.rel_of_pairwise_cons h hz
    have h2 := hd x List.mem_cons_self
    have h3 := hd z (List.mem_cons_of_mem _ hz)
    unfold behind at h1
    simp only
    omega
theorem CalFine.ok {c : CalD} (h : CalFine c) : CalOk c := by
  refine ⟨h.zone, fun d s hs => ?_, fun d => ?_⟩
  · unfold shD at hs
    split at hs
    · rename_i sp hsp
      have hm := List.mem_of_find?_eq_some hsp
      obtain ⟨i, hi, rfl⟩ := List.mem_iff_getElem.1 hm
      obtain ⟨x, hx, rfl⟩ := List.mem_map.1 hs
      have := (h.spc i hi).shifts.mem x hx
      exact ⟨this.f0, by have := this.f1; simp only; omega, this.t0, this.t1⟩
    · obtain ⟨x, hx, rfl⟩ := List.mem_map.1 hs
      have := h.week.mem x (List.mem_filter.1 hx).1
      exact ⟨this.f0, by have := this.f1; simp only; omega, this.t0, this.t1⟩
  · unfold shD
    split
    · rename_i sp hsp
      have hm := List.mem_of_find?_eq_some hsp
      obtain ⟨i, hi, rfl⟩ := List.mem_iff_getElem.1 hm
      exact sorted_hours 0 _ (h.spc i hi).shifts.pair (fun x hx => ((h.spc i hi).shifts.mem x hx).day rfl)
    · exact sorted_hours (d % 7) _ (List.Pairwise.filter _ h.week.pair) (fun x hx => by simpa using (List.mem_filter.1 hx).2)
theorem CalFine.days {c : CalD} (h : CalFine c) : c.sps.Pairwise fun a b => a.1 < b.1 :=
  pairwise_of_next (R := fun a b : Int × List Shf => a.1 < b.1) (fun _ _ _ h k => Int.lt_trans h k) c.sps (fun i hi => h.rise i hi)

end Go.Proofs.YtemikhnkjligdaaGreatDoor

/- The walks of a calendar's check: after, checkShifts. -/
namespace Go.Proofs.YtemikhnkjligdaaGreatDoor
open Go.RowKit

def cmpI (a b : Int) : Int := if a < b then -1 else if b < a then 1 else 0
theorem nan_any (a : Int) (w : World) : Calls Tryz.prog 62 #[.int .i64 a] w fun e w' => e = .returned (.bool false) ∧ w = w' := by
  go_enter Tryz.func62, Tryz.ntmps62
  go_wp2
  go_ret
  exact ⟨by simp, rfl⟩
theorem cmp_any (a b : Int) (w : World) : Calls Tryz.prog 42 #[.int .i64 a, .int .i64 b] w fun e w' => e = .returned (.int .i64 (cmpI a b)) ∧ w = w' := by
  go_enter Tryz.func42, Tryz.ntmps42
  go_wp2_with (go_at_call 62; refine (nan_any _ _).mono ?_; rintro e w' ⟨rfl, rfl⟩)
  all_goals go_ret
  all_goals (refine ⟨ret_int ?_, rfl⟩; unfold cmpI; (repeat split) <;> omega)

set_option maxRecDepth 100000 in
theorem orInt_any (v : Value) (es : List Int) (w : World) (h : SliceAt 1 intR w v es) (hl : es.length ≤ 1000) :
    Calls Tryz.prog 56 #[v] w fun e w' => e = .returned (.int .i64 (orI es)) ∧ w = w' := by
  obtain ⟨a, cap, rfl⟩ := h.len
  have H := Lib.hid h
  clear h
  go_enter Tryz.func56, Tryz.ntmps56
  go_wp2_with fail
  go_loop [8] (fun iv => ∃ i : Nat, i ≤ es.length ∧ iv = .int .i64 i ∧ orI (es.drop i) = orI es) (fun iv => es.length - (intOf iv).toNat)
  case atStart => exact ⟨0, Nat.zero_le _, rfl, rfl⟩
  case round =>
    obtain ⟨i, hi, rfl, he⟩ := hrel
    have HE := Lib.hid he
    clear he
    by_cases hlt : i < es.length
    · obtain ⟨b, off, cap', hv, hcap, hb, hel⟩ := H.out.at (by omega)
      cases hv
      have c0 := ints_cell hel i es[i] (List.getElem?_eq_getElem hlt)
      have hd : es.drop i = es[i] :: es.drop (i + 1) := List.drop_eq_getElem_cons hlt
      have he := HE.out
      rw [hd, orI_cons] at he
      generalize es[i] = x at *
      by_cases hx : x = 0
      · subst hx
        rw [if_pos rfl] at he
        have HE2 := Lib.hid he
        clear he hd hel
        go_wp2
        go_round
        case rel => exact ⟨i + 1, by omega, by go_num, HE2.out⟩
        case measure => simp [intOf]; omega
      · rw [if_neg hx] at he
        have hb0 : (x == 0) = false := by simpa using hx
        have hb1 : (x != 0) = true := by simpa using hx
        have HE2 := Lib.hid he
        clear he hd hel hx
        go_wp2
        go_ret
        exact ⟨ret_int HE2.out, rfl⟩
    · obtain rfl : i = es.length := by omega
      have he := HE.out
      rw [List.drop_length] at he
      have HE2 := Lib.hid he
      clear he
      go_wp2
      go_ret
      exact ⟨ret_int HE2.out, rfl⟩


theorem ints3_at (w : World) (a b c : Int) (t : TypeId) : SliceAt 1 intR (w.alloc (.cells #[.int .i64 a, .int .i64 b, .int .i64 c] t)) (.slice (some ⟨w.heap.size, 0, none⟩) 3 3) [a, b, c] := by
  have hx := Has.new w #[.int .i64 a, .int .i64 b, .int .i64 c] t
  refine .inr ⟨w.heap.size, 0, 3, rfl, by simp, by simp, fun i hi => ?_⟩
  match i, hi with
  | 0, _ => exact ⟨[.int .i64 a], ⟨rfl, fun j hj => by
      have hj0 : j = 0 := by simpa using hj
      subst hj0
      exact hx.cell 0⟩, rfl⟩
  | 1, _ => exact ⟨[.int .i64 b], ⟨rfl, fun j hj => by
      have hj0 : j = 0 := by simpa using hj
      subst hj0
      exact hx.cell 1⟩, rfl⟩
  | 2, _ => exact ⟨[.int .i64 c], ⟨rfl, fun j hj => by
      have hj0 : j = 0 := by simpa using hj
      subst hj0
      exact hx.cell 2⟩, rfl⟩
theorem ints3_drew (w : World) (a b c : Int) (t : TypeId) : SliceAt 1 intR (w.alloc (.cells #[.int .i64 a, .int .i64 b, .int .i64 c] t)).drew (.slice (some ⟨w.heap.size, 0, none⟩) 3 3) [a, b, c] := ints3_at w a b c t
def aftI (x y : Shf) : Int := orI [cmpI x.1 y.1, cmpI x.2.1 y.2.1, cmpI x.2.2 y.2.2]
theorem aft_iff (x y : Shf) : decide (0 < aftI x y) = true ↔ behind x y := by
  rw [decide_eq_true_iff]
  unfold aftI behind cmpI
  simp only [orI]
  repeat' split
  all_goals omega

set_option maxRecDepth 100000 in
set_option maxHeartbeats 1000000 in
theorem after_any (x y : Shf) (w : World) :
    Calls Tryz.prog 68 #[.agg #[.int .i64 x.1, .int .i64 x.2.1, .int .i64 x.2.2], .agg #[.int .i64 y.1, .int .i64 y.2.1, .int .i64 y.2.2]] w fun e w' => e = .returned (.bool (decide (0 < aftI x y))) ∧ Below w.heap.size w w' := by
  obtain ⟨x1, x2, x3⟩ := x
  obtain ⟨y1, y2, y3⟩ := y
  unfold aftI
  simp only
  go_enter Tryz.func68, Tryz.ntmps68
  go_upto_region 1 with fail
  have hx := (Has.new w #[.int .i64 x1, .int .i64 x2, .int .i64 x3] 138).alloc (.cells #[.int .i64 y1, .int .i64 y2, .int .i64 y3] 138)
  have hy := Has.new (w.alloc (.cells #[.int .i64 x1, .int .i64 x2, .int .i64 x3] 138)) #[.int .i64 y1, .int .i64 y2, .int .i64 y3] 138
  have hbl : Below w.heap.size w ((w.alloc (.cells #[.int .i64 x1, .int .i64 x2, .int .i64 x3] 138)).alloc (.cells #[.int .i64 y1, .int .i64 y2, .int .i64 y3] 138)) :=
    ((Below.refl _ w).alloc (Nat.le_refl _) _).alloc (by simp) _
  rw [World.size_alloc] at hy
  generalize (w.alloc (.cells #[.int .i64 x1, .int .i64 x2, .int .i64 x3] 138)).alloc (.cells #[.int .i64 y1, .int .i64 y2, .int .i64 y3] 138) = w2 at *
  have k0 := hx.cell 0
  have k1 := hx.cell 1
  have k2 := hx.cell 2
  have l0 := hy.cell 0
  have l1 := hy.cell 1
  have l2 := hy.cell 2
  have hxl := hx.lt
  have hyl := hy.lt
  have HBL := Lib.hid hbl
  have HKS := Lib.hid (fun W (hW : Below w2.heap.size w2 W) => (⟨(below_cell hW hxl).trans k0, (below_cell hW hxl).trans k1, (below_cell hW hxl).trans k2, (below_cell hW hyl).trans l0, (below_cell hW hyl).trans l1, (below_cell hW hyl).trans l2⟩ :
    W.cell? ⟨w.heap.size, 0, none⟩ = some (.int .i64 x1) ∧ W.cell? ⟨w.heap.size, 1, none⟩ = some (.int .i64 x2) ∧ W.cell? ⟨w.heap.size, 2, none⟩ = some (.int .i64 x3) ∧ W.cell? ⟨w.heap.size + 1, 0, none⟩ = some (.int .i64 y1) ∧ W.cell? ⟨w.heap.size + 1, 1, none⟩ = some (.int .i64 y2) ∧ W.cell? ⟨w.heap.size + 1, 2, none⟩ = some (.int .i64 y3)))
  clear hx hy hbl
  go_cut [4] (fun u wx => u = .bool (decide (0 < orI [cmpI x1 y1, cmpI x2 y2, cmpI x3 y3])) ∧ Below w2.heap.size w2 wx)
  case first =>
    go_region_held3 (fun W => W.cell? ⟨w.heap.size, 0, none⟩ = some (.int .i64 x1) ∧ W.cell? ⟨w.heap.size, 1, none⟩ = some (.int .i64 x2) ∧ W.cell? ⟨w.heap.size, 2, none⟩ = some (.int .i64 x3) ∧ W.cell? ⟨w.heap.size + 1, 0, none⟩ = some (.int .i64 y1) ∧ W.cell? ⟨w.heap.size + 1, 1, none⟩ = some (.int .i64 y2) ∧ W.cell? ⟨w.heap.size + 1, 2, none⟩ = some (.int .i64 y3))
      (first | exact HKS.out _ hB | exact HKS.out _ (Below.refl _ _).drew | exact HKS.out _ ((Below.refl _ _).alloc (Nat.le_refl _) _).drew)
      (first
        | (go_at_call 56; refine (orInt_any _ [cmpI x1 y1, cmpI x2 y2, cmpI x3 y3] _ (ints3_drew w2 _ _ _ _) (by simp)).mono ?_; rintro e w' ⟨rfl, rfl⟩; have hB := ((Below.refl w2.heap.size w2).alloc (Nat.le_refl _) (.cells #[.int .i64 (cmpI x1 y1), .int .i64 (cmpI x2 y2), .int .i64 (cmpI x3 y3)] 3)).drew)
        | (go_at_call 42; refine (cmp_any _ _ _).mono ?_; rintro e w' ⟨rfl, rfl⟩))
    go_wp2
    go_meet
    exact ⟨rfl, hB⟩
  case rest =>
    obtain ⟨rfl, hbw⟩ := hcut
    go_wp2_with fail
    go_ret
    exact ⟨rfl, below_up HBL.out hbw HBL.out.size⟩

end Go.Proofs.YtemikhnkjligdaaGreatDoor
