/- Plain laws of calendars that may be: their shifts are right, and rise. No program in sight. -/
import Derived.Test.YtllcgcnebofdoaaGreatDoorShLaw
namespace Go.Proofs.YtllcgcnebofdoaaGreatDoor

/-- whether a shift comes behind another one -/
def behind (a b : Shf) : Prop := b.1 < a.1 ∨ (b.1 = a.1 ∧ (b.2.1 < a.2.1 ∨ (b.2.1 = a.2.1 ∧ b.2.2 < a.2.2)))
structure ShfFine (dated : Bool) (x : Shf) : Prop where
  day : dated = true → x.1 = 0
  lo : 0 ≤ x.1
  hi : x.1 ≤ 6
  f0 : 0 ≤ x.2.1
  f1 : x.2.1 ≤ 1439
  t0 : x.2.1 < x.2.2
  t1 : x.2.2 ≤ x.2.1 + 1440
structure ShfsFine (dated : Bool) (l : List Shf) : Prop where
  each : ∀ i (h : i < l.length), ShfFine dated l[i]
  order : ∀ i (h : i + 1 < l.length), behind l[i + 1] l[i]
structure SpcFine (x : Int × List Shf) : Prop where
  lo : -1 ≤ x.1
  hi : x.1 ≤ 2084
  len : x.2.length ≤ 12
  shifts : ShfsFine true x.2
structure CalFine (c : CalD) : Prop where
  zone : ZoneOk c.off c.cs
  wl : c.wk.length ≤ 60
  sl : c.sps.length ≤ 200
  week : ShfsFine false c.wk
  spc : ∀ i (h : i < c.sps.length), SpcFine c.sps[i]
  rise : ∀ i (h : i + 1 < c.sps.length), c.sps[i].1 < c.sps[i + 1].1

theorem behind_trans {a b c : Shf} (h : behind a b) (k : behind b c) : behind a c := by
  unfold behind at *
  omega
theorem pairwise_of_next {α : Type} {R : α → α → Prop} (ht : ∀ a b c : α, R a b → R b c → R a c) : ∀ (l : List α), (∀ i (h : i + 1 < l.length), R (l[i]'(by omega)) l[i + 1]) → l.Pairwise R
  | [], _ => List.Pairwise.nil
  | [_], _ => List.pairwise_singleton _ _
  | a :: b :: r, h => by
    have ih := pairwise_of_next ht (b :: r) (fun i hi => h (i + 1) (by simp only [List.length_cons] at hi ⊢; omega))
    refine List.Pairwise.cons (fun x hx => ?_) ih
    have hab : R a b := h 0 (by simp)
    rcases List.mem_cons.1 hx with rfl | hx
    · exact hab
    · exact ht _ _ _ hab (List.rel_of_pairwise_cons ih hx)
theorem ShfsFine.pair {d : Bool} {l : List Shf} (h : ShfsFine d l) : l.Pairwise fun a b => behind b a :=
  pairwise_of_next (R := fun a b => behind b a) (fun _ _ _ h k => behind_trans k h) l (fun i hi => h.order i hi)
theorem ShfsFine.mem {d : Bool} {l : List Shf} (h : ShfsFine d l) : ∀ x ∈ l, ShfFine d x := by
  intro x hx
  obtain ⟨i, hi, rfl⟩ := List.mem_iff_getElem.1 hx
  exact h.each i hi
theorem sorted_hours (d : Int) : ∀ (l : List Shf), (l.Pairwise fun a b => behind b a) → (∀ x ∈ l, x.1 = d) → SortedSp (hours l)
  | [], _, _ => True.intro
  | x :: r, h, hd => by
    refine ⟨fun y hy => ?_, sorted_hours d r (List.Pairwise.of_cons h) (fun z hz => hd z (List.mem_cons_of_mem _ hz))⟩
    obtain ⟨z, hz, rfl⟩ := List.mem_map.1 hy
    have h1 := List.rel_of_pairwise_cons h hz
    have h2 := hd x List.mem_cons_self
    have h3 := hd z (List.mem_cons_of_mem _ hz)
    unfold behind at h1
    simp only
    omega
theorem CalFine.ok {c : CalD} (h : CalFine c) : CalOk c := by
  refine ⟨h.zone, fun d s hs => ?_, fun d => ?_⟩
  · unfold shD at hs
    split at hs
    · rename_i sp hsp
      have hm := List.mem_of_find?_eq_some hsp
      obtain ⟨i, hi, rfl⟩ := List.mem_iff_getElem.1 hm
      obtain ⟨x, hx, rfl⟩ := List.mem_map.1 hs
      have := (h.spc i hi).shifts.mem x hx
      exact ⟨this.f0, by have := this.f1; simp only; omega, this.t0, this.t1⟩
    · obtain ⟨x, hx, rfl⟩ := List.mem_map.1 hs
      have := h.week.mem x (List.mem_filter.1 hx).1
      exact ⟨this.f0, by have := this.f1; simp only; omega, this.t0, this.t1⟩
  · unfold shD
    split
    · rename_i sp hsp
      have hm := List.mem_of_find?_eq_some hsp
      obtain ⟨i, hi, rfl⟩ := List.mem_iff_getElem.1 hm
      exact sorted_hours 0 _ (h.spc i hi).shifts.pair (fun x hx => ((h.spc i hi).shifts.mem x hx).day rfl)
    · exact sorted_hours (d % 7) _ (List.Pairwise.filter _ h.week.pair) (fun x hx => by simpa using (List.mem_filter.1 hx).2)
theorem CalFine.days {c : CalD} (h : CalFine c) : c.sps.Pairwise fun a b => a.1 < b.1 :=
  pairwise_of_next (R := fun a b : Int × List Shf => a.1 < b.1) (fun _ _ _ h k => Int.lt_trans h k) c.sps (fun i hi => h.rise i hi)

end Go.Proofs.YtllcgcnebofdoaaGreatDoor
