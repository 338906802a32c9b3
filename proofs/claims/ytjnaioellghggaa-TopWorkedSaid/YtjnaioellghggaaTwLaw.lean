/- Plain laws of a calendar to which a day without shifts is added. No program in sight. -/
import Derived.Test.YtjnaioellghggaaShOf
namespace Go.Proofs.Ytjnaioellghggaa

theorem shD_of_mem {c : CalD} (hp : c.sps.Pairwise fun a b => a.1 < b.1) {x : Int × List Shf} (hx : x ∈ c.sps) : shD c x.1 = hours x.2 := by
  obtain ⟨i, hi, rfl⟩ := List.mem_iff_getElem.1 hx
  unfold shD
  rw [find_some hp hi rfl]
theorem shD_of_none {c : CalD} {k : Int} (h : ∀ x ∈ c.sps, x.1 ≠ k) : shD c k = hours (c.wk.filter fun x => decide (x.1 = k % 7)) := by
  unfold shD
  rw [find_none h]
/-- a calendar with one more special day, without shifts -/
structure Holi (c : CalD) (day : Int) (sps' : List (Int × List Shf)) : Prop where
  perm : sps'.Perm (c.sps ++ [(day, [])])
  rise : sps'.Pairwise fun a b => a.1 < b.1
def holi (c : CalD) (sps' : List (Int × List Shf)) : CalD := ⟨c.off, c.cs, c.wk, sps'⟩
theorem shD_holi {c : CalD} {day : Int} {sps' : List (Int × List Shf)} (h : Holi c day sps') (hp : c.sps.Pairwise fun a b => a.1 < b.1) (hn : ∀ x ∈ c.sps, x.1 ≠ day) (k : Int) : shD (holi c sps') k = if k = day then [] else shD c k := by
  have hmem : ∀ x, x ∈ sps' ↔ x ∈ c.sps ∨ x = (day, []) := fun x => by rw [h.perm.mem_iff, List.mem_append, List.mem_singleton]
  by_cases hk : k = day
  · subst hk
    rw [if_pos rfl]
    exact shD_of_mem (c := holi c sps') h.rise (x := (k, [])) ((hmem _).2 (.inr rfl))
  · rw [if_neg hk]
    by_cases he : ∃ x ∈ c.sps, x.1 = k
    · obtain ⟨x, hx, rfl⟩ := he
      rw [shD_of_mem hp hx]
      exact shD_of_mem (c := holi c sps') h.rise ((hmem _).2 (.inl hx))
    · have h1 : ∀ x ∈ c.sps, x.1 ≠ k := fun x hx e => he ⟨x, hx, e⟩
      rw [shD_of_none h1]
      refine shD_of_none (c := holi c sps') (fun x hx => ?_)
      rcases (hmem x).1 hx with g | g
      · exact h1 x g
      · rw [g]; exact fun e => hk e.symm
theorem holi_fine {c : CalD} {day : Int} {sps' : List (Int × List Shf)} (h : Holi c day sps') (hf : CkFine c) (hl : c.sps.length < 200) (h1 : 0 ≤ day) (h2 : day ≤ 2084) : CkFine (holi c sps') := by
  have hlen : sps'.length = c.sps.length + 1 := by rw [h.perm.length_eq, List.length_append]; rfl
  refine ⟨hf.zone, hf.wl, ?_, hf.week, ⟨fun i hi => ?_, fun i hi => ?_⟩⟩
  · show sps'.length ≤ 200
    omega
  · have hm : (holi c sps').sps[i] ∈ c.sps ++ [(day, [])] := h.perm.mem_iff.1 (List.getElem_mem hi)
    rcases List.mem_append.1 hm with g | g
    · obtain ⟨j, hj, e⟩ := List.mem_iff_getElem.1 g
      rw [← e]
      exact hf.sps.each j hj
    · rw [List.mem_singleton.1 g]
      exact ⟨by simp only; omega, h2, by simp, ⟨fun i hi => absurd hi (by simp), fun i hi => absurd hi (by simp)⟩⟩
  · exact List.pairwise_iff_getElem.1 h.rise i (i + 1) (Nat.lt_trans (Nat.lt_succ_self i) hi) hi (Nat.lt_succ_self i)
theorem part_off (t : Int) : ∀ (cs : List (Int × Int)) (f o off : Int), ZOk f off cs → ∀ p ∈ prts f o cs, p.f ≤ t → t < p.t → p.o = offAt t o cs
  | [], f, o, off, _, p, hp, _, _ => by
    simp only [prts, List.mem_singleton] at hp
    subst hp
    rfl
  | (a, q) :: r, f, o, off, h, p, hp, h1, h2 => by
    obtain ⟨_, _, h3, _, h5⟩ := h
    simp only [prts, List.mem_cons] at hp
    rcases hp with rfl | hp
    · simp only at h1 h2
      simp only [offAt]
      rw [if_neg (by omega)]
      exact (offAt_before t r a q o h5 (by omega)).symm
    · have hge : a ≤ p.f := prts_ge r a q q h5 p hp
      simp only [offAt]
      rw [if_pos (by omega)]
      exact part_off t r a q q h5 p hp h1 h2
where
  prts_ge : ∀ (cs : List (Int × Int)) (f o off : Int), ZOk f off cs → ∀ p ∈ prts f o cs, f ≤ p.f
  | [], f, o, off, _, p, hp => by
    simp only [prts, List.mem_singleton] at hp
    subst hp
    exact Int.le_refl _
  | (a, q) :: r, f, o, off, h, p, hp => by
    obtain ⟨_, _, h3, _, h5⟩ := h
    simp only [prts, List.mem_cons] at hp
    rcases hp with rfl | hp
    · exact Int.le_refl _
    · have := prts_ge r a q q h5 p hp
      omega
theorem holi_less {c : CalD} {day : Int} {sps' : List (Int × List Shf)} (h : Holi c day sps') (hc : CalOk c) (hh : CalOk (holi c sps')) (hp : c.sps.Pairwise fun a b => a.1 < b.1) (hn : ∀ x ∈ c.sps, x.1 ≠ day) (t : Int) (hl : openB (holi c sps') t = true) : openB c t = true := by
  rw [openB_iff hh] at hl
  rw [openB_iff hc]
  obtain ⟨p, hp1, h1, h2, k, s, hs, h3, h4⟩ := hl
  rw [shD_holi h hp hn] at hs
  by_cases hk : k = day
  · rw [if_pos hk] at hs
    cases hs
  · rw [if_neg hk] at hs
    exact ⟨p, hp1, h1, h2, k, s, hs, h3, h4⟩
theorem holi_day {c : CalD} {day : Int} {sps' : List (Int × List Shf)} (h : Holi c day sps') (hc : CalOk c) (hh : CalOk (holi c sps')) (hp : c.sps.Pairwise fun a b => a.1 < b.1) (hn : ∀ x ∈ c.sps, x.1 ≠ day) (t : Int) (ho : openB c t = true) (hl : openB (holi c sps') t = false) :
    (t + offAt t c.off c.cs) / 1440 = day ∨ (t + offAt t c.off c.cs) / 1440 = day + 1 := by
  rw [openB_iff hc] at ho
  obtain ⟨p, hp1, h1, h2, k, s, hs, h3, h4⟩ := ho
  have hk : k = day := by
    by_cases hk : k = day
    · exact hk
    · have : openB (holi c sps') t = true := by
        rw [openB_iff hh]
        refine ⟨p, hp1, h1, h2, k, s, ?_, h3, h4⟩
        rw [shD_holi h hp hn, if_neg hk]
        exact hs
      rw [hl] at this
      cases this
  subst hk
  have := day_of (hc.each k s hs) h3 h4
  rw [part_off t c.cs 0 c.off c.off hc.zone.ok p hp1 h1 h2] at this
  omega

end Go.Proofs.Ytjnaioellghggaa
