/- The clocks of a right history are right clocks. No program in sight. -/
import Derived.Test.YtllcgcnebofdoaaGreatDoorQCkClk
import Derived.Test.YtllcgcnebofdoaaGreatDoorQClkE
namespace Go.Proofs.YtllcgcnebofdoaaGreatDoor

theorem getD_in {α : Type} (l : List α) (d : α) {i : Nat} (h : i < l.length) : l.getD i d = l[i] := by simp [List.getD, h]
theorem getD_app {α : Type} (l r : List α) (d : α) {i : Nat} (h : i < l.length) : (l ++ r).getD i d = l.getD i d := by rw [getD_in _ _ (by rw [List.length_append]; omega), getD_in _ _ h, List.getElem_append_left h]
/-- pieces that have ended, one behind the other, between a and u -/
def Cl : Int → Int → List Pc → Prop
  | a, u, [] => a ≤ u
  | a, u, p :: r => a ≤ p.1 ∧ p.1 + 1 ≤ p.2.1 ∧ (0 ≤ p.2.2 ∧ p.2.2 ≤ 19) ∧ Cl p.2.1 u r
theorem Cl.le : ∀ {ps : List Pc} {a u : Int}, Cl a u ps → a ≤ u
  | [], _, _, h => h
  | _ :: _, _, _, ⟨h1, h2, _, h4⟩ => by have := Cl.le h4; omega
theorem Cl.up : ∀ {ps : List Pc} {a u v : Int}, Cl a u ps → u ≤ v → Cl a v ps
  | [], _, _, _, h, k => by unfold Cl at *; omega
  | _ :: _, _, _, _, ⟨h1, h2, h3, h4⟩, k => ⟨h1, h2, h3, h4.up k⟩
theorem Cl.snoc : ∀ {ps : List Pc} {a u f g c : Int}, Cl a u ps → u ≤ f → f < g → (0 ≤ c ∧ c ≤ 19) → Cl a g (ps ++ [(f, g, c)])
  | [], _, _, _, _, _, h, h1, h2, h3 => ⟨Int.le_trans h h1, h2, h3, Int.le_refl _⟩
  | _ :: _, _, _, _, _, _, ⟨g1, g2, g3, g4⟩, h1, h2, h3 => ⟨g1, g2, g3, g4.snoc h1 h2 h3⟩
theorem Cl.at : ∀ {ps : List Pc} {a u : Int}, Cl a u ps → ∀ j (hj : j < ps.length), a ≤ ps[j].1 ∧ ps[j].1 + 1 ≤ ps[j].2.1 ∧ ps[j].2.1 ≤ u ∧ (0 ≤ ps[j].2.2 ∧ ps[j].2.2 ≤ 19)
  | p :: r, a, u, ⟨h1, h2, h3, h4⟩, 0, _ => ⟨h1, h2, h4.le, h3⟩
  | p :: r, a, u, ⟨h1, h2, h3, h4⟩, j + 1, hj => by
    obtain ⟨g1, g2, g3, g4⟩ := h4.at j (by simpa using hj)
    simp only [List.getElem_cons_succ]
    exact ⟨by omega, g2, g3, g4⟩
theorem Cl.rise : ∀ {ps : List Pc} {a u : Int}, Cl a u ps → ∀ j (h0 : 0 < j) (hj : j < ps.length), (ps[j - 1]'(by omega)).2.1 ≤ ps[j].1
  | p :: r, a, u, ⟨h1, h2, h3, h4⟩, 1, _, hj => by
    have hr : 0 < r.length := by simpa using hj
    exact (h4.at 0 hr).1
  | p :: r, a, u, ⟨h1, h2, h3, h4⟩, j + 2, _, hj => by
    have := h4.rise (j + 1) (by omega) (by rw [List.length_cons] at hj; omega)
    simpa using this
/-- the piece that goes on -/
def Tl (t u : Int) : Bool → List Pc → Prop
  | false, tl => tl = []
  | true, tl => ∃ f c, tl = [(f, -1, c)] ∧ u ≤ f ∧ f ≤ t ∧ (0 ≤ c ∧ c ≤ 19)
structure RunFit (t : Int) (r : RunD) : Prop where
  kind : 1 ≤ r.c.kind ∧ r.c.kind ≤ 3
  lev : 0 ≤ r.c.lev ∧ r.c.lev ≤ 19
  min : 0 ≤ r.c.min ∧ r.c.min ≤ 100000
  start : 0 ≤ r.c.start ∧ r.c.start ≤ t
  cal : 0 ≤ r.tgt.2.2 ∧ r.tgt.2.2 ≤ 19
  fin : (r.c.fin = 0 ∧ r.c.stop = -1) ∨ ((r.c.fin = 1 ∨ r.c.fin = 2) ∧ r.c.start ≤ r.c.stop ∧ r.c.stop ≤ t ∧ r.goes = false)
  ps : ∃ cl tl u, r.c.ps = cl ++ tl ∧ Cl r.c.start u cl ∧ u ≤ (if r.c.fin = 0 then t else r.c.stop) ∧ Tl t u r.goes tl
theorem RunFit.up {t t' : Int} {r : RunD} (h : RunFit t r) (ht : t ≤ t') : RunFit t' r := by
  refine ⟨h.kind, h.lev, h.min, ⟨h.start.1, Int.le_trans h.start.2 ht⟩, h.cal, ?_, ?_⟩
  · rcases h.fin with q | ⟨a, b, c, d⟩
    · exact .inl q
    · exact .inr ⟨a, b, Int.le_trans c ht, d⟩
  · obtain ⟨cl, tl, u, h1, h2, h3, h4⟩ := h.ps
    refine ⟨cl, tl, u, h1, h2, ?_, ?_⟩
    · split <;> rename_i q
      · rw [if_pos q] at h3; omega
      · rw [if_neg q] at h3; exact h3
    · cases hg : r.goes with
      | false => rw [hg] at h4; exact h4
      | true =>
        rw [hg] at h4
        obtain ⟨f, c, g1, g2, g3, g4⟩ := h4
        exact ⟨f, c, g1, g2, Int.le_trans g3 ht, g4⟩
theorem RunFit.goes0 {t : Int} {r : RunD} (h : RunFit t r) (hg : r.goes = true) : r.c.fin = 0 := by
  rcases h.fin with q | ⟨_, _, _, d⟩
  · exact q.1
  · rw [hg] at d; cases d
theorem cutF_fit {t : Int} {r : RunD} (h : RunFit t r) : RunFit t (cutF t r) ∧ (cutF t r).c.ps.length ≤ r.c.ps.length ∧ (cutF t r).goes = false ∧ (cutF t r).c.fin = r.c.fin := by
  unfold cutF
  cases hg : r.goes with
  | false => exact ⟨h, Nat.le_refl _, hg, rfl⟩
  | true =>
    have hf := h.goes0 hg
    rw [if_pos rfl]
    refine ⟨⟨h.kind, h.lev, h.min, h.start, h.cal, ?_, ?_⟩, cutP_len _ _, rfl, rfl⟩
    · rcases h.fin with q | ⟨a, b, c, d⟩
      · exact .inl q
      · exact .inr ⟨a, b, c, rfl⟩
    · obtain ⟨cl, tl, u, h1, h2, h3, h4⟩ := h.ps
      rw [hg] at h4
      obtain ⟨f, c, rfl, g2, g3, g4⟩ := h4
      show ∃ cl tl u, cutP t r.c.ps = cl ++ tl ∧ Cl r.c.start u cl ∧ u ≤ (if r.c.fin = 0 then t else r.c.stop) ∧ Tl t u false tl
      rw [h1, cutP_last, if_pos hf]
      by_cases e : f = t
      · rw [if_pos e]
        exact ⟨cl, [], u, by simp, h2, by omega, rfl⟩
      · rw [if_neg e]
        exact ⟨cl ++ [(f, t, c)], [], t, by simp, h2.snoc g2 (by omega) g4, Int.le_refl _, rfl⟩
theorem onF_fit {t : Int} {r : RunD} (h : RunFit t r) (hg : r.goes = false) (hf : r.c.fin = 0) : RunFit t (onF t r) ∧ (onF t r).c.ps.length = r.c.ps.length + 1 ∧ (onF t r).goes = true ∧ (onF t r).c.fin = 0 := by
  refine ⟨⟨h.kind, h.lev, h.min, h.start, h.cal, ?_, ?_⟩, by simp [onF], rfl, hf⟩
  · rcases h.fin with q | ⟨a, b, c, d⟩
    · exact .inl q
    · rw [hf] at a; omega
  · obtain ⟨cl, tl, u, h1, h2, h3, h4⟩ := h.ps
    rw [hg] at h4
    have e : tl = [] := h4
    subst e
    rw [if_pos hf] at h3
    refine ⟨cl, [(t, -1, r.tgt.2.2)], u, ?_, h2, ?_, t, r.tgt.2.2, rfl, h3, Int.le_refl _, h.cal⟩
    · show r.c.ps ++ _ = _
      rw [h1]; simp
    · show u ≤ (if r.c.fin = 0 then t else r.c.stop)
      rw [if_pos hf]; exact h3
theorem endF_fit {t how : Int} {r : RunD} (h : RunFit t r) (hf : r.c.fin = 0) (hh : how = 1 ∨ how = 2) : RunFit t (endF' t how r) ∧ (endF' t how r).c.ps.length ≤ r.c.ps.length := by
  obtain ⟨c1, c2, c3, c4⟩ := cutF_fit h
  refine ⟨⟨c1.kind, c1.lev, c1.min, c1.start, c1.cal, .inr ⟨hh, c1.start.2, Int.le_refl _, c3⟩, ?_⟩, c2⟩
  obtain ⟨cl, tl, u, h1, h2, h3, h4⟩ := c1.ps
  rw [c4, if_pos hf] at h3
  refine ⟨cl, tl, u, h1, h2, ?_, h4⟩
  show u ≤ (if how = 0 then t else t)
  split <;> exact h3
theorem setT_fit {t lev : Int} {g : TgtD} {r : RunD} (h : RunFit t r) (hg : TgtOne g) (hl : 0 ≤ lev ∧ lev ≤ 19) : RunFit t (setT g lev r) :=
  ⟨h.kind, hl, hg.2.1, h.start, hg.2.2, h.fin, h.ps⟩
theorem tgtFind_one {kind : Int} : ∀ {l : List TgtD} {g : TgtD}, tgtFind kind l = some g → g ∈ l ∧ g.1 = kind
  | [], _, h => by cases h
  | x :: r, g, h => by
    unfold tgtFind at h
    split at h
    · rename_i q
      cases h
      exact ⟨List.mem_cons_self, q⟩
    · obtain ⟨a, b⟩ := tgtFind_one h
      exact ⟨List.mem_cons_of_mem _ a, b⟩
theorem tgtOf_one {p : PolD} (hp : PolOk p) {lev kind : Int} (hl : lev < (p.levs.length : Int)) {g : TgtD} (h : tgtOf p lev kind = some g) : TgtOne g ∧ g.1 = kind ∧ 0 ≤ lev ∧ lev ≤ 19 := by
  unfold tgtOf at h
  split at h
  · cases h
  · rename_i q
    have hn : lev.toNat < p.levs.length := by omega
    obtain ⟨a, b⟩ := tgtFind_one h
    rw [getD_in _ _ hn] at a
    have hL := (hp.levs.each _ (List.getElem_mem hn)).2
    obtain ⟨j, hj, rfl⟩ := List.mem_iff_getElem.1 a
    have := hp.few
    exact ⟨hL.tgts.each j hj, b, by omega, by omega⟩
theorem chsF_fit {p : PolD} (hp : PolOk p) {t lev : Int} (hl : lev < (p.levs.length : Int)) {r : RunD} (h : RunFit t r) (hf : r.c.fin = 0) :
    RunFit t (chsF p t lev r) ∧ (chsF p t lev r).c.ps.length ≤ r.c.ps.length + (if (chsF p t lev r).goes then 1 else 0) := by
  unfold chsF
  split
  · obtain ⟨a, b⟩ := endF_fit (how := 2) h hf (.inr rfl)
    exact ⟨a, Nat.le_trans b (Nat.le_add_right _ _)⟩
  · rename_i g hg
    obtain ⟨g1, g2, g3⟩ := tgtOf_one hp hl hg
    split
    · obtain ⟨c1, c2, c3, c4⟩ := cutF_fit h
      have s := setT_fit c1 g1 g3
      obtain ⟨o1, o2, o3, o4⟩ := onF_fit s c3 (c4.trans hf)
      refine ⟨o1, ?_⟩
      rw [o2, o3, if_pos rfl]
      exact Nat.succ_le_succ c2
    · exact ⟨setT_fit h g1 g3, Nat.le_add_right _ _⟩
theorem metF_fit {x : PntD} {r : RunD} (h : RunFit x.at' r) (hf : r.c.fin = 0) : RunFit x.at' (metF x r) ∧ (metF x r).c.ps.length ≤ r.c.ps.length := by
  unfold metF
  split
  · exact endF_fit h hf (.inr rfl)
  · split
    · exact endF_fit h hf (.inl rfl)
    · exact ⟨h, Nat.le_refl _⟩
theorem pauF_fit {b : Bool} {t : Int} {r : RunD} {n : Nat} (h : RunFit t r) (hf : r.c.fin = 0) (hn : r.c.ps.length ≤ n + (if r.goes then 1 else 0)) : RunFit t (pauF b t r) ∧ (pauF b t r).c.ps.length ≤ n + 1 := by
  unfold pauF
  split
  · obtain ⟨c1, c2, _⟩ := cutF_fit h
    refine ⟨c1, Nat.le_trans c2 (Nat.le_trans hn ?_)⟩
    split <;> omega
  · cases hg : r.goes with
    | true =>
      rw [hg] at hn
      exact ⟨h, hn⟩
    | false =>
      rw [hg] at hn
      obtain ⟨o1, o2, _⟩ := onF_fit h hg hf
      refine ⟨o1, ?_⟩
      have o3 : (onF t r).c.ps.length ≤ n + 1 := by rw [o2]; exact Nat.succ_le_succ hn
      exact o3
theorem mem_each {f : RunD → RunD} {l : List RunD} {r : RunD} (h : r ∈ eachF f l) : ∃ q ∈ l, (q.c.fin = 0 ∧ r = f q) ∨ (q.c.fin ≠ 0 ∧ r = q) := by
  obtain ⟨q, hq, rfl⟩ := List.mem_map.1 h
  refine ⟨q, hq, ?_⟩
  split <;> rename_i g
  · exact .inl ⟨g, rfl⟩
  · exact .inr ⟨g, rfl⟩
/-- a keeper between points -/
structure KepFit (p : PolD) (t : Int) (n : Nat) (k : KepD) : Prop where
  lev : k.lev < (p.levs.length : Int)
  run : ∀ r ∈ k.run, RunFit t r ∧ r.c.ps.length ≤ n
/-- a keeper while a point is taken -/
structure KepMid (p : PolD) (t : Int) (n : Nat) (k : KepD) : Prop where
  lev : k.lev < (p.levs.length : Int)
  run : ∀ r ∈ k.run, RunFit t r ∧ r.c.ps.length ≤ n + (if r.goes then 1 else 0)
theorem KepFit.mid {p : PolD} {t : Int} {n : Nat} {k : KepD} (h : KepFit p t n k) : KepMid p t n k :=
  ⟨h.lev, fun r hr => ⟨(h.run r hr).1, Nat.le_trans (h.run r hr).2 (Nat.le_add_right _ _)⟩⟩
theorem KepFit.up {p : PolD} {t t' : Int} {n : Nat} {k : KepD} (h : KepFit p t n k) (ht : t ≤ t') : KepFit p t' n k := ⟨h.lev, fun r hr => ⟨(h.run r hr).1.up ht, (h.run r hr).2⟩⟩
theorem step1_fit {p : PolD} {n : Nat} {k : KepD} {x : PntD} (h : KepFit p x.at' n k) : KepFit p x.at' n (step1 x k) := by
  refine ⟨h.lev, fun r hr => ?_⟩
  obtain ⟨q, hq, ⟨g, rfl⟩ | ⟨g, rfl⟩⟩ := mem_each hr
  · obtain ⟨a, b⟩ := metF_fit (h.run q hq).1 g
    exact ⟨a, Nat.le_trans b (h.run q hq).2⟩
  · exact h.run r hq
theorem step2_fit {p : PolD} (hp : PolOk p) {n : Nat} {k : KepD} {x : PntD} (h : KepFit p x.at' n k) : KepMid p x.at' n (step2 p x k) := by
  unfold step2
  split
  · exact h.mid
  · have hl := (levOf_range p x.prio x.vals).2
    refine ⟨hl, fun r hr => ?_⟩
    obtain ⟨q, hq, ⟨g, rfl⟩ | ⟨g, rfl⟩⟩ := mem_each hr
    · obtain ⟨a, b⟩ := chsF_fit hp hl (h.run q hq).1 g
      exact ⟨a, Nat.le_trans b (Nat.add_le_add_right (h.run q hq).2 _)⟩
    · exact h.mid.run r hq
theorem begin_fit {p : PolD} (hp : PolOk p) {t kind : Int} (h0 : 0 ≤ t) (hk : 1 ≤ kind ∧ kind ≤ 3) {n : Nat} {k : KepD} (h : KepMid p t n k) : KepMid p t n (beginF p t kind k) := by
  unfold beginF
  split
  · exact h
  · rename_i g hg
    obtain ⟨g1, g2, g3⟩ := tgtOf_one hp h.lev hg
    refine ⟨h.lev, fun r hr => ?_⟩
    rcases List.mem_append.1 hr with q | q
    · exact h.run r q
    · rw [List.mem_singleton.1 q]
      exact ⟨⟨hk, g3, g1.2.1, ⟨h0, Int.le_refl _⟩, g1.2.2, .inl ⟨rfl, rfl⟩, [], [], t, rfl, Int.le_refl _, Int.le_refl _, rfl⟩, Nat.zero_le _⟩
theorem step345_fit {p : PolD} (hp : PolOk p) {n : Nat} {k : KepD} {x : PntD} (h0 : 0 ≤ x.at') (b : Option Int) (h : KepMid p x.at' n k) : KepMid p x.at' n (step345 p x b k) := by
  unfold step345
  split
  · exact h
  · have h3 : KepMid p x.at' n (step3 p x b k) := by
      unfold step3
      split
      · exact begin_fit hp h0 (by decide) h
      · exact h
    have h4 : KepMid p x.at' n (step4 p x (step3 p x b k)) := by
      unfold step4
      split
      · exact begin_fit hp h0 (by decide) h3
      · exact h3
    unfold step5
    split
    · exact begin_fit hp h0 (by decide) h4
    · exact h4
theorem step6_fit {p : PolD} {n : Nat} {k : KepD} {x : PntD} (h : KepMid p x.at' n k) : KepFit p x.at' (n + 1) (step6 p x k) := by
  refine ⟨h.lev, fun r hr => ?_⟩
  obtain ⟨q, hq, ⟨g, rfl⟩ | ⟨g, rfl⟩⟩ := mem_each hr
  · exact pauF_fit (h.run q hq).1 g (h.run q hq).2
  · refine ⟨(h.run r hq).1, Nat.le_trans (h.run r hq).2 ?_⟩
    split <;> omega
theorem point_fit {p : PolD} (hp : PolOk p) {t : Int} {n : Nat} {k : KepD} {x : PntD} (h0 : 0 ≤ x.at') (ht : t ≤ x.at') (b : Option Int) (h : KepFit p t n k) : KepFit p x.at' (n + 1) (pointF p x b k) :=
  step6_fit (step345_fit hp h0 b (step2_fit hp (step1_fit (h.up ht))))
/-- the time of the last of the first i points -/
def timeTo (l : List PntD) (i : Nat) : Int := if i = 0 then 0 else (l.getD (i - 1) default).at'
theorem keepTo_fit {p : PolD} (hp : PolOk p) {l : List PntD} (hl : HistOk l) : ∀ i, i ≤ l.length → KepFit p (timeTo l i) i (keepTo p l i)
  | 0, _ => ⟨by show (-1 : Int) < _; omega, fun r h => absurd h (by simp [keepTo, keepFrom])⟩
  | i + 1, h => by
    have ih := keepTo_fit hp hl i (by omega)
    have hi : i < l.length := h
    have e : timeTo l (i + 1) = l[i].at' := by unfold timeTo; rw [if_neg (by omega)]; simp [List.getD, hi]
    have h0 := (hl.pts.each i hi).at'.1
    have ht : timeTo l i ≤ l[i].at' := by
      by_cases q : i = 0
      · subst q
        exact h0
      · have := hl.pts.before hi (by omega)
        have e2 : timeTo l i = (l[i - 1]'(by omega)).at' := by unfold timeTo; rw [if_neg q, getD_in _ _ (by omega)]
        rw [e2]
        exact this
    rw [e]
    by_cases q : i = 0
    · subst q
      rw [keepTo_one p l hi]
      exact point_fit hp h0 ht none ih
    · rw [keepTo_succ p l i (by omega) hi]
      exact point_fit hp h0 ht _ ih
theorem timeTo_le {l : List PntD} (hl : HistOk l) {i : Nat} (hi : i ≤ l.length) : timeTo l i ≤ 3000000 := by
  unfold timeTo
  split
  · decide
  · rw [getD_in _ _ (by omega)]
    exact (hl.pts.each _ (by omega)).at'.2
theorem RunFit.ok {t : Int} {r : RunD} (h : RunFit t r) (ht : t ≤ 3000000) (hn : r.c.ps.length ≤ 6000) : ClkOk r.c := by
  have h1 := h.start
  obtain ⟨cl, tl, u, e, hc, hu, htl⟩ := h.ps
  have hfs : (r.c.fin = 0 ∧ r.c.stop = -1) ∨ ((r.c.fin = 1 ∨ r.c.fin = 2) ∧ r.c.start ≤ r.c.stop ∧ r.c.stop ≤ t ∧ r.goes = false) := h.fin
  refine ⟨⟨h.kind, h.lev, h.min, ⟨h1.1, by omega⟩, by omega, by omega⟩, by omega, hn, fun j hj => ?_⟩
  have hu' : u ≤ 3000000 := by
    split at hu <;> omega
  unfold Good GoodAt
  have e0 : ∀ i, i < cl.length → r.c.ps.getD i (0, 0, 0) = cl.getD i (0, 0, 0) := fun i hi => by
    rw [e, getD_app _ _ _ hi]
  have hc0 := hc.le
  by_cases hj' : j < cl.length
  · have g := hc.at j hj'
    have ej : r.c.ps.getD j (0, 0, 0) = cl[j] := by rw [e0 j hj', getD_in _ _ hj']
    rw [ej]
    refine ⟨by omega, g.2.2.2, .inr (by omega), fun q => by omega, fun q => ?_, fun q => ?_⟩
    · rw [if_neg (by omega)] at hu; omega
    · rw [e0 (j - 1) (by omega), getD_in _ _ (by omega)]
      exact hc.rise j q hj'
  · cases hg : r.goes with
    | false =>
      rw [hg] at htl
      have e2 : tl = [] := htl
      rw [e, e2, List.append_nil] at hj
      exact absurd hj hj'
    | true =>
      rw [hg] at htl
      obtain ⟨f, c, rfl, g2, g3, g4⟩ := htl
      have hjl : j = cl.length := by rw [e, List.length_append] at hj; simp at hj; omega
      have hf0 := h.goes0 hg
      have hst : r.c.stop = -1 := by omega
      have ej : r.c.ps.getD j (0, 0, 0) = (f, -1, c) := by rw [e, hjl]; simp [List.getD]
      have hln : r.c.ps.length = cl.length + 1 := by rw [e]; simp
      rw [ej]
      refine ⟨by constructor <;> dsimp only <;> omega, g4, .inl rfl, fun _ => ⟨by omega, hst⟩, fun q => absurd hst q, fun q => ?_⟩
      rw [e0 (j - 1) (by omega), getD_in _ _ (by omega)]
      have := (hc.at (j - 1) (by omega)).2.2.1
      dsimp only
      omega
/-- THE CLOCKS OF A RIGHT HISTORY ARE RIGHT -/
theorem clocks_fit {p : PolD} (hp : PolOk p) {l : List PntD} (hl : HistOk l) : ∀ c ∈ clocksF p l, ClkOk c := by
  intro c hc
  rw [← keepTo_all] at hc
  obtain ⟨r, hr, rfl⟩ := List.mem_map.1 hc
  obtain ⟨a, b⟩ := (keepTo_fit hp hl l.length (Nat.le_refl _)).run r hr
  have := hl.few
  exact a.ok (timeTo_le hl (Nat.le_refl _)) (by omega)
end Go.Proofs.YtllcgcnebofdoaaGreatDoor

/- A clock that is met: it is kept just if that is not after the due moment. No program in sight. -/
namespace Go.Proofs.YtllcgcnebofdoaaGreatDoor

theorem pcs_ok {c : ClkD} {l : List CalD} (h : CkAll c l) : ∀ (n i : Nat) (lo : Int), i + n = c.ps.length → (∀ hi : i < c.ps.length, lo ≤ c.ps[i].1) → PcsOk l lo (c.ps.drop i)
  | 0, i, lo, e, _ => by
    rw [List.drop_eq_nil_of_le (by omega)]
    trivial
  | n + 1, i, lo, e, hlo => by
    have hi : i < c.ps.length := by omega
    rw [List.drop_eq_getElem_cons hi]
    have F := pc_facts h hi
    have hg := h.clk.each i hi
    unfold Good at hg
    rw [show c.ps.getD i (0, 0, 0) = c.ps[i] by simp [List.getD, hi]] at hg
    obtain ⟨_, _, _, g4, _, _⟩ := hg
    refine ⟨hlo hi, F.hi, (pcEnd_le F).1, (pcEnd_le F).2, fun q => ?_, F.fine.fine.ok, pcs_ok h n (i + 1) _ (by omega) (fun hi' => ?_)⟩
    · exact List.drop_eq_nil_of_le (by have := (g4 q).1; omega)
    · have hg := h.clk.each (i + 1) hi'
      unfold Good at hg
      rw [show c.ps.getD (i + 1) (0, 0, 0) = c.ps[i + 1] by simp [List.getD, hi'], show i + 1 - 1 = i by omega, show c.ps.getD i (0, 0, 0) = c.ps[i] by simp [List.getD, hi]] at hg
      obtain ⟨_, _, _, _, _, g6⟩ := hg
      have hne : c.ps[i].2.1 ≠ -1 := fun q => (g4 q).1 hi'
      unfold pcEnd
      rw [if_neg hne]
      exact g6 (by omega)
theorem fin_zero {c : ClkD} {l : List CalD} (h : CkAll c l) (hr : c.ps ≠ [] ∧ (c.ps.getD (c.ps.length - 1) (0, 0, 0)).2.1 = -1) : c.fin = 0 := by
  have hp : 0 < c.ps.length := List.length_pos_iff.2 hr.1
  have hg := h.clk.each (c.ps.length - 1) (by omega)
  obtain ⟨_, _, _, g4, _, _⟩ := hg
  exact h.clk.ends.1 (g4 hr.2).2
/-- at the due moment a clock is not late, one moment later it is -/
theorem due_law {c : ClkD} {l : List CalD} (h : CkAll c l) : c.start ≤ dueF c l ∧ dueF c l ≤ 3000000 ∧ ¬ c.min < elapF l c.ps (dueF c l) ∧ (dueF c l < 3000000 → c.min < elapF l c.ps (dueF c l + 1)) := by
  have hst := h.clk.head.start
  have hmin := h.clk.head.min
  have hok : PcsOk l c.start c.ps := pcs_ok h c.ps.length 0 c.start (by omega) (fun hi => (pc_facts h hi).st)
  unfold dueF
  cases hc : cntF l c.ps c.min with
  | none =>
    have := cnt_missed hok hst.1 hmin.1 hc
    refine ⟨hst.2, Int.le_refl _, ?_, fun g => absurd g (by simp)⟩
    show ¬ c.min < elapF l c.ps 3000000
    omega
  | some m =>
    obtain ⟨h1, h2, h3, h4⟩ := cnt_found hok hst.1 hmin.1 hc
    refine ⟨h1, h2, ?_, fun _ => ?_⟩
    · show ¬ c.min < elapF l c.ps m
      omega
    · show c.min < elapF l c.ps (m + 1)
      omega

theorem cutEnd_mono (p : Pc) {m m' : Int} (h : m ≤ m') : cutEnd p m ≤ cutEnd p m' := by
  unfold cutEnd
  split <;> omega
theorem elap_mono {cals : List CalD} : ∀ {ps : List Pc} {lo m m' : Int}, PcsOk cals lo ps → 0 ≤ lo → m ≤ m' → elapF cals ps m ≤ elapF cals ps m'
  | [], _, _, _, _, _, _ => Int.le_refl _
  | p :: r, lo, m, m', ⟨h1, h2, h3, h4, h5, h6, h7⟩, h0, h => by
    have ih := elap_mono h7 (by omega) h
    have hc := cutEnd_mono p h
    have hp : pcN cals p m ≤ pcN cals p m' := by
      unfold pcN
      by_cases g : p.1 < cutEnd p m
      · rw [if_pos g, if_pos (by omega)]
        exact lens_mono h6 (by omega) (by omega) hc
      · rw [if_neg g]
        split
        · exact lens_nonneg h6 (by omega) (by omega)
        · exact Int.le_refl _
    rw [elapF, elapF]
    omega
/-- up to the due moment a clock has not too much, behind it it has -/
theorem due_iff {c : ClkD} {l : List CalD} (h : CkAll c l) {t : Int} (ht : t ≤ 3000000) : elapF l c.ps t ≤ c.min ↔ t ≤ dueF c l := by
  obtain ⟨d1, d2, d3, d4⟩ := due_law h
  have hst := h.clk.head.start
  have hok : PcsOk l c.start c.ps := pcs_ok h c.ps.length 0 c.start (by omega) (fun hi => (pc_facts h hi).st)
  constructor
  · intro g
    rcases Int.lt_or_le (dueF c l) t with q | q
    · have := d4 (by omega)
      have := elap_mono (m := dueF c l + 1) (m' := t) hok hst.1 (by omega)
      omega
    · exact q
  · intro g
    have := elap_mono (m := t) (m' := dueF c l) hok hst.1 g
    omega
theorem elap_cut {cals : List CalD} {t : Int} {r : RunD} (h : RunFit t r) : elapF cals (cutF t r).c.ps t = elapF cals r.c.ps t := by
  unfold cutF
  cases hg : r.goes with
  | false => rfl
  | true =>
    rw [if_pos rfl]
    obtain ⟨cl, tl, u, h1, h2, h3, h4⟩ := h.ps
    rw [hg] at h4
    obtain ⟨f, c, rfl, g2, g3, g4⟩ := h4
    show elapF cals (cutP t r.c.ps) t = elapF cals r.c.ps t
    rw [h1, cutP_last, elap_append]
    by_cases e : f = t
    · rw [if_pos e]
      have : elapF cals [(f, -1, c)] t = 0 := by
        subst e
        simp [elapF, pcN, cutEnd]
      omega
    · rw [if_neg e, elap_append]
      have e1 : cutEnd (f, t, c) t = t := by
        unfold cutEnd
        dsimp only
        split <;> omega
      have e2 : cutEnd (f, -1, c) t = t := by unfold cutEnd; simp
      have : elapF cals [(f, t, c)] t = elapF cals [(f, -1, c)] t := by
        simp only [elapF, pcN, e1, e2]
        rfl
      exact congrArg (fun z => elapF cals cl t + z) this
theorem cut_cals {t : Int} {r : RunD} {q : Pc} (hq : q ∈ (cutF t r).c.ps) : ∃ p ∈ r.c.ps, q.2.2 = p.2.2 := by
  unfold cutF at hq
  split at hq
  · have hq : q ∈ cutP t r.c.ps := hq
    unfold cutP at hq
    cases h : r.c.ps.getLast? with
    | none => rw [h] at hq; exact ⟨q, hq, rfl⟩
    | some z =>
      rw [h] at hq
      simp only at hq
      have hz : z ∈ r.c.ps := List.mem_of_getLast? h
      split at hq
      · exact ⟨q, List.dropLast_subset _ hq, rfl⟩
      · rcases List.mem_append.1 hq with g | g
        · exact ⟨q, List.dropLast_subset _ g, rfl⟩
        · rw [List.mem_singleton.1 g]
          exact ⟨z, hz, rfl⟩
  · exact ⟨q, hq, rfl⟩
/-- what a point makes of a clock -/
def Adv (x : PntD) (r r' : RunD) : Prop := r'.c.kind = r.c.kind ∧ r'.c.start = r.c.start ∧ (r.c.fin = 0 → r'.c.fin ≠ 1 ∨ r'.c = (endF' x.at' 1 r).c)
def Fwd (x : PntD) (l l' : List RunD) : Prop := ∀ (i : Nat) (r : RunD), l[i]? = some r → ∃ r', l'[i]? = some r' ∧ Adv x r r'
theorem cutF_same (t : Int) (r : RunD) : (cutF t r).c.kind = r.c.kind ∧ (cutF t r).c.start = r.c.start ∧ (cutF t r).c.fin = r.c.fin := by
  unfold cutF
  split <;> exact ⟨rfl, rfl, rfl⟩
theorem Fwd.each {x : PntD} {l l1 : List RunD} (h : Fwd x l l1) (f : RunD → RunD) (hf : ∀ r, r.c.fin = 0 → (f r).c.kind = r.c.kind ∧ (f r).c.start = r.c.start ∧ (f r).c.fin ≠ 1) : Fwd x l (eachF f l1) := by
  intro i r hr
  obtain ⟨r1, h1, h2, h3, h4⟩ := h i r hr
  refine ⟨_, by unfold eachF; rw [List.getElem?_map, h1]; rfl, ?_⟩
  show Adv x r (if r1.c.fin = 0 then f r1 else r1)
  split
  · rename_i g
    obtain ⟨a, b, c⟩ := hf r1 g
    exact ⟨a.trans h2, b.trans h3, fun _ => .inl c⟩
  · exact ⟨h2, h3, h4⟩
theorem Fwd.more {x : PntD} {l l1 : List RunD} (h : Fwd x l l1) (m : List RunD) : Fwd x l (l1 ++ m) := by
  intro i r hr
  obtain ⟨r1, h1, h2⟩ := h i r hr
  exact ⟨r1, by rw [List.getElem?_append_left (List.getElem?_eq_some_iff.1 h1).1]; exact h1, h2⟩
theorem Fwd.begin {p : PolD} {x : PntD} {l : List RunD} {k : KepD} (h : Fwd x l k.run) (t kind : Int) : Fwd x l (beginF p t kind k).run := by
  unfold beginF
  split
  · exact h
  · exact h.more _
theorem step1_fwd (x : PntD) (k : KepD) : Fwd x k.run (step1 x k).run := by
  intro i r hr
  refine ⟨_, by unfold step1 eachF; rw [List.getElem?_map, hr]; rfl, ?_⟩
  show Adv x r (if r.c.fin = 0 then metF x r else r)
  split
  · rename_i g
    unfold metF
    split
    · exact ⟨(cutF_same _ _).1, (cutF_same _ _).2.1, fun _ => .inl (by show (2 : Int) ≠ 1; decide)⟩
    · split
      · exact ⟨(cutF_same _ _).1, (cutF_same _ _).2.1, fun _ => .inr rfl⟩
      · exact ⟨rfl, rfl, fun _ => .inl (by rw [g]; decide)⟩
  · rename_i g
    exact ⟨rfl, rfl, fun q => absurd q g⟩
theorem chs_same (p : PolD) (t lev : Int) (r : RunD) (h : r.c.fin = 0) : (chsF p t lev r).c.kind = r.c.kind ∧ (chsF p t lev r).c.start = r.c.start ∧ (chsF p t lev r).c.fin ≠ 1 := by
  unfold chsF
  split
  · exact ⟨(cutF_same _ _).1, (cutF_same _ _).2.1, by show (2 : Int) ≠ 1; decide⟩
  · split
    · refine ⟨(cutF_same _ _).1, (cutF_same _ _).2.1, ?_⟩
      show (cutF t r).c.fin ≠ 1
      rw [(cutF_same _ _).2.2, h]; decide
    · refine ⟨rfl, rfl, ?_⟩
      show r.c.fin ≠ 1
      rw [h]; decide
theorem pau_same (b : Bool) (t : Int) (r : RunD) (h : r.c.fin = 0) : (pauF b t r).c.kind = r.c.kind ∧ (pauF b t r).c.start = r.c.start ∧ (pauF b t r).c.fin ≠ 1 := by
  unfold pauF
  split
  · refine ⟨(cutF_same _ _).1, (cutF_same _ _).2.1, ?_⟩
    rw [(cutF_same _ _).2.2, h]; decide
  · split
    · exact ⟨rfl, rfl, by rw [h]; decide⟩
    · refine ⟨rfl, rfl, ?_⟩
      show r.c.fin ≠ 1
      rw [h]; decide
theorem point_fwd (p : PolD) (x : PntD) (b : Option Int) (k : KepD) : Fwd x k.run (pointF p x b k).run := by
  have h2 : Fwd x k.run (step2 p x (step1 x k)).run := by
    unfold step2
    split
    · exact step1_fwd x k
    · exact (step1_fwd x k).each _ (fun r h => chs_same p _ _ r h)
  have h3 : Fwd x k.run (step345 p x b (step2 p x (step1 x k))).run := by
    unfold step345
    split
    · exact h2
    · have h3 : Fwd x k.run (step3 p x b (step2 p x (step1 x k))).run := by
        unfold step3
        split
        · exact h2.begin _ _
        · exact h2
      have h4 : Fwd x k.run (step4 p x (step3 p x b (step2 p x (step1 x k)))).run := by
        unfold step4
        split
        · exact h3.begin _ _
        · exact h3
      unfold step5
      split
      · exact h4.begin _ _
      · exact h4
  exact h3.each _ (fun r h => pau_same _ _ r h)
theorem keepTo_fwd (p : PolD) (l : List PntD) {k : Nat} (h0 : 0 < k) (h : k < l.length) : Fwd l[k] (keepTo p l k).run (keepTo p l (k + 1)).run := by
  rw [keepTo_succ p l k h0 h]
  exact point_fwd p _ _ _
theorem clocks_take (p : PolD) (l : List PntD) (k : Nat) (h : k ≤ l.length) : clocksF p (l.take k) = (keepTo p l k).run.map (·.c) := rfl
theorem hist_take {l : List PntD} (h : HistOk l) (k : Nat) : HistOk (l.take k) := by
  refine ⟨by have := h.few; rw [List.length_take]; omega, fun i hi => ?_, fun i hi => ?_⟩
  · rw [List.getElem_take]
    exact h.pts.each i (by rw [List.length_take] at hi; omega)
  · rw [List.getElem_take, List.getElem_take]
    exact h.pts.order i (by rw [List.length_take] at hi; omega)
/-- THE LAW: what the walk compares -/
structure TopRel (x : PntD) (cals : List CalD) (c d : ClkD) : Prop where
  kind : d.kind = c.kind
  start : d.start = c.start
  stop : c.stop = -1 → d.fin = 1 → d.stop = x.at'
  all : c.stop = -1 → d.fin = 1 → CkAll c cals → CkAll d cals
  kept : c.stop = -1 → d.fin = 1 → CkAll c cals → (elapF cals d.ps d.stop ≤ d.min ↔ d.stop ≤ dueF c cals)
theorem top_rel {p : PolD} (hp : PolOk p) {l : List PntD} (hl : HistOk l) {k : Nat} (h0 : 0 < k) (h : k < l.length) (cals : List CalD) (i : Nat) (c : ClkD) (hc : (clocksF p (l.take k))[i]? = some c) :
    ∃ d, (clocksF p (l.take (k + 1)))[i]? = some d ∧ TopRel l[k] cals c d := by
  rw [clocks_take p l k (by omega), List.getElem?_map] at hc
  obtain ⟨r, hr, rfl⟩ := Option.map_eq_some_iff.1 hc
  obtain ⟨r', hr', a1, a2, a3⟩ := keepTo_fwd p l h0 h i r hr
  have hfit := ((keepTo_fit hp hl k (by omega)).run r (List.mem_of_getElem? hr)).1
  have ht : timeTo l k ≤ l[k].at' := by
    unfold timeTo
    rw [if_neg (by omega), getD_in _ _ (by omega)]
    exact hl.pts.before h h0
  have hfx := hfit.up ht
  have hx := (hl.pts.each k h).at'
  have hok' : ClkOk r'.c := clocks_fit hp (hist_take hl (k + 1)) _ (by rw [clocks_take p l (k + 1) h]; exact List.mem_map_of_mem (List.mem_of_getElem? hr'))
  have hmet : r.c.stop = -1 → r'.c.fin = 1 → r'.c = (endF' l[k].at' 1 r).c := fun hs hf => by
    have h0 : r.c.fin = 0 := by
      rcases hfit.fin with q | ⟨_, q, _, _⟩
      · exact q.1
      · have := hfit.start.1; omega
    rcases a3 h0 with q | q
    · exact absurd hf q
    · exact q
  refine ⟨r'.c, by rw [clocks_take p l (k + 1) h, List.getElem?_map, hr']; rfl, a1, a2, fun hs hf => ?_, fun hs hf ha => ?_, fun hs hf ha => ?_⟩
  · rw [hmet hs hf]; rfl
  · refine ⟨hok', ha.few, ha.cals, fun q hq => ?_⟩
    rw [hmet hs hf] at hq
    obtain ⟨z, hz, e⟩ := cut_cals (t := l[k].at') (r := r) (q := q) hq
    rw [e]
    exact ha.inn z hz
  · have e := hmet hs hf
    have e1 : r'.c.stop = l[k].at' := by rw [e]; rfl
    have e2 : r'.c.min = r.c.min := by
      rw [e]
      show (cutF l[k].at' r).c.min = _
      unfold cutF
      split <;> rfl
    have e3 : elapF cals r'.c.ps l[k].at' = elapF cals r.c.ps l[k].at' := by
      rw [e]
      exact elap_cut hfx
    rw [e1, e2, e3]
    exact due_iff ha hx.2
end Go.Proofs.YtllcgcnebofdoaaGreatDoor
