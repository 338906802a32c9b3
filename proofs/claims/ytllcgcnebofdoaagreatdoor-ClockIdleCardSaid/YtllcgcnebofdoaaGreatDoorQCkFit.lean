/- The clocks of a right history are right clocks. No program in sight. -/
import Derived.Test.YtllcgcnebofdoaaGreatDoorQCkClk
namespace Go.Proofs.YtllcgcnebofdoaaGreatDoor

theorem getD_in {α : Type} (l : List α) (d : α) {i : Nat} (h : i < l.length) : l.getD i d = l[i] := by simp [List.getD, h]
theorem getD_app {α : Type} (l r : List α) (d : α) {i : Nat} (h : i < l.length) : (l ++ r).getD i d = l.getD i d := by rw [getD_in _ _ (by rw [List.length_append]; omega), getD_in _ _ h, List.getElem_append_left h]
/-- pieces that have ended, one behind the other, between a and u -/
def Cl : Int → Int → List Pc → Prop
  | a, u, [] => a ≤ u
  | a, u, p :: r => a ≤ p.1 ∧ p.1 + 1 ≤ p.2.1 ∧ (0 ≤ p.2.2 ∧ p.2.2 ≤ 19) ∧ Cl p.2.1 u r
theorem Cl.le : ∀ {ps : List Pc} {a u : Int}, Cl a u ps → a ≤ u
  | [], _, _, h => h
  | _ :: _, _, _, ⟨h1, h2, _, h4⟩ => by have := Cl.le h4; omega
theorem Cl.up : ∀ {ps : List Pc} {a u v : Int}, Cl a u ps → u ≤ v → Cl a v ps
  | [], _, _, _, h, k => by unfold Cl at *; omega
  | _ :: _, _, _, _, ⟨h1, h2, h3, h4⟩, k => ⟨h1, h2, h3, h4.up k⟩
theorem Cl.snoc : ∀ {ps : List Pc} {a u f g c : Int}, Cl a u ps → u ≤ f → f < g → (0 ≤ c ∧ c ≤ 19) → Cl a g (ps ++ [(f, g, c)])
  | [], _, _, _, _, _, h, h1, h2, h3 => ⟨Int.le_trans h h1, h2, h3, Int.le_refl _⟩
  | _ :: _, _, _, _, _, _, ⟨g1, g2, g3, g4⟩, h1, h2, h3 => ⟨g1, g2, g3, g4.snoc h1 h2 h3⟩
theorem Cl.at : ∀ {ps : List Pc} {a u : Int}, Cl a u ps → ∀ j (hj : j < ps.length), a ≤ ps[j].1 ∧ ps[j].1 + 1 ≤ ps[j].2.1 ∧ ps[j].2.1 ≤ u ∧ (0 ≤ ps[j].2.2 ∧ ps[j].2.2 ≤ 19)
  | p :: r, a, u, ⟨h1, h2, h3, h4⟩, 0, _ => ⟨h1, h2, h4.le, h3⟩
  | p :: r, a, u, ⟨h1, h2, h3, h4⟩, j + 1, hj => by
    obtain ⟨g1, g2, g3, g4⟩ := h4.at j (by simpa using hj)
    simp only [List.getElem_cons_succ]
    exact ⟨by omega, g2, g3, g4⟩
theorem Cl.rise : ∀ {ps : List Pc} {a u : Int}, Cl a u ps → ∀ j (h0 : 0 < j) (hj : j < ps.length), (ps[j - 1]'(by omega)).2.1 ≤ ps[j].1
  | p :: r, a, u, ⟨h1, h2, h3, h4⟩, 1, _, hj => by
    have hr : 0 < r.length := by simpa using hj
    exact (h4.at 0 hr).1
  | p :: r, a, u, ⟨h1, h2, h3, h4⟩, j + 2, _, hj => by
    have := h4.rise (j + 1) (by omega) (by rw [List.length_cons] at hj; omega)
    simpa using this
/-- the piece that goes on -/
def Tl (t u : Int) : Bool → List Pc → Prop
  | false, tl => tl = []
  | true, tl => ∃ f c, tl = [(f, -1, c)] ∧ u ≤ f ∧ f ≤ t ∧ (0 ≤ c ∧ c ≤ 19)
structure RunFit (t : Int) (r : RunD) : Prop where
  kind : 1 ≤ r.c.kind ∧ r.c.kind ≤ 3
  lev : 0 ≤ r.c.lev ∧ r.c.lev ≤ 19
  min : 0 ≤ r.c.min ∧ r.c.min ≤ 100000
  start : 0 ≤ r.c.start ∧ r.c.start ≤ t
  cal : 0 ≤ r.tgt.2.2 ∧ r.tgt.2.2 ≤ 19
  fin : (r.c.fin = 0 ∧ r.c.stop = -1) ∨ ((r.c.fin = 1 ∨ r.c.fin = 2) ∧ r.c.start ≤ r.c.stop ∧ r.c.stop ≤ t ∧ r.goes = false)
  ps : ∃ cl tl u, r.c.ps = cl ++ tl ∧ Cl r.c.start u cl ∧ u ≤ (if r.c.fin = 0 then t else r.c.stop) ∧ Tl t u r.goes tl
theorem RunFit.up {t t' : Int} {r : RunD} (h : RunFit t r) (ht : t ≤ t') : RunFit t' r := by
  refine ⟨h.kind, h.lev, h.min, ⟨h.start.1, Int.le_trans h.start.2 ht⟩, h.cal, ?_, ?_⟩
  · rcases h.fin with q | ⟨a, b, c, d⟩
    · exact .inl q
    · exact .inr ⟨a, b, Int.le_trans c ht, d⟩
  · obtain ⟨cl, tl, u, h1, h2, h3, h4⟩ := h.ps
    refine ⟨cl, tl, u, h1, h2, ?_, ?_⟩
    · split <;> rename_i q
      · rw [if_pos q] at h3; omega
      · rw [if_neg q] at h3; exact h3
    · cases hg : r.goes with
      | false => rw [hg] at h4; exact h4
      | true =>
        rw [hg] at h4
        obtain ⟨f, c, g1, g2, g3, g4⟩ := h4
        exact ⟨f, c, g1, g2, Int.le_trans g3 ht, g4⟩
theorem RunFit.goes0 {t : Int} {r : RunD} (h : RunFit t r) (hg : r.goes = true) : r.c.fin = 0 := by
  rcases h.fin with q | ⟨_, _, _, d⟩
  · exact q.1
  · rw [hg] at d; cases d
theorem cutF_fit {t : Int} {r : RunD} (h : RunFit t r) : RunFit t (cutF t r) ∧ (cutF t r).c.ps.length ≤ r.c.ps.length ∧ (cutF t r).goes = false ∧ (cutF t r).c.fin = r.c.fin := by
  unfold cutF
  cases hg : r.goes with
  | false => exact ⟨h, Nat.le_refl _, hg, rfl⟩
  | true =>
    have hf := h.goes0 hg
    rw [if_pos rfl]
    refine ⟨⟨h.kind, h.lev, h.min, h.start, h.cal, ?_, ?_⟩, cutP_len _ _, rfl, rfl⟩
    · rcases h.fin with q | ⟨a, b, c, d⟩
      · exact .inl q
      · exact .inr ⟨a, b, c, rfl⟩
    · obtain ⟨cl, tl, u, h1, h2, h3, h4⟩ := h.ps
      rw [hg] at h4
      obtain ⟨f, c, rfl, g2, g3, g4⟩ := h4
      show ∃ cl tl u, cutP t r.c.ps = cl ++ tl ∧ Cl r.c.start u cl ∧ u ≤ (if r.c.fin = 0 then t else r.c.stop) ∧ Tl t u false tl
      rw [h1, cutP_last, if_pos hf]
      by_cases e : f = t
      · rw [if_pos e]
        exact ⟨cl, [], u, by simp, h2, by omega, rfl⟩
      · rw [if_neg e]
        exact ⟨cl ++ [(f, t, c)], [], t, by simp, h2.snoc g2 (by omega) g4, Int.le_refl _, rfl⟩
theorem onF_fit {t : Int} {r : RunD} (h : RunFit t r) (hg : r.goes = false) (hf : r.c.fin = 0) : RunFit t (onF t r) ∧ (onF t r).c.ps.length = r.c.ps.length + 1 ∧ (onF t r).goes = true ∧ (onF t r).c.fin = 0 := by
  refine ⟨⟨h.kind, h.lev, h.min, h.start, h.cal, ?_, ?_⟩, by simp [onF], rfl, hf⟩
  · rcases h.fin with q | ⟨a, b, c, d⟩
    · exact .inl q
    · rw [hf] at a; omega
  · obtain ⟨cl, tl, u, h1, h2, h3, h4⟩ := h.ps
    rw [hg] at h4
    have e : tl = [] := h4
    subst e
    rw [if_pos hf] at h3
    refine ⟨cl, [(t, -1, r.tgt.2.2)], u, ?_, h2, ?_, t, r.tgt.2.2, rfl, h3, Int.le_refl _, h.cal⟩
    · show r.c.ps ++ _ = _
      rw [h1]; simp
    · show u ≤ (if r.c.fin = 0 then t else r.c.stop)
      rw [if_pos hf]; exact h3
theorem endF_fit {t how : Int} {r : RunD} (h : RunFit t r) (hf : r.c.fin = 0) (hh : how = 1 ∨ how = 2) : RunFit t (endF' t how r) ∧ (endF' t how r).c.ps.length ≤ r.c.ps.length := by
  obtain ⟨c1, c2, c3, c4⟩ := cutF_fit h
  refine ⟨⟨c1.kind, c1.lev, c1.min, c1.start, c1.cal, .inr ⟨hh, c1.start.2, Int.le_refl _, c3⟩, ?_⟩, c2⟩
  obtain ⟨cl, tl, u, h1, h2, h3, h4⟩ := c1.ps
  rw [c4, if_pos hf] at h3
  refine ⟨cl, tl, u, h1, h2, ?_, h4⟩
  show u ≤ (if how = 0 then t else t)
  split <;> exact h3
theorem setT_fit {t lev : Int} {g : TgtD} {r : RunD} (h : RunFit t r) (hg : TgtOne g) (hl : 0 ≤ lev ∧ lev ≤ 19) : RunFit t (setT g lev r) :=
  ⟨h.kind, hl, hg.2.1, h.start, hg.2.2, h.fin, h.ps⟩
theorem tgtFind_one {kind : Int} : ∀ {l : List TgtD} {g : TgtD}, tgtFind kind l = some g → g ∈ l ∧ g.1 = kind
  | [], _, h => by cases h
  | x :: r, g, h => by
    unfold tgtFind at h
    split at h
    · rename_i q
      cases h
      exact ⟨List.mem_cons_self, q⟩
    · obtain ⟨a, b⟩ := tgtFind_one h
      exact ⟨List.mem_cons_of_mem _ a, b⟩
theorem tgtOf_one {p : PolD} (hp : PolOk p) {lev kind : Int} (hl : lev < (p.levs.length : Int)) {g : TgtD} (h : tgtOf p lev kind = some g) : TgtOne g ∧ g.1 = kind ∧ 0 ≤ lev ∧ lev ≤ 19 := by
  unfold tgtOf at h
  split at h
  · cases h
  · rename_i q
    have hn : lev.toNat < p.levs.length := by omega
    obtain ⟨a, b⟩ := tgtFind_one h
    rw [getD_in _ _ hn] at a
    have hL := (hp.levs.each _ (List.getElem_mem hn)).2
    obtain ⟨j, hj, rfl⟩ := List.mem_iff_getElem.1 a
    have := hp.few
    exact ⟨hL.tgts.each j hj, b, by omega, by omega⟩
theorem chsF_fit {p : PolD} (hp : PolOk p) {t lev : Int} (hl : lev < (p.levs.length : Int)) {r : RunD} (h : RunFit t r) (hf : r.c.fin = 0) :
    RunFit t (chsF p t lev r) ∧ (chsF p t lev r).c.ps.length ≤ r.c.ps.length + (if (chsF p t lev r).goes then 1 else 0) := by
  unfold chsF
  split
  · obtain ⟨a, b⟩ := endF_fit (how := 2) h hf (.inr rfl)
    exact ⟨a, Nat.le_trans b (Nat.le_add_right _ _)⟩
  · rename_i g hg
    obtain ⟨g1, g2, g3⟩ := tgtOf_one hp hl hg
    split
    · obtain ⟨c1, c2, c3, c4⟩ := cutF_fit h
      have s := setT_fit c1 g1 g3
      obtain ⟨o1, o2, o3, o4⟩ := onF_fit s c3 (c4.trans hf)
      refine ⟨o1, ?_⟩
      rw [o2, o3, if_pos rfl]
      exact Nat.succ_le_succ c2
    · exact ⟨setT_fit h g1 g3, Nat.le_add_right _ _⟩
theorem metF_fit {x : PntD} {r : RunD} (h : RunFit x.at' r) (hf : r.c.fin = 0) : RunFit x.at' (metF x r) ∧ (metF x r).c.ps.length ≤ r.c.ps.length := by
  unfold metF
  split
  · exact endF_fit h hf (.inr rfl)
  · split
    · exact endF_fit h hf (.inl rfl)
    · exact ⟨h, Nat.le_refl _⟩
theorem pauF_fit {b : Bool} {t : Int} {r : RunD} {n : Nat} (h : RunFit t r) (hf : r.c.fin = 0) (hn : r.c.ps.length ≤ n + (if r.goes then 1 else 0)) : RunFit t (pauF b t r) ∧ (pauF b t r).c.ps.length ≤ n + 1 := by
  unfold pauF
  split
  · obtain ⟨c1, c2, _⟩ := cutF_fit h
    refine ⟨c1, Nat.le_trans c2 (Nat.le_trans hn ?_)⟩
    split <;> omega
  · cases hg : r.goes with
    | true =>
      rw [hg] at hn
      exact ⟨h, hn⟩
    | false =>
      rw [hg] at hn
      obtain ⟨o1, o2, _⟩ := onF_fit h hg hf
      refine ⟨o1, ?_⟩
      have o3 : (onF t r).c.ps.length ≤ n + 1 := by rw [o2]; exact Nat.succ_le_succ hn
      exact o3
theorem mem_each {f : RunD → RunD} {l : List RunD} {r : RunD} (h : r ∈ eachF f l) : ∃ q ∈ l, (q.c.fin = 0 ∧ r = f q) ∨ (q.c.fin ≠ 0 ∧ r = q) := by
  obtain ⟨q, hq, rfl⟩ := List.mem_map.1 h
  refine ⟨q, hq, ?_⟩
  split <;> rename_i g
  · exact .inl ⟨g, rfl⟩
  · exact .inr ⟨g, rfl⟩
/-- a keeper between points -/
structure KepFit (p : PolD) (t : Int) (n : Nat) (k : KepD) : Prop where
  lev : k.lev < (p.levs.length : Int)
  run : ∀ r ∈ k.run, RunFit t r ∧ r.c.ps.length ≤ n
/-- a keeper while a point is taken -/
structure KepMid (p : PolD) (t : Int) (n : Nat) (k : KepD) : Prop where
  lev : k.lev < (p.levs.length : Int)
  run : ∀ r ∈ k.run, RunFit t r ∧ r.c.ps.length ≤ n + (if r.goes then 1 else 0)
theorem KepFit.mid {p : PolD} {t : Int} {n : Nat} {k : KepD} (h : KepFit p t n k) : KepMid p t n k :=
  ⟨h.lev, fun r hr => ⟨(h.run r hr).1, Nat.le_trans (h.run r hr).2 (Nat.le_add_right _ _)⟩⟩
theorem KepFit.up {p : PolD} {t t' : Int} {n : Nat} {k : KepD} (h : KepFit p t n k) (ht : t ≤ t') : KepFit p t' n k := ⟨h.lev, fun r hr => ⟨(h.run r hr).1.up ht, (h.run r hr).2⟩⟩
theorem step1_fit {p : PolD} {n : Nat} {k : KepD} {x : PntD} (h : KepFit p x.at' n k) : KepFit p x.at' n (step1 x k) := by
  refine ⟨h.lev, fun r hr => ?_⟩
  obtain ⟨q, hq, ⟨g, rfl⟩ | ⟨g, rfl⟩⟩ := mem_each hr
  · obtain ⟨a, b⟩ := metF_fit (h.run q hq).1 g
    exact ⟨a, Nat.le_trans b (h.run q hq).2⟩
  · exact h.run r hq
theorem step2_fit {p : PolD} (hp : PolOk p) {n : Nat} {k : KepD} {x : PntD} (h : KepFit p x.at' n k) : KepMid p x.at' n (step2 p x k) := by
  unfold step2
  split
  · exact h.mid
  · have hl := (levOf_range p x.prio x.vals).2
    refine ⟨hl, fun r hr => ?_⟩
    obtain ⟨q, hq, ⟨g, rfl⟩ | ⟨g, rfl⟩⟩ := mem_each hr
    · obtain ⟨a, b⟩ := chsF_fit hp hl (h.run q hq).1 g
      exact ⟨a, Nat.le_trans b (Nat.add_le_add_right (h.run q hq).2 _)⟩
    · exact h.mid.run r hq
theorem begin_fit {p : PolD} (hp : PolOk p) {t kind : Int} (h0 : 0 ≤ t) (hk : 1 ≤ kind ∧ kind ≤ 3) {n : Nat} {k : KepD} (h : KepMid p t n k) : KepMid p t n (beginF p t kind k) := by
  unfold beginF
  split
  · exact h
  · rename_i g hg
    obtain ⟨g1, g2, g3⟩ := tgtOf_one hp h.lev hg
    refine ⟨h.lev, fun r hr => ?_⟩
    rcases List.mem_append.1 hr with q | q
    · exact h.run r q
    · rw [List.mem_singleton.1 q]
      exact ⟨⟨hk, g3, g1.2.1, ⟨h0, Int.le_refl _⟩, g1.2.2, .inl ⟨rfl, rfl⟩, [], [], t, rfl, Int.le_refl _, Int.le_refl _, rfl⟩, Nat.zero_le _⟩
theorem step345_fit {p : PolD} (hp : PolOk p) {n : Nat} {k : KepD} {x : PntD} (h0 : 0 ≤ x.at') (b : Option Int) (h : KepMid p x.at' n k) : KepMid p x.at' n (step345 p x b k) := by
  unfold step345
  split
  · exact h
  · have h3 : KepMid p x.at' n (step3 p x b k) := by
      unfold step3
      split
      · exact begin_fit hp h0 (by decide) h
      · exact h
    have h4 : KepMid p x.at' n (step4 p x (step3 p x b k)) := by
      unfold step4
      split
      · exact begin_fit hp h0 (by decide) h3
      · exact h3
    unfold step5
    split
    · exact begin_fit hp h0 (by decide) h4
    · exact h4
theorem step6_fit {p : PolD} {n : Nat} {k : KepD} {x : PntD} (h : KepMid p x.at' n k) : KepFit p x.at' (n + 1) (step6 p x k) := by
  refine ⟨h.lev, fun r hr => ?_⟩
  obtain ⟨q, hq, ⟨g, rfl⟩ | ⟨g, rfl⟩⟩ := mem_each hr
  · exact pauF_fit (h.run q hq).1 g (h.run q hq).2
  · refine ⟨(h.run r hq).1, Nat.le_trans (h.run r hq).2 ?_⟩
    split <;> omega
theorem point_fit {p : PolD} (hp : PolOk p) {t : Int} {n : Nat} {k : KepD} {x : PntD} (h0 : 0 ≤ x.at') (ht : t ≤ x.at') (b : Option Int) (h : KepFit p t n k) : KepFit p x.at' (n + 1) (pointF p x b k) :=
  step6_fit (step345_fit hp h0 b (step2_fit hp (step1_fit (h.up ht))))
/-- the time of the last of the first i points -/
def timeTo (l : List PntD) (i : Nat) : Int := if i = 0 then 0 else (l.getD (i - 1) default).at'
theorem keepTo_fit {p : PolD} (hp : PolOk p) {l : List PntD} (hl : HistOk l) : ∀ i, i ≤ l.length → KepFit p (timeTo l i) i (keepTo p l i)
  | 0, _ => ⟨by show (-1 : Int) < _; omega, fun r h => absurd h (by simp [keepTo, keepFrom])⟩
  | i + 1, h => by
    have ih := keepTo_fit hp hl i (by omega)
    have hi : i < l.length := h
    have e : timeTo l (i + 1) = l[i].at' := by unfold timeTo; rw [if_neg (by omega)]; simp [List.getD, hi]
    have h0 := (hl.pts.each i hi).at'.1
    have ht : timeTo l i ≤ l[i].at' := by
      by_cases q : i = 0
      · subst q
        exact h0
      · have := hl.pts.before hi (by omega)
        have e2 : timeTo l i = (l[i - 1]'(by omega)).at' := by unfold timeTo; rw [if_neg q, getD_in _ _ (by omega)]
        rw [e2]
        exact this
    rw [e]
    by_cases q : i = 0
    · subst q
      rw [keepTo_one p l hi]
      exact point_fit hp h0 ht none ih
    · rw [keepTo_succ p l i (by omega) hi]
      exact point_fit hp h0 ht _ ih
theorem timeTo_le {l : List PntD} (hl : HistOk l) {i : Nat} (hi : i ≤ l.length) : timeTo l i ≤ 3000000 := by
  unfold timeTo
  split
  · decide
  · rw [getD_in _ _ (by omega)]
    exact (hl.pts.each _ (by omega)).at'.2
theorem RunFit.ok {t : Int} {r : RunD} (h : RunFit t r) (ht : t ≤ 3000000) (hn : r.c.ps.length ≤ 6000) : ClkOk r.c := by
  have h1 := h.start
  obtain ⟨cl, tl, u, e, hc, hu, htl⟩ := h.ps
  have hfs : (r.c.fin = 0 ∧ r.c.stop = -1) ∨ ((r.c.fin = 1 ∨ r.c.fin = 2) ∧ r.c.start ≤ r.c.stop ∧ r.c.stop ≤ t ∧ r.goes = false) := h.fin
  refine ⟨⟨h.kind, h.lev, h.min, ⟨h1.1, by omega⟩, by omega, by omega⟩, by omega, hn, fun j hj => ?_⟩
  have hu' : u ≤ 3000000 := by
    split at hu <;> omega
  unfold Good GoodAt
  have e0 : ∀ i, i < cl.length → r.c.ps.getD i (0, 0, 0) = cl.getD i (0, 0, 0) := fun i hi => by
    rw [e, getD_app _ _ _ hi]
  have hc0 := hc.le
  by_cases hj' : j < cl.length
  · have g := hc.at j hj'
    have ej : r.c.ps.getD j (0, 0, 0) = cl[j] := by rw [e0 j hj', getD_in _ _ hj']
    rw [ej]
    refine ⟨by omega, g.2.2.2, .inr (by omega), fun q => by omega, fun q => ?_, fun q => ?_⟩
    · rw [if_neg (by omega)] at hu; omega
    · rw [e0 (j - 1) (by omega), getD_in _ _ (by omega)]
      exact hc.rise j q hj'
  · cases hg : r.goes with
    | false =>
      rw [hg] at htl
      have e2 : tl = [] := htl
      rw [e, e2, List.append_nil] at hj
      exact absurd hj hj'
    | true =>
      rw [hg] at htl
      obtain ⟨f, c, rfl, g2, g3, g4⟩ := htl
      have hjl : j = cl.length := by rw [e, List.length_append] at hj; simp at hj; omega
      have hf0 := h.goes0 hg
      have hst : r.c.stop = -1 := by omega
      have ej : r.c.ps.getD j (0, 0, 0) = (f, -1, c) := by rw [e, hjl]; simp [List.getD]
      have hln : r.c.ps.length = cl.length + 1 := by rw [e]; simp
      rw [ej]
      refine ⟨by constructor <;> dsimp only <;> omega, g4, .inl rfl, fun _ => ⟨by omega, hst⟩, fun q => absurd hst q, fun q => ?_⟩
      rw [e0 (j - 1) (by omega), getD_in _ _ (by omega)]
      have := (hc.at (j - 1) (by omega)).2.2.1
      dsimp only
      omega
/-- THE CLOCKS OF A RIGHT HISTORY ARE RIGHT -/
theorem clocks_fit {p : PolD} (hp : PolOk p) {l : List PntD} (hl : HistOk l) : ∀ c ∈ clocksF p l, ClkOk c := by
  intro c hc
  rw [← keepTo_all] at hc
  obtain ⟨r, hr, rfl⟩ := List.mem_map.1 hc
  obtain ⟨a, b⟩ := (keepTo_fit hp hl l.length (Nat.le_refl _)).run r hr
  have := hl.few
  exact a.ok (timeTo_le hl (Nat.le_refl _)) (by omega)
end Go.Proofs.YtllcgcnebofdoaaGreatDoor

/- A point at which nothing happens changes no clock. No program in sight. -/
namespace Go.Proofs.YtllcgcnebofdoaaGreatDoor

theorem keepFrom_append (p : PolD) : ∀ (l1 l2 : List PntD) (b : Option Int) (k : KepD), keepFrom p b k (l1 ++ l2) = keepFrom p (lastSt b l1) (keepFrom p b k l1) l2
  | [], _, _, _ => rfl
  | y :: r, l2, b, k => by
    show keepFrom p (some y.status) (pointF p y b k) (r ++ l2) = _
    rw [keepFrom_append p r]
    have e : lastSt (some y.status) r = lastSt b (y :: r) := by
      unfold lastSt
      cases r with
      | nil => rfl
      | cons z s => rw [List.getLast?_cons_cons]; rw [List.getLast?_eq_some_getLast (by simp : z :: s ≠ [])]
    rw [e]
    rfl
theorem each_same {f : RunD → RunD} {l : List RunD} (h : ∀ r ∈ l, r.c.fin = 0 → f r = r) : eachF f l = l := by
  unfold eachF
  have : ∀ r ∈ l, (if r.c.fin = 0 then f r else r) = id r := fun r hr => by
    split
    · rename_i g; exact h r hr g
    · rfl
  rw [List.map_congr_left this, List.map_id]
/-- a keeper behind a point -/
structure Aft (p : PolD) (x : PntD) (k : KepD) : Prop where
  lev : k.lev = levOf p x.prio x.vals
  goes : ∀ r ∈ k.run, r.c.fin = 0 → r.goes = !(p.pauses.contains x.status)
  solve : overB x = true → ∀ r ∈ k.run, r.c.fin = 0 → r.c.kind ≠ 3
theorem cut_self {t : Int} {r : RunD} (h : r.goes = false) : cutF t r = r := by unfold cutF; rw [h]; rfl
/-- a point that does nothing -/
theorem idle_point {p : PolD} {x q : PntD} {k : KepD} (h : Aft p x k) (hs : q.status = x.status) (hp : q.prio = x.prio) (hv : q.vals = x.vals) (h2 : q.kind ≠ 2) (h7 : q.kind ≠ 7) : pointF p q (some x.status) k = k := by
  have e1 : step1 q k = k := by
    unfold step1
    rw [each_same (fun r hr hf => ?_)]
    unfold metF
    rw [if_neg (fun g => h7 g.1), if_neg]
    rintro (⟨g1, g2⟩ | ⟨g1, g2⟩)
    · have : overB x = true := by unfold overB at *; rw [hs] at g2; exact g2
      exact h.solve this r hr hf g1
    · unfold ansB at g2
      simp at g2
      exact h2 g2.1
  have e2 : step2 p q k = k := by
    unfold step2
    rw [if_pos (by rw [hp, hv, h.lev])]
  have e3 : step345 p q (some x.status) k = k := by
    unfold step345
    split
    · rfl
    · rename_i g6
      have f3 : step3 p q (some x.status) k = k := by unfold step3; rw [if_neg (by simp)]
      have f4 : step4 p q k = k := by unfold step4; rw [if_neg (fun g => h2 g.1.1)]
      rw [f3, f4]
      unfold step5
      rw [if_neg]
      rintro ⟨⟨g1, g2⟩, _⟩
      unfold againB at g1
      simp at g1
      rw [← hs] at g1
      rcases g1 with g1 | g1
      · exact g2 g1
      · exact g6 g1
  have e4 : step6 p q k = k := by
    unfold step6
    rw [each_same (fun r hr hf => ?_)]
    have hg := h.goes r hr hf
    unfold pauF
    rw [hs]
    cases hb : p.pauses.contains x.status with
    | true =>
      rw [hb] at hg
      rw [if_pos rfl]
      exact cut_self hg
    | false =>
      rw [hb] at hg
      rw [if_neg (by simp), if_pos (by rw [hg]; rfl)]
  unfold pointF
  rw [e1, e2, e3, e4]
theorem begin_lev (p : PolD) (t kind : Int) (k : KepD) : (beginF p t kind k).lev = k.lev := by
  unfold beginF
  split <;> rfl
theorem begin_mem {p : PolD} {t kind : Int} {k : KepD} {r : RunD} (h : r ∈ (beginF p t kind k).run) : r ∈ k.run ∨ r.c.kind = kind := by
  unfold beginF at h
  split at h
  · exact .inl h
  · rcases List.mem_append.1 h with q | q
    · exact .inl q
    · rw [List.mem_singleton.1 q]; exact .inr rfl
theorem step345_lev (p : PolD) (x : PntD) (b : Option Int) (k : KepD) : (step345 p x b k).lev = k.lev := by
  unfold step345
  split
  · rfl
  · unfold step5 step4 step3
    split <;> split <;> split <;> simp [begin_lev]
theorem cutF_kind (t : Int) (r : RunD) : (cutF t r).c.kind = r.c.kind ∧ (cutF t r).c.fin = r.c.fin := by
  unfold cutF
  split <;> exact ⟨rfl, rfl⟩
theorem chsF_kind (p : PolD) (t lev : Int) (r : RunD) : (chsF p t lev r).c.kind = r.c.kind := by
  unfold chsF
  split
  · exact (cutF_kind t r).1
  · split
    · exact (cutF_kind t r).1
    · rfl
theorem pauF_keeps (b : Bool) (t : Int) (r : RunD) : (pauF b t r).c.kind = r.c.kind ∧ (pauF b t r).c.fin = r.c.fin ∧ (pauF b t r).goes = !b := by
  unfold pauF
  cases b with
  | true =>
    rw [if_pos rfl]
    refine ⟨(cutF_kind t r).1, (cutF_kind t r).2, ?_⟩
    unfold cutF
    split
    · rfl
    · rename_i g; simpa using g
  | false =>
    rw [if_neg (by simp)]
    split
    · rename_i g; exact ⟨rfl, rfl, g⟩
    · exact ⟨rfl, rfl, rfl⟩
theorem aft_point (p : PolD) (x : PntD) (b : Option Int) (k : KepD) : Aft p x (pointF p x b k) := by
  have l2 : (step2 p x (step1 x k)).lev = levOf p x.prio x.vals := by
    unfold step2
    split
    · rename_i g; exact g.symm
    · rfl
  refine ⟨(step345_lev p x b _).trans l2, fun r hr hf => ?_, fun ho r hr hf => ?_⟩
  · obtain ⟨q, hq, ⟨g, rfl⟩ | ⟨g, rfl⟩⟩ := mem_each hr
    · exact (pauF_keeps _ _ _).2.2
    · exact absurd hf g
  · -- no clock of the third kind goes behind a point that is over
    have s1 : ∀ r ∈ (step1 x k).run, r.c.fin = 0 → r.c.kind ≠ 3 := fun r hr hf h3 => by
      obtain ⟨q, hq, ⟨g, rfl⟩ | ⟨g, rfl⟩⟩ := mem_each hr
      · unfold metF at hf h3
        by_cases a1 : x.kind = 7 ∧ x.status = 6
        · rw [if_pos a1] at hf
          exact absurd hf (by show (2 : Int) ≠ 0; decide)
        · rw [if_neg a1] at hf h3
          by_cases a2 : (q.c.kind = 3 ∧ overB x = true) ∨ (q.c.kind ≠ 3 ∧ ansB x = true)
          · rw [if_pos a2] at hf
            exact absurd hf (by show (1 : Int) ≠ 0; decide)
          · rw [if_neg a2] at h3
            exact a2 (.inl ⟨h3, ho⟩)
      · exact g hf
    have s2 : ∀ r ∈ (step2 p x (step1 x k)).run, r.c.fin = 0 → r.c.kind ≠ 3 := fun r hr hf => by
      unfold step2 at hr
      split at hr
      · exact s1 r hr hf
      · obtain ⟨q, hq, ⟨g, rfl⟩ | ⟨g, rfl⟩⟩ := mem_each hr
        · rw [chsF_kind]
          exact s1 q hq g
        · exact absurd hf g
    have s3 : ∀ r ∈ (step345 p x b (step2 p x (step1 x k))).run, r.c.fin = 0 → r.c.kind ≠ 3 := fun r hr hf => by
      unfold step345 at hr
      split at hr
      · exact s2 r hr hf
      · rename_i g6
        have h5 : x.status = 5 := by
          unfold overB at ho
          simp at ho
          rcases ho with q | q
          · exact q
          · exact absurd q g6
        unfold step5 at hr
        rw [if_neg (fun q => q.1.2 h5)] at hr
        have m3 : ∀ r ∈ (step3 p x b (step2 p x (step1 x k))).run, r.c.fin = 0 → r.c.kind ≠ 3 := fun r hr hf => by
          unfold step3 at hr
          split at hr
          · rcases begin_mem hr with q | q
            · exact s2 r q hf
            · rw [q]; decide
          · exact s2 r hr hf
        unfold step4 at hr
        split at hr
        · rcases begin_mem hr with q | q
          · exact m3 r q hf
          · rw [q]; decide
        · exact m3 r hr hf
    obtain ⟨q, hq, ⟨g, rfl⟩ | ⟨g, rfl⟩⟩ := mem_each hr
    · rw [(pauF_keeps _ _ _).1]
      exact s3 q hq g
    · exact s3 _ hq hf
/-- A POINT AT WHICH NOTHING HAPPENS CHANGES NO CLOCK -/
theorem idle_law (p : PolD) (l : List PntD) (i : Nat) (h0 : 0 < i) (hi : i ≤ l.length) (q : PntD) (hs : q.status = (l[i - 1]'(by omega)).status) (hp : q.prio = (l[i - 1]'(by omega)).prio) (hv : q.vals = (l[i - 1]'(by omega)).vals)
    (h2 : q.kind ≠ 2) (h7 : q.kind ≠ 7) : clocksF p (l.take i ++ q :: l.drop i) = clocksF p l := by
  have hlt : i - 1 < l.length := by omega
  have et : l.take i = l.take (i - 1) ++ [l[i - 1]] := by
    have := List.take_succ_eq_append_getElem hlt
    rwa [show i - 1 + 1 = i by omega] at this
  have el : lastSt none (l.take i) = some l[i - 1].status := by
    unfold lastSt
    rw [et, List.getLast?_concat]
  have hA : Aft p l[i - 1] (keepFrom p none ⟨-1, []⟩ (l.take i)) := by
    rw [et, keepFrom_snoc]
    exact aft_point p _ _ _
  unfold clocksF
  rw [keepFrom_append, el]
  show (keepFrom p (some q.status) (pointF p q (some l[i - 1].status) (keepFrom p none ⟨-1, []⟩ (l.take i))) (l.drop i)).run.map (·.c) = _
  rw [idle_point hA hs hp hv h2 h7, hs, ← el, ← keepFrom_append, List.take_append_drop]
end Go.Proofs.YtllcgcnebofdoaaGreatDoor
