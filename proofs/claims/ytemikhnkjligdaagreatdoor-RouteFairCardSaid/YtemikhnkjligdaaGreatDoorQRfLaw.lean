/- The plain law of RouteFair: what is given out, and what a second round of it does. No program in sight. -/
import Derived.Test.YtemikhnkjligdaaGreatDoorQNum
namespace Go.Proofs.YtemikhnkjligdaaGreatDoor

/-- work; what is held; a step -/
structure WkD where
  ticket : Int
  weight : Int
  urg : Int
  since : Int
  former : Int
  needs : List Skl
structure HdD where
  ticket : Int
  no : Int
  weight : Int
  since : Int
deriving DecidableEq
structure StD where
  after : Int
  lower : Int
  any : Bool
def HdOne (ps : List PerD) (h : HdD) : Prop := (1 ≤ h.ticket ∧ h.ticket ≤ 400) ∧ (∃ p ∈ ps, p.no = h.no) ∧ (1 ≤ h.weight ∧ h.weight ≤ 20) ∧ 0 ≤ h.since ∧ h.since ≤ 3000000
def HdRise (a b : HdD) : Prop := a.ticket < b.ticket
def HdFine (ps : List PerD) (l : List HdD) : Prop := l.length ≤ 400 ∧ Lst (HdOne ps) HdRise l
def wtN (l : List HdD) (no : Int) : Int := ((l.filter fun h => h.no = no).map (·.weight)).sum
theorem wtN_nil (no : Int) : wtN [] no = 0 := rfl
theorem wtN_append (a b : List HdD) (no : Int) : wtN (a ++ b) no = wtN a no + wtN b no := by
  unfold wtN
  rw [List.filter_append, List.map_append, List.sum_append]
theorem wtN_one (h : HdD) (no : Int) : wtN [h] no = if h.no = no then h.weight else 0 := by
  unfold wtN
  by_cases e : h.no = no <;> simp [e]
theorem wtN_cons (h : HdD) (l : List HdD) (no : Int) : wtN (h :: l) no = (if h.no = no then h.weight else 0) + wtN l no := by
  rw [← wtN_one, ← wtN_append]
  rfl
theorem wtN_perm {a b : List HdD} (h : a.Perm b) (no : Int) : wtN a no = wtN b no := by
  induction h with
  | nil => rfl
  | cons x _ ih => rw [wtN_cons, wtN_cons, ih]
  | swap x y l => rw [wtN_cons, wtN_cons, wtN_cons, wtN_cons]; omega
  | trans _ _ h1 h2 => rw [h1, h2]
theorem rise_lt {P : HdD → Prop} {l : List HdD} (h : Lst P HdRise l) : l.Pairwise fun a b => a.ticket < b.ticket := by
  rw [List.pairwise_iff_getElem]
  intro i j hi hj hij
  induction j with
  | zero => omega
  | succ j ih =>
    have h1 := h.order j hj
    by_cases e : i = j
    · subst e; exact h1
    · have := ih (by omega) (by omega)
      exact Int.lt_trans this h1
theorem lt_lst {P : HdD → Prop} {l : List HdD} (h : l.Pairwise fun a b => a.ticket < b.ticket) (hp : ∀ x ∈ l, P x) : Lst P HdRise l :=
  ⟨fun i hi => hp _ (List.getElem_mem hi), fun i hi => (List.pairwise_iff_getElem.1 h) i (i + 1) (by omega) hi (by omega)⟩
/-- strictly rising numbers between 1 and n are at most n -/
theorem rise_few : ∀ (l : List Int) (lo : Int), l.Pairwise (· < ·) → ∀ n, (∀ x ∈ l, lo < x ∧ x ≤ n) → lo ≤ n → (l.length : Int) ≤ n - lo
  | [], lo, _, n, _, h => by simp; omega
  | x :: l, lo, hs, n, h, hl => by
    have h1 := List.pairwise_cons.1 hs
    have hx := h x List.mem_cons_self
    have := rise_few l x h1.2 n (fun y hy => ⟨h1.1 y hy, (h y (List.mem_cons_of_mem _ hy)).2⟩) hx.2
    rw [List.length_cons]
    omega
/-- two strictly rising lists with the same members are the same -/
theorem rise_same {a b : List HdD} (ha : a.Pairwise fun x y => x.ticket < y.ticket) (hb : b.Pairwise fun x y => x.ticket < y.ticket) (h : a.Perm b) : a = b :=
  List.Perm.eq_of_pairwise (le := fun x y : HdD => x.ticket < y.ticket) (fun x y _ _ h1 h2 => absurd h1 (by omega)) ha hb h

/-- one who may take work -/
def canF (duty : PerD → Bool) (nd : WkD → List Skl) (ab : PerD → List Skl → Bool) (ps : List PerD) (l : List HdD) (w : WkD) (p : PerD) : Prop :=
  p ∈ ps ∧ duty p = true ∧ w.weight ≤ p.cap - wtN l p.no ∧ ab p (nd w) = true
structure Asgn (can : List HdD → WkD → PerD → Prop) (ps : List PerD) (m : Int) (held : List HdD) (ws : List WkD) (out : List HdD) (left : List WkD) : Prop where
  tick : (out.map (·.ticket) ++ left.map (·.ticket)).Perm (ws.map (·.ticket))
  sub : left.Sublist ws
  good : ∀ h ∈ out, (∃ p ∈ ps, p.no = h.no) ∧ (1 ≤ h.weight ∧ h.weight ≤ 20) ∧ h.since = m
  room : ∀ p ∈ ps, wtN (held ++ out) p.no = wtN held p.no ∨ wtN (held ++ out) p.no ≤ p.cap
  none : ∀ w ∈ left, ∀ p, ¬ can (held ++ out) w p
  idle : (∀ w ∈ ws, ∀ p, ¬ can held w p) → out = []
def w0 : WkD := ⟨0, 0, 0, 0, 0, []⟩
def wk (ws : List WkD) (j : Nat) : WkD := ws.getD j w0
theorem wk_at {ws : List WkD} {j : Nat} (h : j < ws.length) : wk ws j = ws[j] := by simp [wk, h]
theorem wk_mem {ws : List WkD} {j : Nat} (h : j < ws.length) : wk ws j ∈ ws := by rw [wk_at h]; exact List.getElem_mem h
/-- while work is given out -/
structure AsAt (can : List HdD → WkD → PerD → Prop) (ps : List PerD) (m : Int) (held : List HdD) (ws : List WkD) (done : List Nat) (tk : Nat → Bool) (out : List HdD) : Prop where
  tkd : ∀ j, tk j = true → j ∈ done
  tick : out.map (·.ticket) = (done.filter tk).map fun j => (wk ws j).ticket
  good : ∀ h ∈ out, (∃ p ∈ ps, p.no = h.no) ∧ (1 ≤ h.weight ∧ h.weight ≤ 20) ∧ h.since = m
  room : ∀ p ∈ ps, wtN (held ++ out) p.no = wtN held p.no ∨ wtN (held ++ out) p.no ≤ p.cap
  none : ∀ j ∈ done, tk j = false → ∀ p, ¬ can (held ++ out) (wk ws j) p
  idle : (∀ w ∈ ws, ∀ p, ¬ can held w p) → out = []
theorem AsAt.nil (can : List HdD → WkD → PerD → Prop) (ps : List PerD) (m : Int) (held : List HdD) (ws : List WkD) : AsAt can ps m held ws [] (fun _ => false) [] where
  tkd := fun j h => by cases h
  tick := rfl
  good := fun h hh => by cases hh
  room := fun p _ => .inl (by rw [List.append_nil])
  none := fun j hj => by cases hj
  idle := fun _ => rfl
theorem AsAt.skip {can : List HdD → WkD → PerD → Prop} {ps : List PerD} {m : Int} {held out : List HdD} {ws : List WkD} {done : List Nat} {tk : Nat → Bool} (h : AsAt can ps m held ws done tk out) {j : Nat} (hj : j ∉ done) (hn : ∀ p, ¬ can (held ++ out) (wk ws j) p) : AsAt can ps m held ws (done ++ [j]) tk out := by
  have hf : tk j = false := by
    cases e : tk j with
    | false => rfl
    | true => exact absurd (h.tkd j e) hj
  refine ⟨fun i hi => List.mem_append_left _ (h.tkd i hi), ?_, h.good, h.room, fun i hi hf => ?_, h.idle⟩
  · rw [List.filter_append, List.filter_cons, hf, h.tick]
    simp
  · rcases List.mem_append.1 hi with hi | hi
    · exact h.none i hi hf
    · rw [List.mem_singleton.1 hi]
      exact hn
theorem AsAt.take {duty : PerD → Bool} {nd : WkD → List Skl} {ab : PerD → List Skl → Bool} {ps : List PerD} {m : Int} {held out : List HdD} {ws : List WkD} {done : List Nat} {tk : Nat → Bool} (h : AsAt (canF duty nd ab ps) ps m held ws done tk out) (hps : ps.Pairwise fun a b => a.no < b.no) {j : Nat} (hl : j < ws.length) (hj : j ∉ done) {p : PerD} (hc : canF duty nd ab ps (held ++ out) (wk ws j) p) (hw : 1 ≤ (wk ws j).weight ∧ (wk ws j).weight ≤ 20) :
    AsAt (canF duty nd ab ps) ps m held ws (done ++ [j]) (fun i => decide (i = j) || tk i) (out ++ [⟨(wk ws j).ticket, p.no, (wk ws j).weight, m⟩]) := by
  have hmore : ∀ no, wtN (held ++ out) no ≤ wtN (held ++ (out ++ [⟨(wk ws j).ticket, p.no, (wk ws j).weight, m⟩])) no := by
    intro no
    rw [← List.append_assoc, wtN_append (held ++ out), wtN_one]
    simp only
    split <;> omega
  refine ⟨fun i hi => ?_, ?_, fun x hx => ?_, fun q hq => ?_, fun i hi hf => ?_, fun hi => ?_⟩
  · rcases Bool.or_eq_true_iff.1 hi with hi | hi
    · rw [of_decide_eq_true hi]
      exact List.mem_append_right _ List.mem_cons_self
    · exact List.mem_append_left _ (h.tkd i hi)
  · rw [List.map_append, h.tick, List.filter_append, List.map_append]
    congr 1
    · congr 1
      refine List.filter_congr fun i hi => ?_
      have : i ≠ j := fun e => hj (e ▸ hi)
      simp [this]
    · simp
  · rcases List.mem_append.1 hx with hx | hx
    · exact h.good x hx
    · rw [List.mem_singleton.1 hx]
      exact ⟨⟨p, hc.1, rfl⟩, hw, rfl⟩
  · rw [← List.append_assoc, wtN_append (held ++ out), wtN_one]
    simp only
    split
    · rename_i e
      have : q = p := by
        obtain ⟨a, ha, rfl⟩ := List.mem_iff_getElem.1 hq
        obtain ⟨b, hb, rfl⟩ := List.mem_iff_getElem.1 hc.1
        have hpw := List.pairwise_iff_getElem.1 hps
        rcases Nat.lt_trichotomy a b with g | g | g
        · have := hpw a b ha hb g; omega
        · subst g; rfl
        · have := hpw b a hb ha g; omega
      subst this
      have := hc.2.2.1
      right
      omega
    · rw [Int.add_zero]
      exact h.room q hq
  · have hf := Bool.or_eq_false_iff.1 hf
    have hne := of_decide_eq_false hf.1
    rcases List.mem_append.1 hi with hi | hi
    · intro q hq
      refine h.none i hi hf.2 q ⟨hq.1, hq.2.1, ?_, hq.2.2.2⟩
      have := hmore q.no
      have := hq.2.2.1
      omega
    · exact absurd (List.mem_singleton.1 hi) hne
  · have he := h.idle hi
    subst he
    rw [List.append_nil] at hc
    exact absurd hc (hi _ (wk_mem hl) p)
theorem AsAt.fin {can : List HdD → WkD → PerD → Prop} {ps : List PerD} {m : Int} {held out : List HdD} {ws : List WkD} {done : List Nat} {tk : Nat → Bool} (h : AsAt can ps m held ws done tk out) (hd : done.Perm (List.range ws.length)) :
    Asgn can ps m held ws out (((List.range ws.length).filter fun j => !tk j).map (wk ws)) := by
  have hall : (List.range ws.length).map (wk ws) = ws := by
    refine List.ext_getElem (by simp) fun i h1 h2 => ?_
    rw [List.getElem_map, List.getElem_range, wk_at h2]
  refine ⟨?_, ?_, h.good, h.room, fun w hw => ?_, h.idle⟩
  · rw [h.tick, List.map_map]
    have e : ws.map (·.ticket) = (List.range ws.length).map fun j => (wk ws j).ticket := by
      conv => lhs; rw [← hall]
      rw [List.map_map]
      rfl
    rw [e]
    refine List.Perm.trans (List.Perm.append (((hd.filter tk).map fun j => (wk ws j).ticket)) (List.Perm.refl _)) ?_
    rw [show ((List.range ws.length).filter fun j => !tk j).map ((·.ticket) ∘ wk ws) = ((List.range ws.length).filter fun j => !tk j).map fun j => (wk ws j).ticket from rfl, ← List.map_append]
    exact (List.filter_append_perm tk _).map _
  · refine List.Sublist.trans ((List.filter_sublist (p := fun j => !tk j) (l := List.range ws.length)).map (wk ws)) ?_
    rw [hall]
    exact List.Sublist.refl _
  · obtain ⟨j, hj, rfl⟩ := List.mem_map.1 hw
    have hj := List.mem_filter.1 hj
    exact h.none j (hd.symm.subset hj.1) (by simpa using hj.2)

/-- what waits may wait, as far as the law goes -/
structure WkFine (Sk : List Skl → Prop) (l : List WkD) : Prop where
  few : l.length ≤ 200
  one : ∀ w ∈ l, (1 ≤ w.ticket ∧ w.ticket ≤ 400) ∧ (1 ≤ w.weight ∧ w.weight ≤ 20) ∧ (0 ≤ w.urg ∧ w.urg ≤ 9) ∧ (0 ≤ w.since ∧ w.since ≤ 3000000) ∧ (0 ≤ w.former ∧ w.former ≤ 40) ∧ Sk w.needs
  apart : l.Pairwise fun a b => a.ticket ≠ b.ticket
theorem WkFine.sub {Sk : List Skl → Prop} {a b : List WkD} (h : WkFine Sk b) (hs : a.Sublist b) : WkFine Sk a :=
  ⟨Nat.le_trans hs.length_le h.few, fun w hw => h.one w (hs.subset hw), h.apart.sublist hs⟩
/-- what Assign answers with -/
structure Dealt (can : List HdD → WkD → PerD → Prop) (ps : List PerD) (m : Int) (held : List HdD) (ws : List WkD) (all : List HdD) (left : List WkD) : Prop where
  out : ∃ out, Asgn can ps m held ws out left ∧ all.Perm (held ++ out)
  rise : all.Pairwise fun a b => a.ticket ≤ b.ticket
section
variable {duty : PerD → Bool} {nd : WkD → List Skl} {ab : PerD → List Skl → Bool} {Sk : List Skl → Prop} {ps : List PerD} {m : Int} {held all : List HdD} {ws left : List WkD}
theorem Dealt.len (h : Dealt (canF duty nd ab ps) ps m held ws all left) : all.length + left.length = held.length + ws.length := by
  obtain ⟨out, ha, hp⟩ := h.out
  have h1 := ha.tick.length_eq
  have h2 := hp.length_eq
  rw [List.length_append, List.length_map, List.length_map, List.length_map] at h1
  rw [List.length_append] at h2
  omega
theorem Dealt.tickets (h : Dealt (canF duty nd ab ps) ps m held ws all left) : (all.map (·.ticket) ++ left.map (·.ticket)).Perm (held.map (·.ticket) ++ ws.map (·.ticket)) := by
  obtain ⟨out, ha, hp⟩ := h.out
  refine List.Perm.trans ((hp.map _).append_right _) ?_
  rw [List.map_append, List.append_assoc]
  exact ha.tick.append_left _
theorem held_nodup (hh : HdFine ps held) (hw : WkFine Sk ws) (hd : ∀ w ∈ ws, ∀ h ∈ held, h.ticket ≠ w.ticket) : (held.map (·.ticket) ++ ws.map (·.ticket)).Nodup := by
  rw [List.nodup_append]
  refine ⟨?_, ?_, ?_⟩
  · exact List.pairwise_map.2 ((rise_lt hh.2).imp fun h => by omega)
  · exact List.pairwise_map.2 hw.apart
  · intro x hx y hy e
    obtain ⟨a, ha, rfl⟩ := List.mem_map.1 hx
    obtain ⟨b, hb, rfl⟩ := List.mem_map.1 hy
    exact hd b hb a ha e
theorem Dealt.strict (h : Dealt (canF duty nd ab ps) ps m held ws all left) (hn : (held.map (·.ticket) ++ ws.map (·.ticket)).Nodup) : all.Pairwise fun a b => a.ticket < b.ticket := by
  have h1 := (List.nodup_append.1 (h.tickets.nodup_iff.2 hn)).1
  have h2 := List.pairwise_map.1 h1
  refine (h.rise.and h2).imp fun {a b} g => ?_
  have := g.1
  have := g.2
  omega
theorem Dealt.fine (h : Dealt (canF duty nd ab ps) ps m held ws all left) (hh : HdFine ps held) (hw : WkFine Sk ws) (hd : ∀ w ∈ ws, ∀ h ∈ held, h.ticket ≠ w.ticket) (hm : 0 ≤ m ∧ m ≤ 3000000) : HdFine ps all := by
  have hn := held_nodup hh hw hd
  have hs := h.strict hn
  have hone : ∀ x ∈ all, HdOne ps x := by
    intro x hx
    obtain ⟨out, ha, hp⟩ := h.out
    rcases List.mem_append.1 (hp.subset hx) with g | g
    · exact hh.2.mem g
    · obtain ⟨g1, g2, g3⟩ := ha.good x g
      refine ⟨?_, g1, g2, by omega⟩
      have hmt := ha.tick.subset (List.mem_append_left _ (List.mem_map_of_mem (f := (·.ticket)) g))
      obtain ⟨w, hw', e⟩ := List.mem_map.1 hmt
      have := (hw.one w hw').1
      omega
  refine ⟨?_, lt_lst hs hone⟩
  have := rise_few (all.map (·.ticket)) 0 (List.pairwise_map.2 hs) 400 (fun x hx => by
    obtain ⟨a, ha, rfl⟩ := List.mem_map.1 hx
    have := (hone a ha).1
    omega) (by omega)
  rw [List.length_map] at this
  omega
theorem Dealt.keeps (h : Dealt (canF duty nd ab ps) ps m held ws all left) : ∀ x ∈ held, x ∈ all := by
  obtain ⟨out, _, hp⟩ := h.out
  exact fun x hx => hp.symm.subset (List.mem_append_left _ hx)
theorem Dealt.sub (h : Dealt (canF duty nd ab ps) ps m held ws all left) : left.Sublist ws := by
  obtain ⟨out, ha, _⟩ := h.out
  exact ha.sub
theorem Dealt.apart (h : Dealt (canF duty nd ab ps) ps m held ws all left) (hn : (held.map (·.ticket) ++ ws.map (·.ticket)).Nodup) : ∀ w ∈ left, ∀ x ∈ all, x.ticket ≠ w.ticket := by
  have h1 := (List.nodup_append.1 (h.tickets.nodup_iff.2 hn)).2.2
  exact fun w hw x hx => h1 _ (List.mem_map_of_mem hx) _ (List.mem_map_of_mem hw)
theorem Dealt.room (h : Dealt (canF duty nd ab ps) ps m held ws all left) : ∀ p ∈ ps, p.cap - wtN all p.no < 0 → p.cap - wtN all p.no = p.cap - wtN held p.no := by
  obtain ⟨out, ha, hp⟩ := h.out
  intro p hp' hlt
  rw [wtN_perm hp] at hlt ⊢
  rcases ha.room p hp' with g | g
  · rw [g]
  · omega
/-- a second round gives nothing out -/
theorem Dealt.again (h : Dealt (canF duty nd ab ps) ps m held ws all left) (hn : (held.map (·.ticket) ++ ws.map (·.ticket)).Nodup) {all2 : List HdD} {left2 : List WkD} (h2 : Dealt (canF duty nd ab ps) ps m all left all2 left2) : all2 = all ∧ left2.length = left.length := by
  have hs := h.strict hn
  have hn2 : (all.map (·.ticket) ++ left.map (·.ticket)).Nodup := h.tickets.nodup_iff.2 hn
  have hs2 := h2.strict hn2
  have hl := h2.len
  obtain ⟨out, ha, hp⟩ := h.out
  obtain ⟨out2, ha2, hp2⟩ := h2.out
  have he : out2 = [] := ha2.idle fun w hw p hc => by
    refine ha.none w hw p ⟨hc.1, hc.2.1, ?_, hc.2.2.2⟩
    rw [← wtN_perm hp]
    exact hc.2.2.1
  subst he
  rw [List.append_nil] at hp2
  have e := rise_same hs2 hs hp2
  subst e
  exact ⟨rfl, by omega⟩
end
end Go.Proofs.YtemikhnkjligdaaGreatDoor
