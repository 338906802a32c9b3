/- A keeper in memory, and what it is after one of its clocks has been turned. -/
import Derived.Test.YtllcgcnebofdoaaGreatDoorCkCut
namespace Go.Proofs.YtllcgcnebofdoaaGreatDoor
open Go.RowKit

/-- a clock's block, the value of its pieces' slice, what it is -/
abbrev Rc := Nat × Value × RunD
def Apart2 (a b : Value) : Prop := ∀ k, a.ownBlock = some k → b.ownBlock ≠ some k
def rcPtr (x : Rc) : Value := .pointer (some ⟨x.1, 0, none⟩)
structure KM (w : World) (B K : Nat) (vp vl : Value) (lev : Int) (vk : Value) (l : List Rc) : Prop where
  box : Has w K #[vp, vl, .int .i64 lev, vk] 67
  row : w.ownsRow B 70 1 vk l.length (l.map rcPtr)
  has : ∀ i (h : i < l.length), RM w B l[i].1 l[i].2.1 l[i].2.2
  nod : ∀ i j (hi : i < l.length) (hj : j < l.length), i ≠ j → l[i].1 ≠ l[j].1
  ne : ∀ i j (hi : i < l.length) (hj : j < l.length), i ≠ j → Apart2 l[i].2.1 l[j].2.1
  kb : B ≤ K
def runsOf (l : List Rc) : List RunD := l.map fun x => x.2.2
theorem KM.below {w w' : World} {B K : Nat} {vp vl vk : Value} {lev : Int} {l : List Rc} (h : KM w B K vp vl lev vk l) (hb : Below w.heap.size w w') : KM w' B K vp vl lev vk l :=
  ⟨h.box.below hb h.box.lt, owns_below h.row hb, fun i hi => (h.has i hi).below hb, h.nod, h.ne, h.kb⟩
theorem RM.other {w w' : World} {B b b0 : Nat} {v v0 : Value} {r : RunD} (hm : RM w B b v r) (h1 : One2 w w' b0 v0) (hb : b ≠ b0) (hv : v0.ownBlock ≠ some b) (hps : ∀ k, v.ownBlock = some k → k ≠ b0 ∧ v0.ownBlock ≠ some k) : RM w' B b v r := by
  refine ⟨(h1.block b hm.box.lt hb hv).trans hm.box, ?_, hm.le⟩
  refine ⟨hm.ps.1, ?_⟩
  rcases hm.ps.2 with q | ⟨g, cap, cur, hvv, hg, hh, r⟩
  · exact .inl q
  · have hk := hps g (by rw [hvv]; rfl)
    exact .inr ⟨g, cap, cur, hvv, hg, (h1.block g (Array.getElem?_eq_some_iff.1 hh).1 hk.1 hk.2).trans hh, r⟩
/-- one clock is turned -/
theorem KM.upd {w w' : World} {B K : Nat} {vp vl vk : Value} {lev : Int} {l : List Rc} (h : KM w B K vp vl lev vk l) {i : Nat} (hi : i < l.length) {v' : Value} {r' : RunD} (hm : RM w' B l[i].1 v' r') (h1 : One2 w w' l[i].1 l[i].2.1) (hf : Fr w l[i].2.1 v') :
    KM w' B K vp vl lev vk (l.set i (l[i].1, v', r')) := by
  have hk := h1.keepsR (h.has i hi)
  have hty : ∀ j (hj : j < l.length), l[i].2.1.ownBlock ≠ some l[j].1 := fun j hj q => by
    obtain ⟨ds, hd⟩ := own_type (h.has i hi).ps q
    have hb : w.heap[l[j].1]? = some (.cells (runV l[j].2.2 l[j].2.1) 74 (0, 0)) := (h.has j hj).box
    rw [hb] at hd
    cases hd
  have hty2 : ∀ j (hj : j < l.length) k, l[j].2.1.ownBlock = some k → k ≠ l[i].1 := fun j hj k q e => by
    obtain ⟨ds, hd⟩ := own_type (h.has j hj).ps q
    have hb : w.heap[l[i].1]? = some (.cells (runV l[i].2.2 l[i].2.1) 74 (0, 0)) := (h.has i hi).box
    rw [e, hb] at hd
    cases hd
  refine ⟨h.box.keepsR hk (by decide) (by decide), ?_, fun j hj => ?_, fun j k hj hk' hne => ?_, fun j k hj hk' hne => ?_, h.kb⟩
  · have e : (l.set i (l[i].1, v', r')).map rcPtr = l.map rcPtr := by
      rw [List.map_set]
      apply List.ext_getElem
      · simp
      · intro j h1 h2
        by_cases g : i = j
        · subst g; simp [rcPtr]
        · rw [List.getElem_set_ne g]
    rw [e, List.length_set]
    exact owns_keepsR h.row hk (by decide) (by decide)
  · rw [List.length_set] at hj
    by_cases g : i = j
    · subst g
      simp only [List.getElem_set_self]
      exact hm
    · simp only [List.getElem_set_ne g]
      exact (h.has j hj).other h1 (h.nod j i hj hi (Ne.symm g)) (hty j hj) (fun k q => ⟨hty2 j hj k q, fun q2 => h.ne i j hi hj g k q2 q⟩)
  · rw [List.length_set] at hj hk'
    by_cases g : i = j
    · subst g
      simp only [List.getElem_set_self, List.getElem_set_ne hne]
      exact h.nod i k hi hk' hne
    · by_cases g2 : i = k
      · subst g2
        simp only [List.getElem_set_self, List.getElem_set_ne g]
        exact h.nod j i hj hi hne
      · simp only [List.getElem_set_ne g, List.getElem_set_ne g2]
        exact h.nod j k hj hk' hne
  · rw [List.length_set] at hj hk'
    have hold : ∀ m (hm' : m < l.length), i ≠ m → ∀ q, v'.ownBlock = some q → l[m].2.1.ownBlock ≠ some q := fun m hm' hne' q hq e => by
      rcases hf q hq with g | g
      · exact h.ne i m hi hm' hne' q g e
      · have := ((h.has m hm').ps.lt q e).2
        omega
    by_cases g : i = j
    · subst g
      simp only [List.getElem_set_self, List.getElem_set_ne hne]
      exact fun q hq => hold k hk' hne q hq
    · by_cases g2 : i = k
      · subst g2
        simp only [List.getElem_set_self, List.getElem_set_ne g]
        exact fun q hq e => hold j hj g q e hq
      · simp only [List.getElem_set_ne g, List.getElem_set_ne g2]
        exact h.ne j k hj hk' hne
theorem each_next (f : RunD → RunD) (R : List RunD) {i : Nat} (hi : i < R.length) : eachF f (R.take (i + 1)) ++ R.drop (i + 1) = (eachF f (R.take i) ++ R.drop i).set i (if R[i].c.fin = 0 then f R[i] else R[i]) := by
  have hl : (eachF f (R.take i)).length = i := by rw [each_len, List.length_take]; omega
  rw [List.set_append_right _ _ (by omega), hl, Nat.sub_self, List.drop_eq_getElem_cons hi, List.set_cons_zero, List.take_succ_eq_append_getElem hi]
  unfold eachF
  rw [List.map_append]
  simp
theorem each_at (f : RunD → RunD) (R : List RunD) {i : Nat} (hi : i < R.length) {L : List RunD} (h : L = eachF f (R.take i) ++ R.drop i) : L[i]? = some R[i] := by
  have hl : (eachF f (R.take i)).length = i := by rw [each_len, List.length_take]; omega
  rw [h, List.getElem?_append_right (by omega), hl, Nat.sub_self, List.drop_eq_getElem_cons hi]
  rfl
structure EachI (w wr : World) (B K : Nat) (vp vl vk : Value) (lev : Int) (f : RunD → RunD) (J : World → Prop) (R : List RunD) (i : Nat) : Prop where
  le : i ≤ R.length
  mem : ∃ l', KM wr B K vp vl lev vk l' ∧ runsOf l' = eachF f (R.take i) ++ R.drop i
  below : Below B w wr
  keeps : KeepsR w wr
  j : J wr
def EachPost (w : World) (B K : Nat) (vp vl vk : Value) (lev : Int) (f : RunD → RunD) (J : World → Prop) (R : List RunD) (e : Ending) (w' : World) : Prop :=
  (∃ u, e = .returned u) ∧ (∃ l', KM w' B K vp vl lev vk l' ∧ runsOf l' = eachF f R) ∧ Below B w w' ∧ KeepsR w w' ∧ J w'
end Go.Proofs.YtllcgcnebofdoaaGreatDoor
