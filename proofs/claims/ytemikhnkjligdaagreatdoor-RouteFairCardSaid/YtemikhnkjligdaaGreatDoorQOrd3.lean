/- A region that draws its order: an operation that is not wanted is passed by. No program in sight. -/
import Derived.Test.YtemikhnkjligdaaGreatDoorQRfCln
import Derived.Test.YtemikhnkjligdaaGreatDoorQRfLaw
namespace Go.Proofs.YtemikhnkjligdaaGreatDoor
open Go

section
variable {P : Program} {ops : Array Oper} {Q : Exit → Act → World → Prop} {md : Region.Mode} {S : World → Prop} {t : Nat}
theorem skipS {i d : Nat} {oi : Oper} {f : Nat} {listed : Array Bool} {tmps : Array Value} {defers : List Deferred} {w : World} (hi : ops[i]? = some oi) (hd : oi.dst = some d)
    (hs : Region.noSelect ops = true) (hf : Region.free md ops listed i = true) (hr : (Region.ready md ops listed).contains i = true)
    (hQ : ∀ c a w, Q (.panic c) (a.put oi.dst undef) w → Q (.panic c) a w) (hit : ops.size ≤ t) (hw : Region.wanted oi (yielded ops tmps) = false) (hS : S w)
    (h : anyT P md ops Q S t f (listed.setIfInBounds i true) ⟨tmps.setIfInBounds d undef, defers⟩ w) : anyT P md ops Q S t (f + 1) listed ⟨tmps, defers⟩ w := by
  refine anyT_firstS hi (Region.noSelect_spec hs) hQ hit f listed _ w (Region.free_spec hi hf) (by simpa using hr) (Or.inr ⟨hw, rfl⟩) hS ?_
  rw [hd]
  exact h
theorem skipT {i d : Nat} {oi : Oper} {f : Nat} {listed : Array Bool} {tmps : Array Value} {defers : List Deferred} {w : World} (hi : ops[i]? = some oi) (hd : oi.dst = some d)
    (hs : Region.noSelect ops = true) (hf : Region.free md ops listed i = true) (hr : (Region.ready md ops listed).contains i = true)
    (hQ : ∀ c a w, Q (.panic c) (a.put oi.dst undef) w → Q (.panic c) a w) (hit : i ≠ t) (hwt : waits md ops t i = true) (hw : Region.wanted oi (yielded ops tmps) = false) (hS : S w)
    (h : anyT P md ops Q S t f (listed.setIfInBounds i true) ⟨tmps.setIfInBounds d undef, defers⟩ w) : anyT P md ops Q S t (f + 1) listed ⟨tmps, defers⟩ w := by
  refine anyT_first hi (Region.noSelect_spec hs) hQ hit hwt f listed _ w (Region.free_spec hi hf) (by simpa using hr) (Or.inr ⟨hw, rfl⟩) hS ?_
  rw [hd]
  exact h
end
end Go.Proofs.YtemikhnkjligdaaGreatDoor

/- Plain laws for the walks of RouteFair: what people hold while it is counted, the last step that has come, positions. No program in sight. -/
namespace Go.Proofs.YtemikhnkjligdaaGreatDoor

/-- what people hold, in the people's order -/
def wts (ps : List PerD) (l : List HdD) : List Int := ps.map fun p => wtN l p.no
theorem wts_length (ps : List PerD) (l : List HdD) : (wts ps l).length = ps.length := by simp [wts]
theorem wts_at {ps : List PerD} {l : List HdD} {j : Nat} (hj : j < ps.length) : (wts ps l)[j]'(by rw [wts_length]; exact hj) = wtN l ps[j].no := by simp [wts]
theorem no_inj {ps : List PerD} (hps : ps.Pairwise fun a b => a.no < b.no) {i j : Nat} (hi : i < ps.length) (hj : j < ps.length) (h : ps[i].no = ps[j].no) : i = j := by
  have hpw := List.pairwise_iff_getElem.1 hps
  rcases Nat.lt_trichotomy i j with g | g | g
  · have := hpw i j hi hj g; omega
  · exact g
  · have := hpw j i hj hi g; omega
theorem wts_one {ps : List PerD} (hps : ps.Pairwise fun a b => a.no < b.no) (l : List HdD) (h : HdD) {j : Nat} (hj : j < ps.length) (e : ps[j].no = h.no) : wts ps (l ++ [h]) = (wts ps l).set j (wtN l h.no + h.weight) := by
  refine List.ext_getElem (by simp [wts]) fun i h1 h2 => ?_
  have hi : i < ps.length := by rw [wts_length] at h1; exact h1
  rw [List.getElem_set, wts_at hi, wtN_append, wtN_one]
  by_cases g : j = i
  · subst g
    rw [if_pos rfl, if_pos e.symm, e]
  · rw [if_neg g, if_neg (fun q => g (no_inj hps hj hi (e.trans q))), Int.add_zero, wts_at hi]
theorem wts_next {ps : List PerD} (hps : ps.Pairwise fun a b => a.no < b.no) {l : List HdD} {i : Nat} (hi : i < l.length) {j : Nat} (hj : j < ps.length) (e : ps[j].no = l[i].no) : wts ps (l.take (i + 1)) = (wts ps (l.take i)).set j (wtN (l.take i) l[i].no + l[i].weight) := by
  rw [List.take_succ_eq_append_getElem hi]
  exact wts_one hps _ _ hj e
theorem wtN_bound : ∀ (l : List HdD) (no : Int), (∀ h ∈ l, 1 ≤ h.weight ∧ h.weight ≤ 20) → 0 ≤ wtN l no ∧ wtN l no ≤ 20 * l.length
  | [], no, _ => by simp [wtN_nil]
  | x :: l, no, h => by
    have ih := wtN_bound l no (fun y hy => h y (List.mem_cons_of_mem _ hy))
    have hx := h x List.mem_cons_self
    rw [wtN_cons, List.length_cons]
    split <;> omega
theorem last_next {l : List StD} {p : StD → Bool} {i : Nat} (hi : i < l.length) : ((l.take (i + 1)).filter p).getLast? = if p l[i] then some l[i] else ((l.take i).filter p).getLast? := by
  rw [List.take_succ_eq_append_getElem hi, List.filter_append]
  cases h : p l[i] <;> simp [h]
end Go.Proofs.YtemikhnkjligdaaGreatDoor
