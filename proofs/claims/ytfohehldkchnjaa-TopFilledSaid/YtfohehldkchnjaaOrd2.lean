/- A region that draws its order: what is taken first under a condition on the world that holds behind every operation; the condition may grow on the way. No program in sight. -/
import Derived.Test.YtfohehldkchnjaaOrd
namespace Go.Proofs.Ytfohehldkchnjaa
open Go

section
variable {P : Program} {ops : Array Oper} {Q : Exit → Act → World → Prop} {md : Region.Mode} {S S2 : World → Prop} {t : Nat}
theorem anyT_imp (h : ∀ w, S2 w → S w) : ∀ (f : Nat) {listed : Array Bool} {a : Act} {w : World}, anyT P md ops Q S2 t f listed a w → anyT P md ops Q S t f listed a w
  | 0, _, _, _, g => g
  | f + 1, _, _, _, g => ⟨g.1, fun j hj => wpOp_mono (fun _ _ q => ⟨fun hne => h _ (q.1 hne), anyT_imp h f q.2⟩) (g.2 j hj)⟩
theorem anyT_firstS {i : Nat} {oi : Oper} {v : Value} (hi : ops[i]? = some oi) (hsel : ∀ (j : Nat) (o : Oper) cs b, ops[j]? = some o → o.op ≠ .select cs b)
    (hQ : ∀ c a w, Q (.panic c) (a.put oi.dst v) w → Q (.panic c) a w) (hit : ops.size ≤ t) : ∀ (f : Nat) (listed : Array Bool) (a : Act) (w : World),
    (∀ j oj, ops[j]? = some oj → j ≠ i → listed.getD j true = false → (∀ e ∈ oj.after, Region.binds md e = true → e.on ≠ i) → oi.apart ops oj = true) →
    i ∈ Region.ready md ops listed → YieldsIf P ops S oi v a → S w → anyT P md ops Q S t f (listed.setIfInBounds i true) (a.put oi.dst v) w → anyT P md ops Q S t (f + 1) listed a w := by
  intro f
  induction f with
  | zero =>
    intro listed a w _ hr hy hS H
    refine ⟨fun h => (by rw [h] at hr; cases hr), fun j hj => ?_⟩
    by_cases e : j = i
    · subst e; exact hy.wpOp hi hS ⟨fun _ => hS, H⟩
    · have := ready_mono hj e
      rw [H.1] at this
      cases this
  | succ f ih =>
    intro listed a w hfree hr hy hS H
    refine ⟨fun h => (by rw [h] at hr; cases hr), fun j hj => ?_⟩
    by_cases e : j = i
    · subst e; exact hy.wpOp hi hS ⟨fun _ => hS, H⟩
    · have h1 := H.2 j (ready_mono hj e)
      obtain ⟨hun, oj, hoj, hall⟩ := mem_ready.1 hj
      have hjt : j ≠ t := fun q => by
        have := (Array.getElem?_eq_some_iff.1 hoj).1
        omega
      have hno : ∀ e ∈ oj.after, Region.binds md e = true → e.on ≠ i := fun e he hb q => by
        have h2 := hall e he hb
        have h0 := (mem_ready.1 hr).1
        rw [q] at h2
        rcases Nat.lt_or_ge i listed.size with h' | h'
        · simp [h'] at h0 h2; rw [h0] at h2; cases h2
        · simp [Array.getElem?_eq_none h'] at h2
      have h2 := wpOp_putIf hoj (hfree j oj hoj e hun hno) (fun cs b => hsel i oi cs b hi) (fun cs b => hsel j oj cs b hoj) hQ hy h1
      refine wpOp_mono (fun a' w' h3 => ⟨h3.2.1, ih (listed.setIfInBounds j true) a' w' ?_ (ready_mono hr (Ne.symm e)) h3.1 (h3.2.1 hjt) ?_⟩) h2
      · intro k ok hk hki hunk hnok
        refine hfree k ok hk hki ?_ hnok
        by_cases g : j = k
        · subst g; exact hun
        · rw [getD_set_ne true g] at hunk; exact hunk
      · rw [Array.setIfInBounds_comm _ _ e]
        exact h3.2.2
/-- number i is taken first; S holds behind every operation -/
theorem takeS {i d : Nat} {oi : Oper} {v : Value} {f : Nat} {listed : Array Bool} {tmps : Array Value} {defers : List Deferred} {w : World} (hi : ops[i]? = some oi) (hd : oi.dst = some d)
    (hs : Region.noSelect ops = true) (hf : Region.free md ops listed i = true) (hr : (Region.ready md ops listed).contains i = true)
    (hQ : ∀ c a w, Q (.panic c) (a.put oi.dst v) w → Q (.panic c) a w) (hit : ops.size ≤ t) (hw : Region.wanted oi (yielded ops tmps) = true)
    (hy : ∀ w, S w → (execOp (Act.eval ⟨tmps, defers⟩) oi).run P w = .ok (.value v) w) (hS : S w)
    (h : anyT P md ops Q S t f (listed.setIfInBounds i true) ⟨tmps.setIfInBounds d v, defers⟩ w) : anyT P md ops Q S t (f + 1) listed ⟨tmps, defers⟩ w := by
  refine anyT_firstS hi (Region.noSelect_spec hs) hQ hit f listed _ w (Region.free_spec hi hf) (by simpa using hr) (Or.inl ⟨hw, hy⟩) hS ?_
  rw [hd]
  exact h
/-- one of two may come up -/
theorem twoT {i j : Nat} {o o' : Oper} {f : Nat} {listed : Array Bool} {a : Act} {w : World} (ho : ops[i]? = some o) (ho' : ops[j]? = some o') (hr : Region.ready md ops listed = [i, j])
    (h : ∀ K' : Act → World → Prop, Shut (∀ a w, (i ≠ t → S w) → anyT P md ops Q S t f (listed.setIfInBounds i true) a w → K' a w) → if Region.wanted o (yielded ops a.tmps) = true then Oper.wp P o a w K' Q else K' (a.put o.dst undef) w)
    (h' : ∀ K' : Act → World → Prop, Shut (∀ a w, (j ≠ t → S w) → anyT P md ops Q S t f (listed.setIfInBounds j true) a w → K' a w) → if Region.wanted o' (yielded ops a.tmps) = true then Oper.wp P o' a w K' Q else K' (a.put o'.dst undef) w) :
    anyT P md ops Q S t (f + 1) listed a w := by
  refine ⟨fun h0 => (by rw [hr] at h0; cases h0), fun k hk => ?_⟩
  rw [hr] at hk
  simp only [List.mem_cons, List.not_mem_nil, or_false] at hk
  rcases hk with rfl | rfl
  · exact wpOp_step ho (fun K' hK => h K' (fun a w hS hW => hK a w ⟨hS, hW⟩))
  · exact wpOp_step ho' (fun K' hK => h' K' (fun a w hS hW => hK a w ⟨hS, hW⟩))
end
end Go.Proofs.Ytfohehldkchnjaa
