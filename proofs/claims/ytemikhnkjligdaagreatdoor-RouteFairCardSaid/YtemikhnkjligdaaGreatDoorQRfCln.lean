/- The walk of slices.Clone at skills. -/
import Derived.Test.YtemikhnkjligdaaGreatDoorQRfBase
import Derived.Test.YtemikhnkjligdaaGreatDoorQClone
import Derived.OrdersHeld
import Derived.RegionTactic
import Derived.Deep.RegionHeld3
import Derived.Test.YtemikhnkjligdaaGreatDoorQRfStp
namespace Go.Proofs.YtemikhnkjligdaaGreatDoor
open Go.RowKit

def encSk (x : Skl) : List Value := [.string x.1, .int .i64 x.2]
theorem infoSkill : (Tryz.prog.info? 96).map (fun i => (i.zero, i.size, i.bytes)) = some (some (.agg #[.string ⟨#[]⟩, .int .i64 0]), 2, 24) := by kernel_rfl
theorem encSk_len (L : List Skl) : (L.flatMap encSk).length = L.length * 2 := by
  induction L with
  | nil => rfl
  | cons x r ih => rw [List.flatMap_cons, List.length_append, ih, List.length_cons]; simp [encSk]; omega
theorem encSk_one (L : List Skl) : ∀ u ∈ L.flatMap encSk, u.oneCell' = true := by
  intro u hu
  obtain ⟨x, hx, hq⟩ := List.mem_flatMap.1 hu
  simp only [encSk, List.mem_cons, List.not_mem_nil, or_false] at hq
  rcases hq with rfl | rfl <;> rfl
theorem skls_news {w : World} {b off : Nat} {l : List Skl} (hel : ∀ i (hi : i < l.length), w.cell? ⟨b, off + i * 2, none⟩ = some (.string l[i].1) ∧ w.cell? ⟨b, off + i * 2 + 1, none⟩ = some (.int .i64 l[i].2) ∧ l[i].1.size ≤ 9223372036854775807) :
    ∀ j u, (l.flatMap encSk)[j]? = some u → w.cell? ((⟨b, off, none⟩ : Addr).add j) = some u := by
  intro j u hj
  have hlt : j < l.length * 2 := by rw [← encSk_len]; exact (List.getElem?_eq_some_iff.1 hj).1
  have hi : j / 2 < l.length := by omega
  have e := flatMap_at encSk 2 l (fun _ _ => rfl) (j / 2) (j % 2) hi (Nat.mod_lt _ (by decide))
  rw [Nat.div_add_mod'] at e
  rw [e] at hj
  have ea : (⟨b, off, none⟩ : Addr).add j = ⟨b, off + j, none⟩ := by unfold Addr.add; split <;> simp_all
  rw [ea, show off + j = off + j / 2 * 2 + j % 2 by omega]
  have hk : j % 2 = 0 ∨ j % 2 = 1 := by omega
  obtain ⟨e0, e1, _⟩ := hel (j / 2) hi
  rcases hk with hk | hk
  · rw [hk] at hj ⊢
    cases hj
    exact e0
  · rw [hk] at hj ⊢
    cases hj
    exact e1
theorem skls_of {w : World} {B : Nat} {v : Value} {l : List Skl} (ho : w.ownsRow B 96 2 v l.length (l.flatMap encSk)) (hz : ∀ s ∈ l, s.1.size ≤ 9223372036854775807) : Skls w v l :=
  slice_of_owns encSk ho (fun _ _ => rfl) (fun x hx => ⟨rfl, hz x hx⟩)
set_option maxRecDepth 100000 in
theorem cloneSk_any (v : Value) (l : List Skl) (w : World) (h : Skls w v l) (hl : l.length ≤ 12) :
    Calls Tryz.prog 38 #[v] w fun e w' => (∃ v', e = .returned v' ∧ w'.ownsRow w.heap.size 96 2 v' l.length (l.flatMap encSk)) ∧ Below w.heap.size w w' := by
  have q22 : ∀ (w : World) (a : Option Addr) (n c n' c' : Nat), (binOp .eql 36 (.slice a n c) (.slice none n' c')).run Tryz.prog w = .ok (.bool a.isNone) w := fun w a n c n' c' => Lib.run_eql_slice_nil w _ _ a n c n' c' Tryz.underlying36
  have hown := World.ownsRow_lit (base := w.heap.size) (e := 96) (size := 2) w #[] 0 (Nat.le_refl _) (by unfold maxLen; omega) rfl
  have hb3 := (Below.refl w.heap.size w).alloc (Nat.le_refl _) (.cells #[] 96)
  rcases Nat.eq_zero_or_pos l.length with h0 | hpos
  · obtain rfl := List.eq_nil_of_length_eq_zero h0
    obtain ⟨a, c, rfl⟩ := SliceAt.len h
    cases a with
    | none =>
      clear h hown hb3 hl h0
      go_enter Tryz.func38, Tryz.ntmps38
      go_wp2_with fail
      go_ret
      exact ⟨⟨_, rfl, ⟨rfl, .inl ⟨rfl, rfl⟩⟩⟩, Below.refl _ _⟩
    | some ad =>
      have HO := Lib.hid hown
      have HB := Lib.hid hb3
      clear h hown hb3 hl h0
      go_enter Tryz.func38, Tryz.ntmps38
      go_wp2_with (at_builtin; go_must (refine append_all rfl _ _ 36 rfl w.heap.size 96 (.agg #[.string ⟨#[]⟩, .int .i64 0]) 2 24 Tryz.underlying36 infoSkill rfl (by decide) w (w.alloc (.cells #[] 96)) (.slice (some ⟨w.heap.size, 0, none⟩) 0 0) 0 [] rfl HO.out ad 0 c [] rfl rfl (fun j u hj => by cases hj) (fun u hu => by cases hu) (by omega) (by omega) HB.out.size HB.out ?_); intro v' w6 ho hb6)
      go_ret
      exact ⟨⟨_, rfl, ho⟩, hb6⟩
  obtain ⟨b, off, cap, rfl, hb, hel⟩ := Skls.at h hpos
  have hn := skls_news hel
  have HN := Lib.hid (show ∀ j u, (l.flatMap encSk)[j]? = some u → (w.alloc (.cells #[] 96)).cell? ((⟨b, off, none⟩ : Addr).add j) = some u from fun j u hj => by
    have ea : (⟨b, off, none⟩ : Addr).add j = ⟨b, off + j, none⟩ := by unfold Addr.add; split <;> simp_all
    have h1 := hn j u hj
    rw [ea] at h1 ⊢
    exact (below_cell hb3 hb).trans h1)
  have HO := Lib.hid hown
  have HB := Lib.hid hb3
  have HL := Lib.hid (encSk_len l)
  have H1 := Lib.hid (encSk_one l)
  clear hown hb3 hn hel h
  generalize l.flatMap encSk = cs at *
  generalize hnl : l.length = n at *
  clear hnl
  go_enter Tryz.func38, Tryz.ntmps38
  go_wp2_with (at_builtin; go_must (refine append_all rfl _ _ 36 rfl w.heap.size 96 (.agg #[.string ⟨#[]⟩, .int .i64 0]) 2 24 Tryz.underlying36 infoSkill rfl (by decide) w (w.alloc (.cells #[] 96)) (.slice (some ⟨w.heap.size, 0, none⟩) 0 0) 0 [] rfl HO.out ⟨b, off, none⟩ n cap cs rfl HL.out HN.out H1.out (by omega) (by omega) HB.out.size HB.out ?_); intro v' w6 ho hb6)
  go_ret
  refine ⟨⟨_, rfl, ?_⟩, hb6⟩
  simpa using ho
end Go.Proofs.YtemikhnkjligdaaGreatDoor

/- A region that draws its order and whose LAST operation stores into a cell that the region loads: a load is taken first under a condition on the world that need not hold behind that last operation. No program in sight. -/
namespace Go.Proofs.YtemikhnkjligdaaGreatDoor
open Go

section
variable {P : Program} {ops : Array Oper} {Q : Exit → Act → World → Prop} {md : Region.Mode} {S : World → Prop} {t : Nat}
/-- whatever order is picked; S holds behind every operation but number t -/
def anyT (P : Program) (md : Region.Mode) (ops : Array Oper) (Q : Exit → Act → World → Prop) (S : World → Prop) (t : Nat) : Nat → Array Bool → Act → World → Prop
  | 0, listed, a, w => Region.ready md ops listed = [] ∧ Q .normal a w
  | f + 1, listed, a, w => (Region.ready md ops listed = [] → Q .normal a w) ∧ ∀ j ∈ Region.ready md ops listed, wpOp P ops Q j (fun a' w' => (j ≠ t → S w') ∧ anyT P md ops Q S t f (listed.setIfInBounds j true) a' w') a w
theorem anyT_any : ∀ (f : Nat) (listed : Array Bool) (a : Act) (w : World), anyT P md ops Q S t f listed a w → wpAny P md ops Q f listed a w
  | 0, _, _, _, h => h
  | f + 1, _, _, _, h => ⟨h.1, fun j hj => wpOp_mono (fun a' w' h' => anyT_any f _ a' w' h'.2) (h.2 j hj)⟩
theorem anyT_start {id : Nat} {a : Act} {w : World} (hm : P.follows .mixedOrders = true) (h : anyT P .any ops Q S t ops.size (Array.replicate ops.size false) a w.drew) : (Code.region id ops true).wp P Q a w :=
  wp_region_any hm (anyT_any _ _ _ _ h)

/-- number t waits for number i -/
def waits (md : Region.Mode) (ops : Array Oper) (t i : Nat) : Bool := match ops[t]? with
  | some o => o.after.any fun e => Region.binds md e && e.on == i
  | none => false
theorem waits_not {listed : Array Bool} {i : Nat} (hw : waits md ops t i = true) (hi : i ∈ Region.ready md ops listed) : t ∉ Region.ready md ops listed := by
  intro ht
  obtain ⟨_, ot, hot, hall⟩ := mem_ready.1 ht
  unfold waits at hw
  rw [hot] at hw
  simp only [Array.any_eq_true'] at hw
  obtain ⟨e, he, hb⟩ := hw
  simp only [Bool.and_eq_true, beq_iff_eq] at hb
  have h1 := hall e he hb.1
  rw [hb.2] at h1
  have h0 := (mem_ready.1 hi).1
  rcases Nat.lt_or_ge i listed.size with h' | h'
  · simp [h'] at h0 h1; rw [h0] at h1; cases h1
  · simp [Array.getElem?_eq_none h'] at h1
theorem anyT_first {i : Nat} {oi : Oper} {v : Value} (hi : ops[i]? = some oi) (hsel : ∀ (j : Nat) (o : Oper) cs b, ops[j]? = some o → o.op ≠ .select cs b)
    (hQ : ∀ c a w, Q (.panic c) (a.put oi.dst v) w → Q (.panic c) a w) (hit : i ≠ t) (hw : waits md ops t i = true) : ∀ (f : Nat) (listed : Array Bool) (a : Act) (w : World),
    (∀ j oj, ops[j]? = some oj → j ≠ i → listed.getD j true = false → (∀ e ∈ oj.after, Region.binds md e = true → e.on ≠ i) → oi.apart ops oj = true) →
    i ∈ Region.ready md ops listed → YieldsIf P ops S oi v a → S w → anyT P md ops Q S t f (listed.setIfInBounds i true) (a.put oi.dst v) w → anyT P md ops Q S t (f + 1) listed a w := by
  intro f
  induction f with
  | zero =>
    intro listed a w _ hr hy hS H
    refine ⟨fun h => (by rw [h] at hr; cases hr), fun j hj => ?_⟩
    by_cases e : j = i
    · subst e; exact hy.wpOp hi hS ⟨fun _ => hS, H⟩
    · have := ready_mono hj e
      rw [H.1] at this
      cases this
  | succ f ih =>
    intro listed a w hfree hr hy hS H
    refine ⟨fun h => (by rw [h] at hr; cases hr), fun j hj => ?_⟩
    by_cases e : j = i
    · subst e; exact hy.wpOp hi hS ⟨fun _ => hS, H⟩
    · have hjt : j ≠ t := fun q => waits_not hw hr (by rw [← q]; exact hj)
      have h1 := H.2 j (ready_mono hj e)
      obtain ⟨hun, oj, hoj, hall⟩ := mem_ready.1 hj
      have hno : ∀ e ∈ oj.after, Region.binds md e = true → e.on ≠ i := fun e he hb q => by
        have h2 := hall e he hb
        have h0 := (mem_ready.1 hr).1
        rw [q] at h2
        rcases Nat.lt_or_ge i listed.size with h' | h'
        · simp [h'] at h0 h2; rw [h0] at h2; cases h2
        · simp [Array.getElem?_eq_none h'] at h2
      have h2 := wpOp_putIf hoj (hfree j oj hoj e hun hno) (fun cs b => hsel i oi cs b hi) (fun cs b => hsel j oj cs b hoj) hQ hy h1
      refine wpOp_mono (fun a' w' h3 => ⟨h3.2.1, ih (listed.setIfInBounds j true) a' w' ?_ (ready_mono hr (Ne.symm e)) h3.1 (h3.2.1 hjt) ?_⟩) h2
      · intro k ok hk hki hunk hnok
        refine hfree k ok hk hki ?_ hnok
        by_cases g : j = k
        · subst g; exact hun
        · rw [getD_set_ne true g] at hunk; exact hunk
      · rw [Array.setIfInBounds_comm _ _ e]
        exact h3.2.2

/-- number i is taken first -/
theorem takeT {i d : Nat} {oi : Oper} {v : Value} {f : Nat} {listed : Array Bool} {tmps : Array Value} {defers : List Deferred} {w : World} (hi : ops[i]? = some oi) (hd : oi.dst = some d)
    (hs : Region.noSelect ops = true) (hf : Region.free md ops listed i = true) (hr : (Region.ready md ops listed).contains i = true)
    (hQ : ∀ c a w, Q (.panic c) (a.put oi.dst v) w → Q (.panic c) a w) (hit : i ≠ t) (hwt : waits md ops t i = true) (hw : Region.wanted oi (yielded ops tmps) = true)
    (hy : ∀ w, S w → (execOp (Act.eval ⟨tmps, defers⟩) oi).run P w = .ok (.value v) w) (hS : S w)
    (h : anyT P md ops Q S t f (listed.setIfInBounds i true) ⟨tmps.setIfInBounds d v, defers⟩ w) : anyT P md ops Q S t (f + 1) listed ⟨tmps, defers⟩ w := by
  refine anyT_first hi (Region.noSelect_spec hs) hQ hit hwt f listed _ w (Region.free_spec hi hf) (by simpa using hr) (Or.inl ⟨hw, hy⟩) hS ?_
  rw [hd]
  exact h
/-- the only one that may come up -/
theorem oneT {i : Nat} {o : Oper} {f : Nat} {listed : Array Bool} {a : Act} {w : World} (ho : ops[i]? = some o) (hr : Region.ready md ops listed = [i])
    (h : ∀ K' : Act → World → Prop, Shut (∀ a w, (i ≠ t → S w) → anyT P md ops Q S t f (listed.setIfInBounds i true) a w → K' a w) → if Region.wanted o (yielded ops a.tmps) = true then Oper.wp P o a w K' Q else K' (a.put o.dst undef) w) :
    anyT P md ops Q S t (f + 1) listed a w := by
  refine ⟨fun h0 => (by rw [hr] at h0; cases h0), fun j hj => ?_⟩
  rw [hr] at hj
  obtain rfl : j = i := by simpa using hj
  exact wpOp_step ho (fun K' hK => h K' (fun a w hS hW => hK a w ⟨hS, hW⟩))
theorem doneT {listed : Array Bool} {a : Act} {w : World} (hr : Region.ready md ops listed = []) (h : Q .normal a w) : ∀ f, anyT P md ops Q S t f listed a w
  | 0 => ⟨hr, h⟩
  | _ + 1 => ⟨fun _ => h, by rw [hr]; simp⟩
end
end Go.Proofs.YtemikhnkjligdaaGreatDoor

/- A region that draws its order: what is taken first under a condition on the world that holds behind every operation; the condition may grow on the way. No program in sight. -/
namespace Go.Proofs.YtemikhnkjligdaaGreatDoor
open Go

section
variable {P : Program} {ops : Array Oper} {Q : Exit → Act → World → Prop} {md : Region.Mode} {S S2 : World → Prop} {t : Nat}
theorem anyT_imp (h : ∀ w, S2 w → S w) : ∀ (f : Nat) {listed : Array Bool} {a : Act} {w : World}, anyT P md ops Q S2 t f listed a w → anyT P md ops Q S t f listed a w
  | 0, _, _, _, g => g
  | f + 1, _, _, _, g => ⟨g.1, fun j hj => wpOp_mono (fun _ _ q => ⟨fun hne => h _ (q.1 hne), anyT_imp h f q.2⟩) (g.2 j hj)⟩
theorem anyT_firstS {i : Nat} {oi : Oper} {v : Value} (hi : ops[i]? = some oi) (hsel : ∀ (j : Nat) (o : Oper) cs b, ops[j]? = some o → o.op ≠ .select cs b)
    (hQ : ∀ c a w, Q (.panic c) (a.put oi.dst v) w → Q (.panic c) a w) (hit : ops.size ≤ t) : ∀ (f : Nat) (listed : Array Bool) (a : Act) (w : World),
    (∀ j oj, ops[j]? = some oj → j ≠ i → listed.getD j true = false → (∀ e ∈ oj.after, Region.binds md e = true → e.on ≠ i) → oi.apart ops oj = true) →
    i ∈ Region.ready md ops listed → YieldsIf P ops S oi v a → S w → anyT P md ops Q S t f (listed.setIfInBounds i true) (a.put oi.dst v) w → anyT P md ops Q S t (f + 1) listed a w := by
  intro f
  induction f with
  | zero =>
    intro listed a w _ hr hy hS H
    refine ⟨fun h => (by rw [h] at hr; cases hr), fun j hj => ?_⟩
    by_cases e : j = i
    · subst e; exact hy.wpOp hi hS ⟨fun _ => hS, H⟩
    · have := ready_mono hj e
      rw [H.1] at this
      cases this
  | succ f ih =>
    intro listed a w hfree hr hy hS H
    refine ⟨fun h => (by rw [h] at hr; cases hr), fun j hj => ?_⟩
    by_cases e : j = i
    · subst e; exact hy.wpOp hi hS ⟨fun _ => hS, H⟩
    · have h1 := H.2 j (ready_mono hj e)
      obtain ⟨hun, oj, hoj, hall⟩ := mem_ready.1 hj
      have hjt : j ≠ t := fun q => by
        have := (Array.getElem?_eq_some_iff.1 hoj).1
        omega
      have hno : ∀ e ∈ oj.after, Region.binds md e = true → e.on ≠ i := fun e he hb q => by
        have h2 := hall e he hb
        have h0 := (mem_ready.1 hr).1
        rw [q] at h2
        rcases Nat.lt_or_ge i listed.size with h' | h'
        · simp [h'] at h0 h2; rw [h0] at h2; cases h2
        · simp [Array.getElem?_eq_none h'] at h2
      have h2 := wpOp_putIf hoj (hfree j oj hoj e hun hno) (fun cs b => hsel i oi cs b hi) (fun cs b => hsel j oj cs b hoj) hQ hy h1
      refine wpOp_mono (fun a' w' h3 => ⟨h3.2.1, ih (listed.setIfInBounds j true) a' w' ?_ (ready_mono hr (Ne.symm e)) h3.1 (h3.2.1 hjt) ?_⟩) h2
      · intro k ok hk hki hunk hnok
        refine hfree k ok hk hki ?_ hnok
        by_cases g : j = k
        · subst g; exact hun
        · rw [getD_set_ne true g] at hunk; exact hunk
      · rw [Array.setIfInBounds_comm _ _ e]
        exact h3.2.2
/-- number i is taken first; S holds behind every operation -/
theorem takeS {i d : Nat} {oi : Oper} {v : Value} {f : Nat} {listed : Array Bool} {tmps : Array Value} {defers : List Deferred} {w : World} (hi : ops[i]? = some oi) (hd : oi.dst = some d)
    (hs : Region.noSelect ops = true) (hf : Region.free md ops listed i = true) (hr : (Region.ready md ops listed).contains i = true)
    (hQ : ∀ c a w, Q (.panic c) (a.put oi.dst v) w → Q (.panic c) a w) (hit : ops.size ≤ t) (hw : Region.wanted oi (yielded ops tmps) = true)
    (hy : ∀ w, S w → (execOp (Act.eval ⟨tmps, defers⟩) oi).run P w = .ok (.value v) w) (hS : S w)
    (h : anyT P md ops Q S t f (listed.setIfInBounds i true) ⟨tmps.setIfInBounds d v, defers⟩ w) : anyT P md ops Q S t (f + 1) listed ⟨tmps, defers⟩ w := by
  refine anyT_firstS hi (Region.noSelect_spec hs) hQ hit f listed _ w (Region.free_spec hi hf) (by simpa using hr) (Or.inl ⟨hw, hy⟩) hS ?_
  rw [hd]
  exact h
/-- one of two may come up -/
theorem twoT {i j : Nat} {o o' : Oper} {f : Nat} {listed : Array Bool} {a : Act} {w : World} (ho : ops[i]? = some o) (ho' : ops[j]? = some o') (hr : Region.ready md ops listed = [i, j])
    (h : ∀ K' : Act → World → Prop, Shut (∀ a w, (i ≠ t → S w) → anyT P md ops Q S t f (listed.setIfInBounds i true) a w → K' a w) → if Region.wanted o (yielded ops a.tmps) = true then Oper.wp P o a w K' Q else K' (a.put o.dst undef) w)
    (h' : ∀ K' : Act → World → Prop, Shut (∀ a w, (j ≠ t → S w) → anyT P md ops Q S t f (listed.setIfInBounds j true) a w → K' a w) → if Region.wanted o' (yielded ops a.tmps) = true then Oper.wp P o' a w K' Q else K' (a.put o'.dst undef) w) :
    anyT P md ops Q S t (f + 1) listed a w := by
  refine ⟨fun h0 => (by rw [hr] at h0; cases h0), fun k hk => ?_⟩
  rw [hr] at hk
  simp only [List.mem_cons, List.not_mem_nil, or_false] at hk
  rcases hk with rfl | rfl
  · exact wpOp_step ho (fun K' hK => h K' (fun a w hS hW => hK a w ⟨hS, hW⟩))
  · exact wpOp_step ho' (fun K' hK => h' K' (fun a w hS hW => hK a w ⟨hS, hW⟩))
end
end Go.Proofs.YtemikhnkjligdaaGreatDoor

/- The walks of route.Person.able and route.needsAt. -/
namespace Go.Proofs.YtemikhnkjligdaaGreatDoor
open Go.RowKit

set_option maxRecDepth 100000 in
set_option maxHeartbeats 1000000 in
theorem able_any (p : PerD) (vs vn : Value) (nd : List Skl) (w : World) (hs : Skls w vs p.sk) (hsl : p.sk.length ≤ 12) (h : Skls w vn nd) (hl : nd.length ≤ 100) :
    Calls Tryz.prog 57 #[.agg #[.int .i64 p.no, .int .i64 p.cap, .int .i64 p.cl, vs], vn] w fun e w' => e = .returned (.bool (ableF p nd)) ∧ Below w.heap.size w w' := by
  obtain ⟨x1, x2, x3, sk⟩ := p
  simp only at hs hsl
  obtain ⟨a, cap, rfl⟩ := SliceAt.len h
  obtain ⟨sa, sc, rfl⟩ := SliceAt.len hs
  have H := Lib.hid h
  have HS := Lib.hid hs
  obtain ⟨bx, bbl⟩ := box1 w #[.int .i64 x1, .int .i64 x2, .int .i64 x3, .slice sa sk.length sc] 65
  have HBX := Lib.hid bx
  have HB1 := Lib.hid bbl
  obtain ⟨q, hq⟩ : ∃ q, ableF ⟨x1, x2, x3, sk⟩ nd = q := ⟨_, rfl⟩
  have HQ := Lib.hid hq
  rw [hq]
  clear h hs hq
  go_enter Tryz.func57, Tryz.ntmps57
  go_upto_region 1 with fail
  generalize w.alloc (.cells #[.int .i64 x1, .int .i64 x2, .int .i64 x3, .slice sa sk.length sc] 65) = w1 at *
  clear bx bbl
  go_wp2_with fail
  go_loopw [9] (fun iv wr => ∃ i : Nat, iv = .int .i64 ((i : Nat) : Int) ∧ i ≤ nd.length ∧ (nd.take i).all (fun n => sk.any fun s => (s.1.toList == n.1.toList) && decide (n.2 ≤ s.2)) = true ∧ Below w.heap.size w wr ∧ Has wr w.heap.size #[.int .i64 x1, .int .i64 x2, .int .i64 x3, .slice sa sk.length sc] 65) (fun iv _ => nd.length - (intOf iv).toNat)
  case atStart => exact ⟨0, rfl, Nat.zero_le _, by simp, HB1.out, HBX.out⟩
  case round =>
    obtain ⟨i, rfl, hi, hall, hbr, hx⟩ := hrel
    have HALL := Lib.hid hall
    have HBR := Lib.hid hbr
    have HX := Lib.hid hx
    have k3 := hx.cell 3
    clear hall hbr hx
    by_cases hlt : i < nd.length
    · obtain ⟨b, off, cap', hv, hb, hel⟩ := Skls.at (H.out.below HBR.out) (by omega)
      cases hv
      obtain ⟨e0, e1, hz⟩ := hel i hlt
      clear hel
      obtain ⟨en, hen⟩ : ∃ en, en = nd[i] := ⟨_, rfl⟩
      rw [← hen] at e0 e1 hz
      obtain ⟨nm', rk⟩ := en
      simp only at e0 e1 hz
      have HEN := Lib.hid hen
      obtain ⟨by', bbl⟩ := box1 wr #[.string nm', .int .i64 rk] 96
      have HB4 := Lib.hid (below_up HBR.out bbl HBR.out.size)
      have HX4 := Lib.hid (HX.out.below bbl HX.out.lt)
      have HCA := Lib.hid (ContainsAbl_any (.slice sa sk.length sc) sk nm' rk wr.heap.size _ (HS.out.below HB4.out) (by'.cell 0) (by'.cell 1) by'.lt (by omega))
      have HHY := Lib.hid by'
      have k3 := HX4.out.cell 3
      clear hen
      go_upto_region 4 with fail
      generalize wr.alloc (.cells #[.string nm', .int .i64 rk] 96) = wb at *
      clear by' bbl e0 e1
      go_wp2_with fail
      refine HCA.out.mono ?_
      rintro e w7 ⟨rfl, hb7⟩
      have HB7 := Lib.hid (below_up HB4.out hb7 HB4.out.size)
      have HX7 := Lib.hid (HX4.out.below hb7 HX4.out.lt)
      clear hb7 HCA k3
      obtain ⟨t, ht⟩ : ∃ t, (sk.any fun s => (s.1.toList == nm'.toList) && decide (rk ≤ s.2)) = t := ⟨_, rfl⟩
      rw [ht]
      have HT := Lib.hid ht
      clear ht
      cases t with
      | true =>
        go_wp2_with fail
        go_roundw
        case rel =>
          refine ⟨i + 1, by go_num, hlt, ?_, HB7.out, HX7.out⟩
          rw [List.take_succ_eq_append_getElem hlt, List.all_append, HALL.out, ← HEN.out]
          simp only [List.all_cons, List.all_nil, Bool.and_true, Bool.true_and]
          exact HT.out
        case measure => simp [intOf]; omega
      | false =>
        have HF := Lib.hid (show q = false from by
          rw [← HQ.out]
          unfold ableF
          rw [List.all_eq_false]
          refine ⟨nd[i], List.getElem_mem hlt, ?_⟩
          rw [← HEN.out]
          simp only
          rw [HT.out]
          decide)
        go_wp2_with fail
        go_ret
        exact ⟨by rw [HF.out]; rfl, HB7.out⟩
    · obtain rfl : i = nd.length := by omega
      have HF := Lib.hid (show q = true from by
        rw [← HQ.out]
        have := HALL.out
        rw [List.take_length] at this
        exact this)
      go_wp2_with fail
      go_ret
      exact ⟨by rw [HF.out]; rfl, HBR.out⟩
end Go.Proofs.YtemikhnkjligdaaGreatDoor
