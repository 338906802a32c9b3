/- A keeper in memory, and what it is after one of its clocks has been turned. -/
import Derived.Test.YtllcgcnebofdoaaGreatDoorQCkCut
namespace Go.Proofs.YtllcgcnebofdoaaGreatDoor
open Go.RowKit

/-- a clock's block, the value of its pieces' slice, what it is -/
abbrev Rc := Nat × Value × RunD
def Apart2 (a b : Value) : Prop := ∀ k, a.ownBlock = some k → b.ownBlock ≠ some k
def rcPtr (x : Rc) : Value := .pointer (some ⟨x.1, 0, none⟩)
structure KM (w : World) (B K : Nat) (vp vl : Value) (lev : Int) (vk : Value) (l : List Rc) : Prop where
  box : Has w K #[vp, vl, .int .i64 lev, vk] 67
  row : w.ownsRow B 70 1 vk l.length (l.map rcPtr)
  has : ∀ i (h : i < l.length), RM w B l[i].1 l[i].2.1 l[i].2.2
  nod : ∀ i j (hi : i < l.length) (hj : j < l.length), i ≠ j → l[i].1 ≠ l[j].1
  ne : ∀ i j (hi : i < l.length) (hj : j < l.length), i ≠ j → Apart2 l[i].2.1 l[j].2.1
  kb : B ≤ K
def runsOf (l : List Rc) : List RunD := l.map fun x => x.2.2
theorem KM.below {w w' : World} {B K : Nat} {vp vl vk : Value} {lev : Int} {l : List Rc} (h : KM w B K vp vl lev vk l) (hb : Below w.heap.size w w') : KM w' B K vp vl lev vk l :=
  ⟨h.box.below hb h.box.lt, owns_below h.row hb, fun i hi => (h.has i hi).below hb, h.nod, h.ne, h.kb⟩
theorem RM.other {w w' : World} {B b b0 : Nat} {v v0 : Value} {r : RunD} (hm : RM w B b v r) (h1 : One2 w w' b0 v0) (hb : b ≠ b0) (hv : v0.ownBlock ≠ some b) (hps : ∀ k, v.ownBlock = some k → k ≠ b0 ∧ v0.ownBlock ≠ some k) : RM w' B b v r := by
  refine ⟨(h1.block b hm.box.lt hb hv).trans hm.box, ?_, hm.le⟩
  refine ⟨hm.ps.1, ?_⟩
  rcases hm.ps.2 with q | ⟨g, cap, cur, hvv, hg, hh, r⟩
  · exact .inl q
  · have hk := hps g (by rw [hvv]; rfl)
    exact .inr ⟨g, cap, cur, hvv, hg, (h1.block g (Array.getElem?_eq_some_iff.1 hh).1 hk.1 hk.2).trans hh, r⟩
/-- one clock is turned -/
theorem KM.upd {w w' : World} {B K : Nat} {vp vl vk : Value} {lev : Int} {l : List Rc} (h : KM w B K vp vl lev vk l) {i : Nat} (hi : i < l.length) {v' : Value} {r' : RunD} (hm : RM w' B l[i].1 v' r') (h1 : One2 w w' l[i].1 l[i].2.1) (hf : Fr w l[i].2.1 v') :
    KM w' B K vp vl lev vk (l.set i (l[i].1, v', r')) := by
  have hk := h1.keepsR (h.has i hi)
  have hty : ∀ j (hj : j < l.length), l[i].2.1.ownBlock ≠ some l[j].1 := fun j hj q => by
    obtain ⟨ds, hd⟩ := own_type (h.has i hi).ps q
    have hb : w.heap[l[j].1]? = some (.cells (runV l[j].2.2 l[j].2.1) 74 (0, 0)) := (h.has j hj).box
    rw [hb] at hd
    cases hd
  have hty2 : ∀ j (hj : j < l.length) k, l[j].2.1.ownBlock = some k → k ≠ l[i].1 := fun j hj k q e => by
    obtain ⟨ds, hd⟩ := own_type (h.has j hj).ps q
    have hb : w.heap[l[i].1]? = some (.cells (runV l[i].2.2 l[i].2.1) 74 (0, 0)) := (h.has i hi).box
    rw [e, hb] at hd
    cases hd
  refine ⟨h.box.keepsR hk (by decide) (by decide), ?_, fun j hj => ?_, fun j k hj hk' hne => ?_, fun j k hj hk' hne => ?_, h.kb⟩
  · have e : (l.set i (l[i].1, v', r')).map rcPtr = l.map rcPtr := by
      rw [List.map_set]
      apply List.ext_getElem
      · simp
      · intro j h1 h2
        by_cases g : i = j
        · subst g; simp [rcPtr]
        · rw [List.getElem_set_ne g]
    rw [e, List.length_set]
    exact owns_keepsR h.row hk (by decide) (by decide)
  · rw [List.length_set] at hj
    by_cases g : i = j
    · subst g
      simp only [List.getElem_set_self]
      exact hm
    · simp only [List.getElem_set_ne g]
      exact (h.has j hj).other h1 (h.nod j i hj hi (Ne.symm g)) (hty j hj) (fun k q => ⟨hty2 j hj k q, fun q2 => h.ne i j hi hj g k q2 q⟩)
  · rw [List.length_set] at hj hk'
    by_cases g : i = j
    · subst g
      simp only [List.getElem_set_self, List.getElem_set_ne hne]
      exact h.nod i k hi hk' hne
    · by_cases g2 : i = k
      · subst g2
        simp only [List.getElem_set_self, List.getElem_set_ne g]
        exact h.nod j i hj hi hne
      · simp only [List.getElem_set_ne g, List.getElem_set_ne g2]
        exact h.nod j k hj hk' hne
  · rw [List.length_set] at hj hk'
    have hold : ∀ m (hm' : m < l.length), i ≠ m → ∀ q, v'.ownBlock = some q → l[m].2.1.ownBlock ≠ some q := fun m hm' hne' q hq e => by
      rcases hf q hq with g | g
      · exact h.ne i m hi hm' hne' q g e
      · have := ((h.has m hm').ps.lt q e).2
        omega
    by_cases g : i = j
    · subst g
      simp only [List.getElem_set_self, List.getElem_set_ne hne]
      exact fun q hq => hold k hk' hne q hq
    · by_cases g2 : i = k
      · subst g2
        simp only [List.getElem_set_self, List.getElem_set_ne g]
        exact fun q hq e => hold j hj g q e hq
      · simp only [List.getElem_set_ne g, List.getElem_set_ne g2]
        exact h.ne j k hj hk' hne
theorem each_next (f : RunD → RunD) (R : List RunD) {i : Nat} (hi : i < R.length) : eachF f (R.take (i + 1)) ++ R.drop (i + 1) = (eachF f (R.take i) ++ R.drop i).set i (if R[i].c.fin = 0 then f R[i] else R[i]) := by
  have hl : (eachF f (R.take i)).length = i := by rw [each_len, List.length_take]; omega
  rw [List.set_append_right _ _ (by omega), hl, Nat.sub_self, List.drop_eq_getElem_cons hi, List.set_cons_zero, List.take_succ_eq_append_getElem hi]
  unfold eachF
  rw [List.map_append]
  simp
theorem each_at (f : RunD → RunD) (R : List RunD) {i : Nat} (hi : i < R.length) {L : List RunD} (h : L = eachF f (R.take i) ++ R.drop i) : L[i]? = some R[i] := by
  have hl : (eachF f (R.take i)).length = i := by rw [each_len, List.length_take]; omega
  rw [h, List.getElem?_append_right (by omega), hl, Nat.sub_self, List.drop_eq_getElem_cons hi]
  rfl
structure EachI (w wr : World) (B K : Nat) (vp vl vk : Value) (lev : Int) (f : RunD → RunD) (J : World → Prop) (R : List RunD) (i : Nat) : Prop where
  le : i ≤ R.length
  mem : ∃ l', KM wr B K vp vl lev vk l' ∧ runsOf l' = eachF f (R.take i) ++ R.drop i
  below : Below B w wr
  keeps : KeepsR w wr
  j : J wr
def EachPost (w : World) (B K : Nat) (vp vl vk : Value) (lev : Int) (f : RunD → RunD) (J : World → Prop) (R : List RunD) (e : Ending) (w' : World) : Prop :=
  (∃ u, e = .returned u) ∧ (∃ l', KM w' B K vp vl lev vk l' ∧ runsOf l' = eachF f R) ∧ Below B w w' ∧ KeepsR w w' ∧ J w'
end Go.Proofs.YtllcgcnebofdoaaGreatDoor

/- The walk of the keeper's each, at each of the functions that it is called with. -/
namespace Go.Proofs.YtllcgcnebofdoaaGreatDoor
open Go.RowKit

set_option maxRecDepth 100000 in
set_option maxHeartbeats 4000000 in
theorem each_met (f : RunD → RunD) (J : World → Prop) (c1 c2 c3 : Value) (B K : Nat) (vp vl vk : Value) (lev : Int) (l : List Rc) (w : World) (h : KM w B K vp vl lev vk l) (hj0 : J w) (hB : B ≤ w.heap.size)
    (hJ : ∀ W W', J W → Below B W W' → KeepsR W W' → J W') (hok : ∀ r ∈ runsOf l, RunOk r ∧ r.c.ps.length ≤ 1000000) (hl : l.length ≤ 1000000)
    (hshow : ∀ W b v r, J W → RM W B b v r → RunOk r → r.c.ps.length ≤ 1000000 → B ≤ W.heap.size → Calls Tryz.prog 44 #[.pointer (some ⟨b, 0, none⟩), c1, c2, c3] W (RunPost W B b v (f r))) :
    Calls Tryz.prog 43 #[.pointer (some ⟨K, 0, none⟩), .func (.func 44) #[] #[c1, c2, c3]] w (EachPost w B K vp vl vk lev f J (runsOf l)) := by
  have hlr : (runsOf l).length = l.length := by simp [runsOf]
  obtain ⟨ka, kc, rfl⟩ := owns_slice h.row
  have HI0 := Lib.hid (show EachI w w B K vp vl (.slice ka l.length kc) lev f J (runsOf l) 0 from ⟨Nat.zero_le _, ⟨l, h, by simp [eachF]⟩, Below.refl _ _, KeepsR.refl _, hj0⟩)
  have k3 := h.box.cell 3
  have HJ := Lib.hid hJ
  have HOK := Lib.hid hok
  have HSH := Lib.hid hshow
  clear h hj0 hJ hok hshow
  generalize hR : runsOf l = R at *
  generalize l.length = n at *
  subst hlr
  clear hR
  go_enter Tryz.func43, Tryz.ntmps43
  go_wp2_with fail
  go_loopw [11] (fun iv wr => ∃ i : Nat, iv = .int .i64 ((i : Nat) : Int) ∧ EachI w wr B K vp vl (.slice ka R.length kc) lev f J R i) (fun iv _ => R.length - (intOf iv).toNat)
  case atStart => exact ⟨0, rfl, HI0.out⟩
  case round =>
    obtain ⟨i, rfl, hI⟩ := hrel
    have HI := Lib.hid hI
    have hi := hI.le
    obtain ⟨l', hM, hRR⟩ := hI.mem
    have hln : l'.length = R.length := by
      have := congrArg List.length hRR
      rw [List.length_append, each_len, List.length_take, List.length_drop] at this
      simp [runsOf] at this
      omega
    have HM := Lib.hid hM
    have HRR := Lib.hid hRR
    clear hI HI0 k3 hM hRR
    by_cases hlt : i < R.length
    · have hlt2 : i < l'.length := by omega
      have hat := each_at f R hlt HRR.out
      have hri : l'[i].2.2 = R[i] := by
        have : (runsOf l')[i]? = some l'[i].2.2 := by simp [runsOf, hlt2]
        rw [this] at hat
        exact Option.some.inj hat
      have hrow := HM.out.row
      rw [hln] at hrow
      obtain ⟨g, cap, hv, hgB, hgw⟩ := hrow.form (by omega)
      cases hv
      have c0 : wr.cell? ⟨g, i, none⟩ = some (.pointer (some ⟨l'[i].1, 0, none⟩)) := by
        rw [hrow.cellAt i (by omega)]
        simp [hlt2, rcPtr]
      have hbx := (HM.out.has i hlt2).box
      have k5 : wr.cell? ⟨l'[i].1, 5, none⟩ = some (.int .i64 R[i].c.fin) := by
        rw [← hri]
        exact hbx.cell 5
      have HNX := Lib.hid (each_next f R hlt)
      obtain ⟨ho1, ho2⟩ := HOK.out _ (List.getElem_mem hlt)
      have HSW := Lib.hid (HSH.out wr l'[i].1 l'[i].2.1 R[i] HI.out.j (by rw [← hri]; exact HM.out.has i hlt2) ho1 ho2 (Nat.le_trans hB HI.out.below.size))
      have HUP := Lib.hid (fun (w' : World) (v' : Value) (r' : RunD) (hm : RM w' B l'[i].1 v' r') (h1 : One2 wr w' l'[i].1 l'[i].2.1) (hf : Fr wr l'[i].2.1 v') => (⟨HM.out.upd hlt2 hm h1 hf, h1.below (HM.out.has i hlt2) (Nat.le_trans hB HI.out.below.size), h1.keepsR (HM.out.has i hlt2)⟩ : KM w' B K vp vl lev (.slice (some ⟨g, 0, none⟩) R.length kc) (l'.set i (l'[i].1, v', r')) ∧ Below B wr w' ∧ KeepsR wr w'))
      have HRS := Lib.hid (fun (v' : Value) (r' : RunD) => show runsOf (l'.set i (l'[i].1, v', r')) = (runsOf l').set i r' by simp [runsOf, List.map_set])
      have HST := Lib.hid (show R[i].c.fin ≠ 0 → eachF f (R.take (i + 1)) ++ R.drop (i + 1) = runsOf l' from fun hne => by
        rw [HNX.out, if_neg hne, ← HRR.out]
        have : (runsOf l')[i]? = some R[i] := hat
        obtain ⟨hj, he⟩ := List.getElem?_eq_some_iff.1 this
        rw [← he, List.set_getElem_self])
      clear hrow hat hbx hri ho1 ho2 HSH
      generalize l'[i].1 = b at *
      generalize l'[i].2.1 = v at *
      by_cases hf : R[i].c.fin = 0
      · rw [if_pos hf] at HNX
        rw [hf] at k5
        clear HST hf
        generalize R[i] = r at *
        go_wp2_with fail
        refine HSW.out.mono ?_
        rintro e w3 ⟨⟨u, rfl⟩, v', hm, h1, hfr⟩
        obtain ⟨hM3, hb3, hk3⟩ := HUP.out w3 v' (f r) hm h1 hfr
        have HIN := Lib.hid (show EachI w w3 B K vp vl (.slice (some ⟨g, 0, none⟩) R.length kc) lev f J R (i + 1) from ⟨hlt, ⟨_, hM3, by rw [HRS.out, HRR.out, HNX.out]⟩, HI.out.below.trans hb3, HI.out.keeps.trans hk3, HJ.out _ _ HI.out.j hb3 hk3⟩)
        clear hm h1 hfr hM3 hb3 hk3 HSW HUP HRS HNX
        go_wp2_with fail
        go_roundw
        case rel => exact ⟨i + 1, by go_num, HIN.out⟩
        case measure => simp [intOf]; omega
      · have q1 : (R[i].c.fin == 0) = false := by simpa using hf
        have q2 : decide (R[i].c.fin = 0) = false := decide_eq_false hf
        have HIN := Lib.hid (show EachI w wr B K vp vl (.slice (some ⟨g, 0, none⟩) R.length kc) lev f J R (i + 1) from ⟨hlt, ⟨l', HM.out, (HST.out hf).symm⟩, HI.out.below, HI.out.keeps, HI.out.j⟩)
        clear hf HSW HUP HRS HNX HST
        generalize R[i].c.fin = fi at *
        go_wp2_with fail
        go_roundw
        case rel => exact ⟨i + 1, by go_num, HIN.out⟩
        case measure => simp [intOf]; omega
    · obtain rfl : i = R.length := by omega
      have HZ := Lib.hid (show EachPost w B K vp vl (.slice ka R.length kc) lev f J R (.returned (.tuple #[])) wr from ⟨⟨_, rfl⟩, ⟨l', HM.out, by rw [HRR.out, List.take_length, List.drop_length, List.append_nil]⟩, HI.out.below, HI.out.keeps, HI.out.j⟩)
      clear HM HRR HI
      go_wp2_with fail
      go_end0
      exact HZ.out

set_option maxRecDepth 100000 in
set_option maxHeartbeats 4000000 in
theorem each_chs (f : RunD → RunD) (J : World → Prop) (c1 c2 c3 : Value) (B K : Nat) (vp vl vk : Value) (lev : Int) (l : List Rc) (w : World) (h : KM w B K vp vl lev vk l) (hj0 : J w) (hB : B ≤ w.heap.size)
    (hJ : ∀ W W', J W → Below B W W' → KeepsR W W' → J W') (hok : ∀ r ∈ runsOf l, RunOk r ∧ r.c.ps.length ≤ 1000000) (hl : l.length ≤ 1000000)
    (hshow : ∀ W b v r, J W → RM W B b v r → RunOk r → r.c.ps.length ≤ 1000000 → B ≤ W.heap.size → Calls Tryz.prog 79 #[.pointer (some ⟨b, 0, none⟩), c1, c2, c3] W (RunPost W B b v (f r))) :
    Calls Tryz.prog 43 #[.pointer (some ⟨K, 0, none⟩), .func (.func 79) #[] #[c1, c2, c3]] w (EachPost w B K vp vl vk lev f J (runsOf l)) := by
  have hlr : (runsOf l).length = l.length := by simp [runsOf]
  obtain ⟨ka, kc, rfl⟩ := owns_slice h.row
  have HI0 := Lib.hid (show EachI w w B K vp vl (.slice ka l.length kc) lev f J (runsOf l) 0 from ⟨Nat.zero_le _, ⟨l, h, by simp [eachF]⟩, Below.refl _ _, KeepsR.refl _, hj0⟩)
  have k3 := h.box.cell 3
  have HJ := Lib.hid hJ
  have HOK := Lib.hid hok
  have HSH := Lib.hid hshow
  clear h hj0 hJ hok hshow
  generalize hR : runsOf l = R at *
  generalize l.length = n at *
  subst hlr
  clear hR
  go_enter Tryz.func43, Tryz.ntmps43
  go_wp2_with fail
  go_loopw [11] (fun iv wr => ∃ i : Nat, iv = .int .i64 ((i : Nat) : Int) ∧ EachI w wr B K vp vl (.slice ka R.length kc) lev f J R i) (fun iv _ => R.length - (intOf iv).toNat)
  case atStart => exact ⟨0, rfl, HI0.out⟩
  case round =>
    obtain ⟨i, rfl, hI⟩ := hrel
    have HI := Lib.hid hI
    have hi := hI.le
    obtain ⟨l', hM, hRR⟩ := hI.mem
    have hln : l'.length = R.length := by
      have := congrArg List.length hRR
      rw [List.length_append, each_len, List.length_take, List.length_drop] at this
      simp [runsOf] at this
      omega
    have HM := Lib.hid hM
    have HRR := Lib.hid hRR
    clear hI HI0 k3 hM hRR
    by_cases hlt : i < R.length
    · have hlt2 : i < l'.length := by omega
      have hat := each_at f R hlt HRR.out
      have hri : l'[i].2.2 = R[i] := by
        have : (runsOf l')[i]? = some l'[i].2.2 := by simp [runsOf, hlt2]
        rw [this] at hat
        exact Option.some.inj hat
      have hrow := HM.out.row
      rw [hln] at hrow
      obtain ⟨g, cap, hv, hgB, hgw⟩ := hrow.form (by omega)
      cases hv
      have c0 : wr.cell? ⟨g, i, none⟩ = some (.pointer (some ⟨l'[i].1, 0, none⟩)) := by
        rw [hrow.cellAt i (by omega)]
        simp [hlt2, rcPtr]
      have hbx := (HM.out.has i hlt2).box
      have k5 : wr.cell? ⟨l'[i].1, 5, none⟩ = some (.int .i64 R[i].c.fin) := by
        rw [← hri]
        exact hbx.cell 5
      have HNX := Lib.hid (each_next f R hlt)
      obtain ⟨ho1, ho2⟩ := HOK.out _ (List.getElem_mem hlt)
      have HSW := Lib.hid (HSH.out wr l'[i].1 l'[i].2.1 R[i] HI.out.j (by rw [← hri]; exact HM.out.has i hlt2) ho1 ho2 (Nat.le_trans hB HI.out.below.size))
      have HUP := Lib.hid (fun (w' : World) (v' : Value) (r' : RunD) (hm : RM w' B l'[i].1 v' r') (h1 : One2 wr w' l'[i].1 l'[i].2.1) (hf : Fr wr l'[i].2.1 v') => (⟨HM.out.upd hlt2 hm h1 hf, h1.below (HM.out.has i hlt2) (Nat.le_trans hB HI.out.below.size), h1.keepsR (HM.out.has i hlt2)⟩ : KM w' B K vp vl lev (.slice (some ⟨g, 0, none⟩) R.length kc) (l'.set i (l'[i].1, v', r')) ∧ Below B wr w' ∧ KeepsR wr w'))
      have HRS := Lib.hid (fun (v' : Value) (r' : RunD) => show runsOf (l'.set i (l'[i].1, v', r')) = (runsOf l').set i r' by simp [runsOf, List.map_set])
      have HST := Lib.hid (show R[i].c.fin ≠ 0 → eachF f (R.take (i + 1)) ++ R.drop (i + 1) = runsOf l' from fun hne => by
        rw [HNX.out, if_neg hne, ← HRR.out]
        have : (runsOf l')[i]? = some R[i] := hat
        obtain ⟨hj, he⟩ := List.getElem?_eq_some_iff.1 this
        rw [← he, List.set_getElem_self])
      clear hrow hat hbx hri ho1 ho2 HSH
      generalize l'[i].1 = b at *
      generalize l'[i].2.1 = v at *
      by_cases hf : R[i].c.fin = 0
      · rw [if_pos hf] at HNX
        rw [hf] at k5
        clear HST hf
        generalize R[i] = r at *
        go_wp2_with fail
        refine HSW.out.mono ?_
        rintro e w3 ⟨⟨u, rfl⟩, v', hm, h1, hfr⟩
        obtain ⟨hM3, hb3, hk3⟩ := HUP.out w3 v' (f r) hm h1 hfr
        have HIN := Lib.hid (show EachI w w3 B K vp vl (.slice (some ⟨g, 0, none⟩) R.length kc) lev f J R (i + 1) from ⟨hlt, ⟨_, hM3, by rw [HRS.out, HRR.out, HNX.out]⟩, HI.out.below.trans hb3, HI.out.keeps.trans hk3, HJ.out _ _ HI.out.j hb3 hk3⟩)
        clear hm h1 hfr hM3 hb3 hk3 HSW HUP HRS HNX
        go_wp2_with fail
        go_roundw
        case rel => exact ⟨i + 1, by go_num, HIN.out⟩
        case measure => simp [intOf]; omega
      · have q1 : (R[i].c.fin == 0) = false := by simpa using hf
        have q2 : decide (R[i].c.fin = 0) = false := decide_eq_false hf
        have HIN := Lib.hid (show EachI w wr B K vp vl (.slice (some ⟨g, 0, none⟩) R.length kc) lev f J R (i + 1) from ⟨hlt, ⟨l', HM.out, (HST.out hf).symm⟩, HI.out.below, HI.out.keeps, HI.out.j⟩)
        clear hf HSW HUP HRS HNX HST
        generalize R[i].c.fin = fi at *
        go_wp2_with fail
        go_roundw
        case rel => exact ⟨i + 1, by go_num, HIN.out⟩
        case measure => simp [intOf]; omega
    · obtain rfl : i = R.length := by omega
      have HZ := Lib.hid (show EachPost w B K vp vl (.slice ka R.length kc) lev f J R (.returned (.tuple #[])) wr from ⟨⟨_, rfl⟩, ⟨l', HM.out, by rw [HRR.out, List.take_length, List.drop_length, List.append_nil]⟩, HI.out.below, HI.out.keeps, HI.out.j⟩)
      clear HM HRR HI
      go_wp2_with fail
      go_end0
      exact HZ.out

set_option maxRecDepth 100000 in
set_option maxHeartbeats 4000000 in
theorem each_pau (f : RunD → RunD) (J : World → Prop) (c1 c2 : Value) (B K : Nat) (vp vl vk : Value) (lev : Int) (l : List Rc) (w : World) (h : KM w B K vp vl lev vk l) (hj0 : J w) (hB : B ≤ w.heap.size)
    (hJ : ∀ W W', J W → Below B W W' → KeepsR W W' → J W') (hok : ∀ r ∈ runsOf l, RunOk r ∧ r.c.ps.length ≤ 1000000) (hl : l.length ≤ 1000000)
    (hshow : ∀ W b v r, J W → RM W B b v r → RunOk r → r.c.ps.length ≤ 1000000 → B ≤ W.heap.size → Calls Tryz.prog 51 #[.pointer (some ⟨b, 0, none⟩), c1, c2] W (RunPost W B b v (f r))) :
    Calls Tryz.prog 43 #[.pointer (some ⟨K, 0, none⟩), .func (.func 51) #[] #[c1, c2]] w (EachPost w B K vp vl vk lev f J (runsOf l)) := by
  have hlr : (runsOf l).length = l.length := by simp [runsOf]
  obtain ⟨ka, kc, rfl⟩ := owns_slice h.row
  have HI0 := Lib.hid (show EachI w w B K vp vl (.slice ka l.length kc) lev f J (runsOf l) 0 from ⟨Nat.zero_le _, ⟨l, h, by simp [eachF]⟩, Below.refl _ _, KeepsR.refl _, hj0⟩)
  have k3 := h.box.cell 3
  have HJ := Lib.hid hJ
  have HOK := Lib.hid hok
  have HSH := Lib.hid hshow
  clear h hj0 hJ hok hshow
  generalize hR : runsOf l = R at *
  generalize l.length = n at *
  subst hlr
  clear hR
  go_enter Tryz.func43, Tryz.ntmps43
  go_wp2_with fail
  go_loopw [11] (fun iv wr => ∃ i : Nat, iv = .int .i64 ((i : Nat) : Int) ∧ EachI w wr B K vp vl (.slice ka R.length kc) lev f J R i) (fun iv _ => R.length - (intOf iv).toNat)
  case atStart => exact ⟨0, rfl, HI0.out⟩
  case round =>
    obtain ⟨i, rfl, hI⟩ := hrel
    have HI := Lib.hid hI
    have hi := hI.le
    obtain ⟨l', hM, hRR⟩ := hI.mem
    have hln : l'.length = R.length := by
      have := congrArg List.length hRR
      rw [List.length_append, each_len, List.length_take, List.length_drop] at this
      simp [runsOf] at this
      omega
    have HM := Lib.hid hM
    have HRR := Lib.hid hRR
    clear hI HI0 k3 hM hRR
    by_cases hlt : i < R.length
    · have hlt2 : i < l'.length := by omega
      have hat := each_at f R hlt HRR.out
      have hri : l'[i].2.2 = R[i] := by
        have : (runsOf l')[i]? = some l'[i].2.2 := by simp [runsOf, hlt2]
        rw [this] at hat
        exact Option.some.inj hat
      have hrow := HM.out.row
      rw [hln] at hrow
      obtain ⟨g, cap, hv, hgB, hgw⟩ := hrow.form (by omega)
      cases hv
      have c0 : wr.cell? ⟨g, i, none⟩ = some (.pointer (some ⟨l'[i].1, 0, none⟩)) := by
        rw [hrow.cellAt i (by omega)]
        simp [hlt2, rcPtr]
      have hbx := (HM.out.has i hlt2).box
      have k5 : wr.cell? ⟨l'[i].1, 5, none⟩ = some (.int .i64 R[i].c.fin) := by
        rw [← hri]
        exact hbx.cell 5
      have HNX := Lib.hid (each_next f R hlt)
      obtain ⟨ho1, ho2⟩ := HOK.out _ (List.getElem_mem hlt)
      have HSW := Lib.hid (HSH.out wr l'[i].1 l'[i].2.1 R[i] HI.out.j (by rw [← hri]; exact HM.out.has i hlt2) ho1 ho2 (Nat.le_trans hB HI.out.below.size))
      have HUP := Lib.hid (fun (w' : World) (v' : Value) (r' : RunD) (hm : RM w' B l'[i].1 v' r') (h1 : One2 wr w' l'[i].1 l'[i].2.1) (hf : Fr wr l'[i].2.1 v') => (⟨HM.out.upd hlt2 hm h1 hf, h1.below (HM.out.has i hlt2) (Nat.le_trans hB HI.out.below.size), h1.keepsR (HM.out.has i hlt2)⟩ : KM w' B K vp vl lev (.slice (some ⟨g, 0, none⟩) R.length kc) (l'.set i (l'[i].1, v', r')) ∧ Below B wr w' ∧ KeepsR wr w'))
      have HRS := Lib.hid (fun (v' : Value) (r' : RunD) => show runsOf (l'.set i (l'[i].1, v', r')) = (runsOf l').set i r' by simp [runsOf, List.map_set])
      have HST := Lib.hid (show R[i].c.fin ≠ 0 → eachF f (R.take (i + 1)) ++ R.drop (i + 1) = runsOf l' from fun hne => by
        rw [HNX.out, if_neg hne, ← HRR.out]
        have : (runsOf l')[i]? = some R[i] := hat
        obtain ⟨hj, he⟩ := List.getElem?_eq_some_iff.1 this
        rw [← he, List.set_getElem_self])
      clear hrow hat hbx hri ho1 ho2 HSH
      generalize l'[i].1 = b at *
      generalize l'[i].2.1 = v at *
      by_cases hf : R[i].c.fin = 0
      · rw [if_pos hf] at HNX
        rw [hf] at k5
        clear HST hf
        generalize R[i] = r at *
        go_wp2_with fail
        refine HSW.out.mono ?_
        rintro e w3 ⟨⟨u, rfl⟩, v', hm, h1, hfr⟩
        obtain ⟨hM3, hb3, hk3⟩ := HUP.out w3 v' (f r) hm h1 hfr
        have HIN := Lib.hid (show EachI w w3 B K vp vl (.slice (some ⟨g, 0, none⟩) R.length kc) lev f J R (i + 1) from ⟨hlt, ⟨_, hM3, by rw [HRS.out, HRR.out, HNX.out]⟩, HI.out.below.trans hb3, HI.out.keeps.trans hk3, HJ.out _ _ HI.out.j hb3 hk3⟩)
        clear hm h1 hfr hM3 hb3 hk3 HSW HUP HRS HNX
        go_wp2_with fail
        go_roundw
        case rel => exact ⟨i + 1, by go_num, HIN.out⟩
        case measure => simp [intOf]; omega
      · have q1 : (R[i].c.fin == 0) = false := by simpa using hf
        have q2 : decide (R[i].c.fin = 0) = false := decide_eq_false hf
        have HIN := Lib.hid (show EachI w wr B K vp vl (.slice (some ⟨g, 0, none⟩) R.length kc) lev f J R (i + 1) from ⟨hlt, ⟨l', HM.out, (HST.out hf).symm⟩, HI.out.below, HI.out.keeps, HI.out.j⟩)
        clear hf HSW HUP HRS HNX HST
        generalize R[i].c.fin = fi at *
        go_wp2_with fail
        go_roundw
        case rel => exact ⟨i + 1, by go_num, HIN.out⟩
        case measure => simp [intOf]; omega
    · obtain rfl : i = R.length := by omega
      have HZ := Lib.hid (show EachPost w B K vp vl (.slice ka R.length kc) lev f J R (.returned (.tuple #[])) wr from ⟨⟨_, rfl⟩, ⟨l', HM.out, by rw [HRR.out, List.take_length, List.drop_length, List.append_nil]⟩, HI.out.below, HI.out.keeps, HI.out.j⟩)
      clear HM HRR HI
      go_wp2_with fail
      go_end0
      exact HZ.out
end Go.Proofs.YtllcgcnebofdoaaGreatDoor
