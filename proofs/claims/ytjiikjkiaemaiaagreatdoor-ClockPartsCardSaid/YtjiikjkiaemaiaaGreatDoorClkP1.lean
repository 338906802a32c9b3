/- The walk of the closure of level.Explain that goes on to a moment. -/
import Derived.Test.YtjiikjkiaemaiaaGreatDoorClkC
import Derived.Test.YtjiikjkiaemaiaaGreatDoorPtLaw
import Derived.Deep.AppendLies
namespace Go.Proofs.YtjiikjkiaemaiaaGreatDoor
open Go.RowKit

def encPt (p : Prt) : List Value := [.int .i64 p.1, .int .i64 p.2.1, .int .i64 p.2.2]
theorem infoLPart : (Tryz.prog.info? 36).map (fun i => (i.zero, i.size, i.bytes)) = some (some (.agg #[.int .i64 0, .int .i64 0, .int .i64 0]), 3, 24) := by kernel_rfl
theorem encPt_len (l : List Prt) : (l.flatMap encPt).length = 3 * l.length := by
  induction l with
  | nil => rfl
  | cons p r ih => rw [List.flatMap_cons, List.length_append, ih, List.length_cons]; simp [encPt]; omega
/-- whatever is neither a row of parts nor a cell of an int or of parts stays -/
structure KeepsV (w w' : World) : Prop where
  size : w.heap.size ≤ w'.heap.size
  same : ∀ (k : Nat) (cs : Array Value) (t : TypeId) (fr : Nat × Nat), w.heap[k]? = some (Obj.cells cs t fr) → t ≠ 36 → t ≠ 27 → t ≠ 3 → w'.heap[k]? = some (Obj.cells cs t fr)
theorem KeepsV.refl (w : World) : KeepsV w w := ⟨Nat.le_refl _, fun _ _ _ _ h _ _ _ => h⟩
theorem KeepsV.trans {a b c : World} (h : KeepsV a b) (k : KeepsV b c) : KeepsV a c := ⟨Nat.le_trans h.size k.size, fun i cs t fr h1 h2 h3 h4 => k.same i cs t fr (h.same i cs t fr h1 h2 h3 h4) h2 h3 h4⟩
theorem KeepsV.of_below {w w' : World} (h : Below w.heap.size w w') : KeepsV w w' := ⟨h.size, fun k _ _ _ h1 _ _ _ => (h.block k (Array.getElem?_eq_some_iff.1 h1).1).trans h1⟩
theorem KeepsV.set {w : World} {b i : Nat} {cs : Array Value} {t : TypeId} {fr : Nat × Nat} (hb : w.heap[b]? = some (Obj.cells cs t fr)) (ht : t = 36 ∨ t = 27 ∨ t = 3) (v : Value) : KeepsV w (w.setCell ⟨b, i, none⟩ v) :=
  ⟨by simp [World.setCell], fun k cs' t' fr' h1 h2 h3 h4 => by
    have hne : k ≠ b := by
      rintro rfl
      rw [hb] at h1
      cases h1
      rcases ht with g | g | g
      · exact h2 g
      · exact h3 g
      · exact h4 g
    exact (Below.heap_setCell _ _ _ _ hne).trans h1⟩
theorem KeepsV.row {w w' : World} {base sz n : Nat} {v : Value} {xs : List Value} (ho : w.ownsRow base 36 sz v n xs) (hg : w.grownBy w' v.ownBlock) : KeepsV w w' := by
  refine ⟨hg.size, fun k cs t fr h1 h2 _ _ => (hg.block k (Array.getElem?_eq_some_iff.1 h1).1 (fun e => ?_)).trans h1⟩
  rcases ho.2 with ⟨rfl, _⟩ | ⟨g, cap, cur, rfl, _, hb, _⟩
  · cases e
  · have e2 : k = g := by simpa [Value.ownBlock] using e
    subst e2
    rw [h1] at hb
    cases hb
    exact h2 rfl
theorem Has.keepsV {w w' : World} {b : Nat} {cs : Array Value} {t : TypeId} (h : Has w b cs t) (hk : KeepsV w w') (h1 : t ≠ 36) (h2 : t ≠ 27) (h3 : t ≠ 3) : Has w' b cs t := hk.same b cs t (0, 0) h h1 h2 h3
theorem owns_keepsV {w w' : World} {B : Nat} {e : TypeId} {sz : Nat} {v : Value} {n : Nat} {xs : List Value} (h : w.ownsRow B e sz v n xs) (hk : KeepsV w w') (h1 : e ≠ 36) (h2 : e ≠ 27) (h3 : e ≠ 3) : w'.ownsRow B e sz v n xs := by
  refine ⟨h.1, ?_⟩
  rcases h.2 with g | ⟨g, cap, cur, hv, hB, hg, r⟩
  · exact .inl g
  · exact .inr ⟨g, cap, cur, hv, hB, hk.same g cur e (0, 0) hg h1 h2 h3, r⟩
theorem owns_put {w : World} {B : Nat} {e : TypeId} {sz g n cap : Nat} {xs : List Value} (h : w.ownsRow B e sz (.slice (some ⟨g, 0, none⟩) n cap) n xs) (i : Nat) (u : Value) :
    (w.setCell ⟨g, i, none⟩ u).ownsRow B e sz (.slice (some ⟨g, 0, none⟩) n cap) n (xs.set i u) ∧ ∃ cur, w.heap[g]? = some (Obj.cells cur e (0, 0)) := by
  rcases h.2 with ⟨hv, _⟩ | ⟨g', cap', cur, hv, hB, hg, hn, hm, hc, ht⟩
  · cases hv
  · cases hv
    refine ⟨⟨by rw [List.length_set]; exact h.1, .inr ⟨g, cap, cur.setIfInBounds i u, rfl, hB, Has.set (show Has w g cur e from hg) i u, hn, hm, by simpa using hc, ?_⟩⟩, cur, hg⟩
    rw [Array.toList_setIfInBounds, List.take_set, ht]

/-- what Explain keeps: the moment's cell, the cell up to where, the parts' cell with their row -/
structure ExAt (w : World) (B bm ba bo : Nat) (m : Int) (R : List Prt) (at' : Int) (v : Value) : Prop where
  mb : Has w bm #[.int .i64 m] 3
  ab : Has w ba #[.int .i64 at'] 3
  ob : Has w bo #[v] 27
  row : w.ownsRow B 36 3 v R.length (R.reverse.flatMap encPt)
theorem ExAt.below {w w' : World} {B bm ba bo : Nat} {m at' : Int} {R : List Prt} {v : Value} (h : ExAt w B bm ba bo m R at' v) (hb : Below w.heap.size w w') : ExAt w' B bm ba bo m R at' v :=
  ⟨h.mb.below hb h.mb.lt, h.ab.below hb h.ab.lt, h.ob.below hb h.ob.lt, owns_below h.row hb⟩
def UpPost (B bm ba bo : Nat) (m : Int) (R : List Prt) (at' : Int) (w : World) (e : Ending) (w' : World) : Prop := (∃ u, e = .returned u) ∧ (∃ v, ExAt w' B bm ba bo m R at' v) ∧ Below B w w' ∧ KeepsV w w'

set_option maxRecDepth 100000 in
set_option maxHeartbeats 8000000 in
theorem upTo_any (B bm ba bo : Nat) (m : Int) (R : List Prt) (at' en what : Int) (v : Value) (w : World) (h : ExAt w B bm ba bo m R at' v) (hne : bm ≠ ba) (hlen : R.length ≤ 3000001) (hBa : B ≤ ba) (hBo : B ≤ bo) (hBw : B ≤ w.heap.size) :
    Calls Tryz.prog 11 #[.int .i64 en, .int .i64 what, .pointer (some ⟨bm, 0, none⟩), .pointer (some ⟨ba, 0, none⟩), .pointer (some ⟨bo, 0, none⟩)] w (UpPost B bm ba bo m (upR m R at' en what) (upA m at' en) w) := by
  obtain ⟨va, vc, rfl⟩ := owns_slice h.row
  have k0 := h.mb.cell 0
  have k1 := h.ab.cell 0
  have k2 := h.ob.cell 0
  have H := Lib.hid h
  have f1 := h.ab.fz 0
  have f2 := h.ob.fz 0
  clear h
  obtain ⟨t, ht⟩ : ∃ t, min en m = t := ⟨_, rfl⟩
  have hat : ba ≠ bo := by
    rintro rfl
    have h1 := H.out.ab
    have h2 : w.heap[ba]? = some _ := H.out.ob
    rw [show w.heap[ba]? = some _ from h1] at h2
    cases h2
  go_enter Tryz.func11, Tryz.ntmps11
  go_upto_region 0 with fail
  go_cut [0] (fun v wx => v = .int .i64 t ∧ wx = w)
  case first =>
    by_cases g : m < en
    · have q : decide (m < en) = true := decide_eq_true g
      have HT := Lib.hid (show t = m by omega)
      clear ht
      go_wp2_with fail
      all_goals go_meet
      all_goals (refine ⟨?_, rfl⟩; first | rw [HT.out] | (rw [HT.out]; congr 1; omega))
    · have q : decide (m < en) = false := decide_eq_false g
      have HT := Lib.hid (show t = en by omega)
      clear ht
      go_wp2_with fail
      all_goals go_meet
      all_goals (refine ⟨?_, rfl⟩; first | rw [HT.out] | (rw [HT.out]; congr 1; omega))
  case rest =>
    obtain ⟨rfl, rfl⟩ := hcut
    by_cases g : t ≤ at'
    · have q : decide (t ≤ at') = true := decide_eq_true g
      have HP := Lib.hid (show UpPost B bm ba bo m (upR m R at' en what) (upA m at' en) wc (.returned (.tuple #[])) wc from by
        rw [(upR_skip (what := what) (R := R) (by rw [ht]; exact g)).1, (upR_skip (what := what) (R := R) (by rw [ht]; exact g)).2]
        exact ⟨⟨_, rfl⟩, ⟨_, H.out⟩, Below.refl _ _, KeepsV.refl _⟩)
      clear g ht
      go_wp2_with fail
      go_end0
      exact HP.out
    · have q : decide (t ≤ at') = false := decide_eq_false g
      have HG := Lib.hid (show ¬ min en m ≤ at' by rw [ht]; exact g)
      have HT := Lib.hid ht
      clear g ht
      have hown := H.out.row
      have hBd := HT.out
      clear hBd
      obtain ⟨i0, hi0, hz0, hz1, hz2⟩ := info_parts infoLPart
      have HBS := Lib.hid (show ∀ (w6 : World) (g' c' : Nat) (q : Prt) (R0 : List Prt), R0 = R → wc.grownBy w6 (Value.slice va R.length vc).ownBlock → w6.ownsRow B 36 3 (.slice (some ⟨g', 0, none⟩) (R.length + 1) c') (R.length + 1) (R.reverse.flatMap encPt ++ encPt q) →
          ExAt ((w6.setCell ⟨bo, 0, none⟩ (.slice (some ⟨g', 0, none⟩) (R.length + 1) c')).setCell ⟨ba, 0, none⟩ (.int .i64 t)) B bm ba bo m (q :: R) t (.slice (some ⟨g', 0, none⟩) (R.length + 1) c') ∧
          Below B wc ((w6.setCell ⟨bo, 0, none⟩ (.slice (some ⟨g', 0, none⟩) (R.length + 1) c')).setCell ⟨ba, 0, none⟩ (.int .i64 t)) ∧ KeepsV wc ((w6.setCell ⟨bo, 0, none⟩ (.slice (some ⟨g', 0, none⟩) (R.length + 1) c')).setCell ⟨ba, 0, none⟩ (.int .i64 t)) from by
        intro w6 g' c' q R0 _ hgrow hrow
        have m6 := H.out.mb.kept_own H.out.row (by decide) hgrow
        have a6 := H.out.ab.kept_own H.out.row (by decide) hgrow
        have o6 := H.out.ob.kept_own H.out.row (by decide) hgrow
        have o7 := o6.set 0 (.slice (some ⟨g', 0, none⟩) (R.length + 1) c')
        have a7 := a6.set_other 0 (.slice (some ⟨g', 0, none⟩) (R.length + 1) c') hat
        have m7 := m6.set_other 0 (.slice (some ⟨g', 0, none⟩) (R.length + 1) c') (b := bm) (c := bo) (by
          rintro rfl
          have h2 : w6.heap[bm]? = some _ := o6
          rw [show w6.heap[bm]? = some _ from m6] at h2
          cases h2)
        refine ⟨⟨m7.set_other 0 _ hne, a7.set 0 _, (o7.set_other 0 _ (Ne.symm hat)), ?_⟩, ?_, ?_⟩
        · have h1 := owns_kept_has hrow o6 (by decide) (grownBy_set w6 bo 0 (.slice (some ⟨g', 0, none⟩) (R.length + 1) c'))
          have h2 := owns_kept_has h1 a7 (by decide) (grownBy_set _ ba 0 (.int .i64 t))
          rw [List.reverse_cons, List.flatMap_append, List.length_cons]
          simpa using h2
        · exact (((Below.refl B wc).grown hgrow hBw (fun k hk => (H.out.row.lt k hk).1)).setCell (p := ⟨bo, 0, none⟩) hBo _).setCell (p := ⟨ba, 0, none⟩) hBa _
        · exact ((KeepsV.row H.out.row hgrow).trans (KeepsV.set o6 (.inr (.inl rfl)) _)).trans (KeepsV.set a7 (.inr (.inr rfl)) _))
      cases R with
      | nil =>
        have HP := Lib.hid (show ∀ e wx v, (∃ u, e = .returned u) → ExAt wx B bm ba bo m [(at', t, what)] t v → Below B wc wx → KeepsV wc wx → UpPost B bm ba bo m (upR m [] at' en what) (upA m at' en) wc e wx from fun e wx v h1 h2 h3 h4 => by
          rw [(upR_nil (what := what) HG.out).1, (upR_nil (what := what) HG.out).2, HT.out]
          exact ⟨h1, ⟨v, h2⟩, h3, h4⟩)
        simp only [List.length_nil] at k2
        go_wp2_with (at_builtin; go_loud ((refine append_one rfl _ _ 27 rfl B 36 (.agg #[.int .i64 0, .int .i64 0, .int .i64 0]) 3 24 Tryz.underlying27 infoLPart rfl (by decide) wc wc _ _ _ rfl H.out.row [.int .i64 at', .int .i64 t, .int .i64 what] rfl rfl rfl (by simp [Value.oneCell']) (by first | omega | (simp only [List.length_cons, List.length_nil] at *; omega)) (by first | omega | (simp only [List.length_cons, List.length_nil] at *; omega)) hBw (Below.refl _ _) ?_); intro v' w6 ho hb6 hg6 hnn; obtain ⟨g', c', rfl, _, _⟩ := ho.form (Nat.succ_pos _); have o6 := H.out.ob.kept_own H.out.row (by decide) hg6; have a6 := H.out.ab.kept_own H.out.row (by decide) hg6; have n6 := o6.cell 0; have z6 := o6.fz 0; have n7 := a6.cell 0; have z7 := a6.fz 0; have HBX := Lib.hid (HBS.out w6 g' c' (at', t, what) _ rfl hg6 ho); clear ho hb6 hg6 hnn o6 a6))
        go_end0
        exact HP.out _ _ _ ⟨_, rfl⟩ HBX.out.1 HBX.out.2.1 HBX.out.2.2
      | cons p r =>
        obtain ⟨g, cap, hv, hBg, hgl⟩ := H.out.row.form (Nat.succ_pos _)
        cases hv
        have hxs : (p :: r).reverse.flatMap encPt = r.reverse.flatMap encPt ++ [.int .i64 p.1, .int .i64 p.2.1, .int .i64 p.2.2] := by
          rw [List.reverse_cons, List.flatMap_append]
          simp [encPt]
        have hal : (r.reverse.flatMap encPt).length = r.length * 3 := by rw [encPt_len, List.length_reverse]; omega
        have hrow := H.out.row
        rw [hxs] at hrow
        have cw := hrow.cellAt (r.length * 3 + 2) (by simp only [List.length_cons]; omega)
        have cto := hrow.cellAt (r.length * 3 + 1) (by simp only [List.length_cons]; omega)
        rw [List.getElem?_append_right (by omega), hal, show r.length * 3 + 2 - r.length * 3 = 2 by omega] at cw
        rw [List.getElem?_append_right (by omega), hal, show r.length * 3 + 1 - r.length * 3 = 1 by omega] at cto
        obtain ⟨hput, cur, hcur⟩ := owns_put hrow (r.length * 3 + 1) (.int .i64 t)
        have fto : wc.frozen? ⟨g, r.length * 3 + 1, none⟩ = false := Has.fz (show Has wc g cur 36 from hcur) _
        obtain ⟨n, hn⟩ : ∃ n, (p :: r).length = n := ⟨_, rfl⟩
        have hnr : n = r.length + 1 := by rw [← hn]; rfl
        have r0 : r.length = n - 1 := by omega
        rw [hn] at k2
        rw [r0] at cw cto fto
        have r1 : IntKind.i64.wrap ((n : Int) - 1) = ((n - 1 : Nat) : Int) := by rw [IntWalk.i64_in _ (by simp only [List.length_cons] at hlen; omega)]; omega
        have r3 : n - 1 < n := by omega
        have q0 : decide ((0 : Int) < (n : Int)) = true := decide_eq_true (by omega)
        have hlen' : n ≤ 3000001 := by rw [← hn]; exact hlen
        have HN := Lib.hid hn
        have HR0 := Lib.hid r0
        have hcw : wc.cell? ⟨g, (n - 1) * 3 + 2, none⟩ = some (.int .i64 p.2.2) := cw
        have hcto : wc.cell? ⟨g, (n - 1) * 3 + 1, none⟩ = some (.int .i64 p.2.1) := cto
        clear hn hnr r0 cw cto hrow
        by_cases hw : p.2.2 = what
        · have qe : (p.2.2 == what) = true := by simpa using hw
          have HP := Lib.hid (show ∀ e wx v, (∃ u, e = .returned u) → ExAt wx B bm ba bo m ((p.1, t, what) :: r) t v → Below B wc wx → KeepsV wc wx → UpPost B bm ba bo m (upR m (p :: r) at' en what) (upA m at' en) wc e wx from fun e wx v h1 h2 h3 h4 => by
            rw [(upR_same (r := r) HG.out hw).1, (upR_same (r := r) HG.out hw).2, HT.out]
            exact ⟨h1, ⟨v, h2⟩, h3, h4⟩)
          have hgne : ∀ (b : Nat) (cs : Array Value) (ty : TypeId), Has wc b cs ty → ty ≠ 36 → b ≠ g := by
            rintro b cs ty hb hty rfl
            rw [show wc.heap[b]? = some _ from hb] at hcur
            cases hcur
            exact hty rfl
          have m1 := H.out.mb.set_other (r.length * 3 + 1) (.int .i64 t) (hgne _ _ _ H.out.mb (by decide))
          have a1 := H.out.ab.set_other (r.length * 3 + 1) (.int .i64 t) (hgne _ _ _ H.out.ab (by decide))
          have o1 := H.out.ob.set_other (r.length * 3 + 1) (.int .i64 t) (hgne _ _ _ H.out.ob (by decide))
          have hput' : (wc.setCell ⟨g, r.length * 3 + 1, none⟩ (.int .i64 t)).ownsRow B 36 3 (.slice (some ⟨g, 0, none⟩) (p :: r).length vc) (p :: r).length (((p.1, t, what) :: r).reverse.flatMap encPt) := by
            have e : (r.reverse.flatMap encPt ++ [Value.int .i64 p.1, .int .i64 p.2.1, .int .i64 p.2.2]).set (r.length * 3 + 1) (.int .i64 t) = ((p.1, t, what) :: r).reverse.flatMap encPt := by
              rw [List.set_append_right _ _ (by omega), hal, show r.length * 3 + 1 - r.length * 3 = 1 by omega, List.reverse_cons, List.flatMap_append, ← hw]
              simp [encPt]
            rw [← e]
            exact hput
          have HEX := Lib.hid (show ExAt ((wc.setCell ⟨g, r.length * 3 + 1, none⟩ (.int .i64 t)).setCell ⟨ba, 0, none⟩ (.int .i64 t)) B bm ba bo m ((p.1, t, what) :: r) t (.slice (some ⟨g, 0, none⟩) (p :: r).length vc) from
            ⟨m1.set_other 0 _ hne, a1.set 0 _, o1.set_other 0 _ (Ne.symm hat), owns_kept_has hput' a1 (by decide) (grownBy_set _ _ _ _)⟩)
          have HBZ := Lib.hid (((Below.refl B wc).setCell (p := ⟨g, r.length * 3 + 1, none⟩) hBg (.int .i64 t)).setCell (p := ⟨ba, 0, none⟩) hBa (.int .i64 t))
          have HKZ := Lib.hid ((KeepsV.set (i := r.length * 3 + 1) hcur (.inl rfl) (.int .i64 t)).trans (KeepsV.set (i := 0) a1 (.inr (.inr rfl)) (.int .i64 t)))
          have n7 := a1.cell 0
          have z7 := a1.fz 0
          rw [HR0.out] at HEX HBZ HKZ n7 z7
          clear hw m1 a1 o1 hput hput' hgne hcur hxs hal HBS hown
          go_wp2_with fail
          go_end0
          exact HP.out _ _ _ ⟨_, rfl⟩ HEX.out HBZ.out HKZ.out
        · have qe : (p.2.2 == what) = false := by simpa using hw
          have HP := Lib.hid (show ∀ e wx v, (∃ u, e = .returned u) → ExAt wx B bm ba bo m ((at', t, what) :: p :: r) t v → Below B wc wx → KeepsV wc wx → UpPost B bm ba bo m (upR m (p :: r) at' en what) (upA m at' en) wc e wx from fun e wx v h1 h2 h3 h4 => by
            rw [(upR_new (r := r) HG.out hw).1, (upR_new (r := r) HG.out hw).2, HT.out]
            exact ⟨h1, ⟨v, h2⟩, h3, h4⟩)
          have HROW := Lib.hid (show wc.ownsRow B 36 3 (.slice (some ⟨g, 0, none⟩) n vc) n ((p :: r).reverse.flatMap encPt) by rw [← HN.out]; exact H.out.row)
          rw [HN.out] at HBS
          clear hw hput hcur hxs hal hown
          go_wp2_with (at_builtin; go_loud ((refine append_one rfl _ _ 27 rfl B 36 (.agg #[.int .i64 0, .int .i64 0, .int .i64 0]) 3 24 Tryz.underlying27 infoLPart rfl (by decide) wc wc _ _ _ rfl HROW.out [.int .i64 at', .int .i64 t, .int .i64 what] rfl rfl rfl (by simp [Value.oneCell']) (by omega) (by omega) hBw (Below.refl _ _) ?_); intro v' w6 ho hb6 hg6 hnn; obtain ⟨g', c', rfl, _, _⟩ := ho.form (Nat.succ_pos _); have o6 := H.out.ob.kept_own H.out.row (by decide) hg6; have a6 := H.out.ab.kept_own H.out.row (by decide) hg6; have n6 := o6.cell 0; have z6 := o6.fz 0; have n7 := a6.cell 0; have z7 := a6.fz 0; have HBX := Lib.hid (HBS.out w6 g' c' (at', t, what) _ rfl hg6 ho); clear ho hb6 hg6 hnn o6 a6))
          go_end0
          exact HP.out _ _ _ ⟨_, rfl⟩ HBX.out.1 HBX.out.2.1 HBX.out.2.2
end Go.Proofs.YtjiikjkiaemaiaaGreatDoor
