/- The walks of keeper.choose and keeper.begin. -/
import Derived.Test.YtllcgcnebofdoaaGreatDoorQCkChs
namespace Go.Proofs.YtllcgcnebofdoaaGreatDoor
open Go.RowKit

/-- whatever is no part of the keeper stays -/
structure KeepsQ (w w' : World) : Prop where
  size : w.heap.size ≤ w'.heap.size
  same : ∀ (k : Nat) (cs : Array Value) (t : TypeId) (fr : Nat × Nat), w.heap[k]? = some (.cells cs t fr) → t ≠ 74 → t ≠ 79 → t ≠ 67 → t ≠ 70 → w'.heap[k]? = some (.cells cs t fr)
theorem KeepsQ.refl (w : World) : KeepsQ w w := ⟨Nat.le_refl _, fun _ _ _ _ h _ _ _ _ => h⟩
theorem KeepsQ.trans {a b c : World} (h : KeepsQ a b) (k : KeepsQ b c) : KeepsQ a c := ⟨Nat.le_trans h.size k.size, fun i cs t fr h1 h2 h3 h4 h5 => k.same i cs t fr (h.same i cs t fr h1 h2 h3 h4 h5) h2 h3 h4 h5⟩
theorem KeepsQ.of_below {w w' : World} (h : Below w.heap.size w w') : KeepsQ w w' := ⟨h.size, fun k _ _ _ h1 _ _ _ _ => (h.block k (Array.getElem?_eq_some_iff.1 h1).1).trans h1⟩
theorem KeepsQ.of_R {w w' : World} (h : KeepsR w w') : KeepsQ w w' := ⟨h.size, fun k cs t fr h1 h2 h3 _ _ => h.same k cs t fr h1 h2 h3⟩
theorem KeepsQ.set {w : World} {K i : Nat} {cs : Array Value} (h : Has w K cs 67) (u : Value) : KeepsQ w (w.setCell ⟨K, i, none⟩ u) := ⟨by simp [World.setCell], fun k ds t fr h1 _ _ h4 _ => (Below.heap_setCell _ _ _ _ (fun e => by
  subst e
  have hb : w.heap[k]? = some (.cells cs 67 (0, 0)) := h
  rw [hb] at h1
  cases h1
  exact h4 rfl)).trans h1⟩
theorem KeepsQ.row {w w' : World} {B n : Nat} {v : Value} {xs : List Value} (ho : w.ownsRow B 70 1 v n xs) (hg : w.grownBy w' v.ownBlock) : KeepsQ w w' := ⟨hg.size, fun k cs t fr h1 _ _ _ h5 => (hg.block k (Array.getElem?_eq_some_iff.1 h1).1 (fun e => by
  obtain ⟨ds, hd⟩ := own_type ho e.symm
  rw [hd] at h1
  cases h1
  exact h5 rfl)).trans h1⟩
theorem Has.keepsQ {w w' : World} {b : Nat} {cs : Array Value} {t : TypeId} (h : Has w b cs t) (hk : KeepsQ w w') (h1 : t ≠ 74) (h2 : t ≠ 79) (h3 : t ≠ 67) (h4 : t ≠ 70) : Has w' b cs t := hk.same b cs t (0, 0) h h1 h2 h3 h4
/-- a clock stays while a block of another type is written -/
theorem RM.setFar {w : World} {B b c i : Nat} {v u : Value} {r : RunD} {cs : Array Value} {t : TypeId} (h : RM w B b v r) (hc : Has w c cs t) (h1 : t ≠ 74) (h2 : t ≠ 79) : RM (w.setCell ⟨c, i, none⟩ u) B b v r :=
  ⟨h.box.set_other i u (has_ne h.box hc (Ne.symm h1)), owns_kept_has h.ps hc h2 (grownBy_set _ _ _ _), h.le⟩
theorem RM.grown {w w' : World} {B b B' n sz : Nat} {v u : Value} {r : RunD} {t : TypeId} {xs : List Value} (h : RM w B b v r) (ho : w.ownsRow B' t sz u n xs) (hg : w.grownBy w' u.ownBlock) (h1 : t ≠ 74) (h2 : t ≠ 79) : RM w' B b v r :=
  ⟨h.box.kept_own ho (Ne.symm h1) hg, owns_kept_own h.ps ho (Ne.symm h2) hg, h.le⟩
theorem KM.setLev {w : World} {B K : Nat} {vp vl vk : Value} {lev : Int} {l : List Rc} (h : KM w B K vp vl lev vk l) (lev' : Int) : KM (w.setCell ⟨K, 2, none⟩ (.int .i64 lev')) B K vp vl lev' vk l :=
  ⟨h.box.set 2 _, owns_kept_has h.row h.box (by decide) (grownBy_set _ _ _ _), fun i hi => (h.has i hi).setFar h.box (by decide) (by decide), h.nod, h.ne, h.kb⟩
/-- a clock is added -/
theorem KM.add {w w6 : World} {B K b : Nat} {vp vl vk vk' : Value} {lev : Int} {l : List Rc} {r : RunD} (h : KM w B K vp vl lev vk l) (hb : Has w b (runV r (.slice none 0 0)) 74) (hB : B ≤ b) (hnew : ∀ i (hi : i < l.length), l[i].1 ≠ b)
    (hr : r.c.ps = []) (ho : w6.ownsRow B 70 1 vk' (l.length + 1) (l.map rcPtr ++ [.pointer (some ⟨b, 0, none⟩)])) (hg : w.grownBy w6 vk.ownBlock) :
    KM (w6.setCell ⟨K, 3, none⟩ vk') B K vp vl lev vk' (l ++ [(b, .slice none 0 0, r)]) := by
  have hx6 : Has w6 K #[vp, vl, .int .i64 lev, vk] 67 := h.box.kept_own h.row (by decide) hg
  refine ⟨hx6.set 3 vk', ?_, fun i hi => ?_, fun i j hi hj hne => ?_, fun i j hi hj hne => ?_, h.kb⟩
  · rw [List.length_append, List.map_append]
    exact owns_kept_has ho hx6 (by decide) (grownBy_set _ _ _ _)
  · rw [List.length_append, List.length_singleton] at hi
    by_cases e : i < l.length
    · rw [List.getElem_append_left e]
      exact ((h.has i e).grown h.row hg (by decide) (by decide)).setFar hx6 (by decide) (by decide)
    · have ei : i = l.length := by omega
      subst ei
      rw [List.getElem_append_right (Nat.le_refl _)]
      simp only [Nat.sub_self, List.getElem_cons_zero]
      refine ⟨?_, by rw [hr]; exact World.ownsRow_nil _ _ _ _, hB⟩
      have hb6 : Has w6 b (runV r (.slice none 0 0)) 74 := hb.kept_own h.row (by decide) hg
      exact hb6.set_other 3 vk' (has_ne hb6 hx6 (by decide))
  · rw [List.length_append, List.length_singleton] at hi hj
    by_cases e : i < l.length
    · rw [List.getElem_append_left e]
      by_cases e2 : j < l.length
      · rw [List.getElem_append_left e2]
        exact h.nod i j e e2 hne
      · have ej : j = l.length := by omega
        subst ej
        rw [List.getElem_append_right (Nat.le_refl _)]
        simp only [Nat.sub_self, List.getElem_cons_zero]
        exact hnew i e
    · have ei : i = l.length := by omega
      subst ei
      have e2 : j < l.length := by omega
      rw [List.getElem_append_right (Nat.le_refl _), List.getElem_append_left e2]
      simp only [Nat.sub_self, List.getElem_cons_zero]
      exact Ne.symm (hnew j e2)
  · rw [List.length_append, List.length_singleton] at hi hj
    by_cases e : i < l.length
    · rw [List.getElem_append_left e]
      by_cases e2 : j < l.length
      · rw [List.getElem_append_left e2]
        exact h.ne i j e e2 hne
      · have ej : j = l.length := by omega
        subst ej
        rw [List.getElem_append_right (Nat.le_refl _)]
        simp only [Nat.sub_self, List.getElem_cons_zero]
        exact fun k _ q => by cases q
    · have ei : i = l.length := by omega
      subst ei
      rw [List.getElem_append_right (Nat.le_refl _)]
      simp only [Nat.sub_self, List.getElem_cons_zero]
      exact fun k q => by cases q
theorem infoPtr : (Tryz.prog.info? 70).map (fun i => (i.zero, i.size, i.bytes)) = some (some (.pointer none), 1, 8) := by kernel_rfl
/-- what the keeper's methods leave -/
def KepPost (w : World) (B K : Nat) (vp vl : Value) (k' : KepD) (e : Ending) (w' : World) : Prop :=
  (∃ u, e = .returned u) ∧ (∃ vk' l', KM w' B K vp vl k'.lev vk' l' ∧ runsOf l' = k'.run) ∧ Below B w w' ∧ KeepsQ w w'

set_option maxRecDepth 100000 in
set_option maxHeartbeats 4000000 in
theorem choose_any (p : PolD) (w0 : World) (B K : Nat) (vp vl vk : Value) (lev0 t lev : Int) (l : List Rc) (w : World) (h : KM w B K vp vl lev0 vk l) (hP : PolAt w0 vp vl p) (hO : PolOk p) (h1 : -1 ≤ lev) (h2 : lev < (p.levs.length : Int))
    (hok : ∀ r ∈ runsOf l, RunOk r ∧ r.c.ps.length ≤ 1000000) (hl : l.length ≤ 1000000) (hB : B ≤ w.heap.size) (hw0 : Below w0.heap.size w0 w) (hB0 : w0.heap.size ≤ B) :
    Calls Tryz.prog 47 #[.pointer (some ⟨K, 0, none⟩), .int .i64 t, .int .i64 lev] w (KepPost w B K vp vl (chooseF p t lev ⟨lev0, runsOf l⟩)) := by
  obtain ⟨x1, x2⟩ := box1 w #[.pointer (some ⟨K, 0, none⟩)] 64
  obtain ⟨y1, y2⟩ := box1 (w.alloc (.cells #[.pointer (some ⟨K, 0, none⟩)] 64)) #[.int .i64 t] 3
  obtain ⟨z1, z2⟩ := box1 ((w.alloc (.cells #[.pointer (some ⟨K, 0, none⟩)] 64)).alloc (.cells #[.int .i64 t] 3)) #[.int .i64 lev] 3
  have hz1 : (w.alloc (.cells #[.pointer (some ⟨K, 0, none⟩)] 64)).heap.size = w.heap.size + 1 := by simp
  have hz2 : ((w.alloc (.cells #[.pointer (some ⟨K, 0, none⟩)] 64)).alloc (.cells #[.int .i64 t] 3)).heap.size = w.heap.size + 1 + 1 := by simp
  rw [hz1] at y1
  rw [hz2] at z1
  have hb2 := below_up x2 y2 x2.size
  have hb3 := below_up hb2 z2 hb2.size
  have X1 := (x1.below y2 x1.lt).below z2 (x1.below y2 x1.lt).lt
  have Y1 := y1.below z2 y1.lt
  have HX := Lib.hid X1
  have HY := Lib.hid Y1
  have HZ := Lib.hid z1
  have HB := Lib.hid hb3
  have HM := Lib.hid (h.below hb3)
  have HP := Lib.hid hP
  have HO := Lib.hid hO
  have HW := Lib.hid (below_up hw0 hb3 hw0.size)
  have HOK := Lib.hid hok
  clear x1 x2 y1 y2 z1 z2 hz1 hz2 hb2 hb3 X1 Y1 h hP hO hok hw0
  go_enter Tryz.func47, Tryz.ntmps47
  go_upto_region 1 with fail
  generalize ((w.alloc (.cells #[.pointer (some ⟨K, 0, none⟩)] 64)).alloc (.cells #[.int .i64 t] 3)).alloc (.cells #[.int .i64 lev] 3) = w3 at *
  have k0 := HX.out.cell 0
  have l0 := HZ.out.cell 0
  have m2 := HM.out.box.cell 2
  have g2 := HM.out.box.fz 2
  have hne1 := has_ne HX.out HM.out.box (by decide)
  have hne2 := has_ne HY.out HM.out.box (by decide)
  have hne3 := has_ne HZ.out HM.out.box (by decide)
  have hwB : w.heap.size ≤ w3.heap.size := HB.out.size
  have HE := Lib.hid (each_chs (chsF p t lev) (JChs w0 K w.heap.size (w.heap.size + 1) (w.heap.size + 1 + 1) vp vl vk t lev) (.pointer (some ⟨w.heap.size, 0, none⟩)) (.pointer (some ⟨w.heap.size + 1, 0, none⟩)) (.pointer (some ⟨w.heap.size + 1 + 1, 0, none⟩)) B K vp vl vk lev l (w3.setCell ⟨K, 2, none⟩ (.int .i64 lev)) (HM.out.setLev lev)
    ⟨(HM.out.setLev lev).box, HX.out.set_other _ _ hne1, HY.out.set_other _ _ hne2, HZ.out.set_other _ _ hne3, HW.out.setCell (p := ⟨K, 2, none⟩) (Nat.le_trans hB0 HM.out.kb) _⟩ (by rw [World.size_setCell]; omega)
    (fun W W' hJ hb hk => hJ.keep hb hk hB0) HOK.out hl (fun W b v r hJ hm hr hlr hBW => chs_show p w0 K w.heap.size (w.heap.size + 1) (w.heap.size + 1 + 1) B b vp vl vk v t lev r W hJ HP.out HO.out h1 h2 hm hr hlr hBW hB0))
  have HBS := Lib.hid (show Below B w (w3.setCell ⟨K, 2, none⟩ (.int .i64 lev)) from (HB.out.mono hB).setCell (p := ⟨K, 2, none⟩) HM.out.kb _)
  have HQS := Lib.hid (show KeepsQ w (w3.setCell ⟨K, 2, none⟩ (.int .i64 lev)) from (KeepsQ.of_below HB.out).trans (KeepsQ.set HM.out.box _))
  have HKX := Lib.hid (HX.out.set_other 2 (.int .i64 lev) hne1)
  clear hne1 hne2 hne3 HX HY HZ HB HM HW
  go_upto_region 2 with fail
  clear k0 l0 m2 g2
  generalize w3.setCell ⟨K, 2, none⟩ (.int .i64 lev) = w4 at *
  have k0 := HKX.out.cell 0
  go_wp2_with fail
  refine HE.out.mono ?_
  rintro e w5 ⟨⟨u, rfl⟩, ⟨l', hM, hR⟩, hb, hk, hj⟩
  have HF := Lib.hid (show KepPost w B K vp vl (chooseF p t lev ⟨lev0, runsOf l⟩) (.returned (.tuple #[])) w5 from ⟨⟨_, rfl⟩, ⟨vk, l', hM, hR⟩, HBS.out.trans hb, HQS.out.trans (KeepsQ.of_R hk)⟩)
  clear hM hR hb hk hj
  go_wp2_with fail
  go_end0
  exact HF.out

set_option maxRecDepth 100000 in
set_option maxHeartbeats 4000000 in
theorem begin_any (p : PolD) (w0 : World) (B Kp : Nat) (vp vl vk : Value) (lev t kind : Int) (l : List Rc) (w : World) (h : KM w B Kp vp vl lev vk l) (hP : PolAt w0 vp vl p) (hO : PolOk p) (h1 : -1 ≤ lev) (h2 : lev < (p.levs.length : Int))
    (hl : l.length ≤ 1000000) (hB : B ≤ w.heap.size) (hw0 : Below w0.heap.size w0 w) :
    Calls Tryz.prog 48 #[.pointer (some ⟨Kp, 0, none⟩), .int .i64 t, .int .i64 kind] w (KepPost w B Kp vp vl (beginF p t kind ⟨lev, runsOf l⟩)) := by
  have HM := Lib.hid h
  have HTG := Lib.hid (target_any p lev kind vp vl vk Kp w h.box (hP.below hw0) hO h1 h2)
  have HFS := Lib.hid (show beginF p t kind ⟨lev, runsOf l⟩ = match tgtOf p lev kind with | none => ⟨lev, runsOf l⟩ | some g => ⟨lev, runsOf l ++ [⟨⟨kind, lev, g.2.1, t, -1, 0, []⟩, g, false⟩]⟩ from rfl)
  clear h hP hO h1 h2 hw0
  generalize beginF p t kind ⟨lev, runsOf l⟩ = k' at *
  generalize tgtOf p lev kind = o at *
  go_enter Tryz.func48, Tryz.ntmps48
  go_wp2_with fail
  refine HTG.out.mono ?_
  rintro e w2 ⟨rfl, hb2⟩
  have HB2 := Lib.hid hb2
  have HM2 := Lib.hid (HM.out.below hb2)
  have hlt : ∀ i (hi : i < l.length), l[i].1 < w.heap.size := fun i hi => (HM.out.has i hi).box.lt
  have HLT := Lib.hid hlt
  clear hb2 HTG HM hlt
  cases o with
  | none =>
    simp only at HFS
    have bbl := (box1 w2 #[.int .i64 0, .int .i64 0, .int .i64 0] 72).2
    have HF := Lib.hid (show KepPost w B Kp vp vl k' (.returned (.tuple #[])) (w2.alloc (.cells #[.int .i64 0, .int .i64 0, .int .i64 0] 72)) from by
      rw [HFS.out]
      exact ⟨⟨_, rfl⟩, ⟨vk, l, HM2.out.below bbl, rfl⟩, (HB2.out.mono hB).trans (bbl.mono (Nat.le_trans hB HB2.out.size)), KeepsQ.of_below (below_up HB2.out bbl HB2.out.size)⟩)
    clear bbl
    unfold tgtV
    go_wp2_with fail
    go_end0
    exact HF.out
  | some g =>
    obtain ⟨g1, g2, g3⟩ := g
    simp only at HFS
    unfold tgtV
    simp only [Option.isSome_some]
    go_upto_region 1 with fail
    obtain ⟨bx, bbl⟩ := box1 w2 #[.int .i64 g1, .int .i64 g2, .int .i64 g3] 72
    have HB3 := Lib.hid (below_up HB2.out bbl HB2.out.size)
    have HM3 := Lib.hid (HM2.out.below bbl)
    have HX3 := Lib.hid bx
    clear bx bbl HB2 HM2
    generalize w2.alloc (.cells #[.int .i64 g1, .int .i64 g2, .int .i64 g3] 72) = w3 at *
    generalize w2.heap.size = D at *
    go_upto_region 2 with fail
    have e0 := HM3.out.box.cell 2
    have d0 := HX3.out.cell 0
    have d1 := HX3.out.cell 1
    have d2 := HX3.out.cell 2
    have hbd := (Below.refl w3.heap.size w3).drew
    have HMD := Lib.hid (HM3.out.below hbd)
    have HBD := Lib.hid (below_up HB3.out hbd HB3.out.size)
    have hS0 : (fun W : World => W.cell? ⟨Kp, 2, none⟩ = some (.int .i64 lev) ∧ W.cell? ⟨D, 0, none⟩ = some (.int .i64 g1) ∧ W.cell? ⟨D, 1, none⟩ = some (.int .i64 g2) ∧ W.cell? ⟨D, 2, none⟩ = some (.int .i64 g3)) w3.drew := ⟨e0, d0, d1, d2⟩
    have hKl : Kp < w3.drew.heap.size := HM3.out.box.lt
    have hDl : D < w3.drew.heap.size := HX3.out.lt
    refine anyT_start (S := fun W : World => W.cell? ⟨Kp, 2, none⟩ = some (.int .i64 lev) ∧ W.cell? ⟨D, 0, none⟩ = some (.int .i64 g1) ∧ W.cell? ⟨D, 1, none⟩ = some (.int .i64 g2) ∧ W.cell? ⟨D, 2, none⟩ = some (.int .i64 g3)) (t := 13) (by kernel_rfl) ?_
    clear hbd e0 d0 d1 d2 HM3 HB3 HX3
    generalize w3.drew = wd at *
    refine takeS (i := 0) (v := ?_) rfl rfl (by kernel_rfl) (by kernel_rfl) (by kernel_rfl) (fun _ _ _ h => h) (by decide) (by kernel_rfl) ?_ hS0 ?_
    rotate_left
    · intro w hSw; (try dsimp only at hSw); go_simp; (try with_reducible rfl)
    simp only [List.setIfInBounds_toArray, List.set_cons_zero, List.set_cons_succ]
    refine takeS (i := 1) (v := ?_) rfl rfl (by kernel_rfl) (by kernel_rfl) (by kernel_rfl) (fun _ _ _ h => h) (by decide) (by kernel_rfl) ?_ hS0 ?_
    rotate_left
    · intro w hSw; (try dsimp only at hSw); go_simp; (try with_reducible rfl)
    simp only [List.setIfInBounds_toArray, List.set_cons_zero, List.set_cons_succ]
    refine takeS (i := 2) (v := ?_) rfl rfl (by kernel_rfl) (by kernel_rfl) (by kernel_rfl) (fun _ _ _ h => h) (by decide) (by kernel_rfl) ?_ hS0 ?_
    rotate_left
    · intro w hSw; (try dsimp only at hSw); go_simp; (try with_reducible rfl)
    simp only [List.setIfInBounds_toArray, List.set_cons_zero, List.set_cons_succ]
    refine takeS (i := 3) (v := ?_) rfl rfl (by kernel_rfl) (by kernel_rfl) (by kernel_rfl) (fun _ _ _ h => h) (by decide) (by kernel_rfl) ?_ hS0 ?_
    rotate_left
    · intro w hSw; (try dsimp only at hSw); go_simp; (try with_reducible rfl)
    simp only [List.setIfInBounds_toArray, List.set_cons_zero, List.set_cons_succ]
    refine takeS (i := 4) (v := ?_) rfl rfl (by kernel_rfl) (by kernel_rfl) (by kernel_rfl) (fun _ _ _ h => h) (by decide) (by kernel_rfl) ?_ hS0 ?_
    rotate_left
    · intro w hSw; (try dsimp only at hSw); go_simp; (try with_reducible rfl)
    simp only [List.setIfInBounds_toArray, List.set_cons_zero, List.set_cons_succ]
    refine takeS (i := 5) (v := ?_) rfl rfl (by kernel_rfl) (by kernel_rfl) (by kernel_rfl) (fun _ _ _ h => h) (by decide) (by kernel_rfl) ?_ hS0 ?_
    rotate_left
    · intro w hSw; (try dsimp only at hSw); go_simp; (try with_reducible rfl)
    simp only [List.setIfInBounds_toArray, List.set_cons_zero, List.set_cons_succ]
    refine takeS (i := 6) (v := ?_) rfl rfl (by kernel_rfl) (by kernel_rfl) (by kernel_rfl) (fun _ _ _ h => h) (by decide) (by kernel_rfl) ?_ hS0 ?_
    rotate_left
    · intro w hSw; (try dsimp only at hSw); go_simp; (try with_reducible rfl)
    simp only [List.setIfInBounds_toArray, List.set_cons_zero, List.set_cons_succ]
    refine takeS (i := 7) (v := ?_) rfl rfl (by kernel_rfl) (by kernel_rfl) (by kernel_rfl) (fun _ _ _ h => h) (by decide) (by kernel_rfl) ?_ hS0 ?_
    rotate_left
    · intro w hSw; (try dsimp only at hSw); go_simp; (try with_reducible rfl)
    simp only [List.setIfInBounds_toArray, List.set_cons_zero, List.set_cons_succ]
    refine takeS (i := 8) (v := ?_) rfl rfl (by kernel_rfl) (by kernel_rfl) (by kernel_rfl) (fun _ _ _ h => h) (by decide) (by kernel_rfl) ?_ hS0 ?_
    rotate_left
    · intro w hSw; (try dsimp only at hSw); go_simp; (try with_reducible rfl)
    simp only [List.setIfInBounds_toArray, List.set_cons_zero, List.set_cons_succ]
    refine takeS (i := 9) (v := ?_) rfl rfl (by kernel_rfl) (by kernel_rfl) (by kernel_rfl) (fun _ _ _ h => h) (by decide) (by kernel_rfl) ?_ hS0 ?_
    rotate_left
    · intro w hSw; (try dsimp only at hSw); go_simp; (try with_reducible rfl)
    simp only [List.setIfInBounds_toArray, List.set_cons_zero, List.set_cons_succ]
    refine takeS (i := 10) (v := ?_) rfl rfl (by kernel_rfl) (by kernel_rfl) (by kernel_rfl) (fun _ _ _ h => h) (by decide) (by kernel_rfl) ?_ hS0 ?_
    rotate_left
    · intro w hSw; (try dsimp only at hSw); go_simp; (try with_reducible rfl)
    simp only [List.setIfInBounds_toArray, List.set_cons_zero, List.set_cons_succ]
    refine oneT (i := 11) rfl (by kernel_rfl) (fun K hK => ?_)
    go_simp
    have bbl := (box1 wd (runV ⟨⟨kind, lev, g2, t, -1, 0, []⟩, (g1, g2, g3), false⟩ (.slice none 0 0)) 74).2
    have bx : Has (wd.alloc (.cells (runV ⟨⟨kind, lev, g2, t, -1, 0, []⟩, (g1, g2, g3), false⟩ (.slice none 0 0)) 74)) wd.heap.size (runV ⟨⟨kind, lev, g2, t, -1, 0, []⟩, (g1, g2, g3), false⟩ (.slice none 0 0)) 74 := (box1 wd (runV ⟨⟨kind, lev, g2, t, -1, 0, []⟩, (g1, g2, g3), false⟩ (.slice none 0 0)) 74).1
    have hS1 : (fun W : World => W.cell? ⟨Kp, 2, none⟩ = some (.int .i64 lev) ∧ W.cell? ⟨D, 0, none⟩ = some (.int .i64 g1) ∧ W.cell? ⟨D, 1, none⟩ = some (.int .i64 g2) ∧ W.cell? ⟨D, 2, none⟩ = some (.int .i64 g3)) (wd.alloc (.cells (runV ⟨⟨kind, lev, g2, t, -1, 0, []⟩, (g1, g2, g3), false⟩ (.slice none 0 0)) 74)) := ⟨(below_cell bbl hKl).trans hS0.1, (below_cell bbl hDl).trans hS0.2.1, (below_cell bbl hDl).trans hS0.2.2.1, (below_cell bbl hDl).trans hS0.2.2.2⟩
    have HM4 := Lib.hid (HMD.out.below bbl)
    have HB4 := Lib.hid (below_up HBD.out bbl HBD.out.size)
    have HNB := Lib.hid bx
    have hBb : B ≤ wd.heap.size := Nat.le_trans hB HBD.out.size
    have HNE := Lib.hid (show ∀ i (hi : i < l.length), l[i].1 ≠ wd.heap.size from fun i hi => by have := HLT.out i hi; have := HBD.out.size; omega)
    refine hK.out _ _ (fun _ => hS1) ?_
    clear hK
    try simp only [List.setIfInBounds_toArray, List.set_cons_zero, List.set_cons_succ, Act.put]
    refine oneT (i := 12) rfl (by kernel_rfl) (fun K hK => ?_)
    go_simp
    refine hK.out _ _ (fun _ => hS1) ?_
    refine doneT (by kernel_rfl) ?_ _
    clear hS0 hS1 bbl bx HMD HBD hKl hDl
    have ewr : wd.alloc (.cells (runV ⟨⟨kind, lev, g2, t, -1, 0, []⟩, (g1, g2, g3), false⟩ (.slice none 0 0)) 74) = wd.alloc (.cells #[.int .i64 kind, .int .i64 lev, .int .i64 g2, .int .i64 t, .int .i64 (-1), .int .i64 0, .slice none 0 0, .int .i64 g1, .int .i64 g2, .int .i64 g3, .bool false] 74) := rfl
    rw [ewr] at HM4 HB4 HNB
    clear ewr
    generalize wd.alloc (.cells #[.int .i64 kind, .int .i64 lev, .int .i64 g2, .int .i64 t, .int .i64 (-1), .int .i64 0, .slice none 0 0, .int .i64 g1, .int .i64 g2, .int .i64 g3, .bool false] 74) = wr at *
    generalize wd.heap.size = b at *
    go_upto_region 3 with fail
    have HROW := Lib.hid (HM4.out.row)
    obtain ⟨ka, kc, rfl⟩ := owns_slice HM4.out.row
    have m3 := HM4.out.box.cell 3
    have f3 := HM4.out.box.fz 3
    have hBw : B ≤ wr.heap.size := Nat.le_trans hB HB4.out.size
    go_wp2_with (at_builtin; go_must (refine append_one rfl _ _ 65 rfl B 70 (.pointer none) 1 8 Tryz.underlying65 infoPtr rfl (by decide) wr wr _ _ _ rfl HROW.out [.pointer (some ⟨b, 0, none⟩)] rfl rfl rfl (by simp [Value.oneCell']) (by omega) (by omega) hBw (Below.refl _ _) ?_); intro v' w6 ho hb6 hg6 hnn; have hg6 : wr.grownBy w6 (Value.slice ka l.length kc).ownBlock := hg6; obtain ⟨a2, c2, rfl⟩ := owns_slice ho; have hbx6 := HM4.out.box.kept_own HROW.out (by decide) hg6; have n3 := hbx6.cell 3; have o3 := hbx6.fz 3; have HO6 := Lib.hid ho; have HG6 := Lib.hid hg6; have HB6 := Lib.hid hb6; have HBX6 := Lib.hid hbx6; clear ho hg6 hb6 hnn hbx6)
    have HF := Lib.hid (show KepPost w B Kp vp vl k' (.returned (.tuple #[])) (w6.setCell ⟨Kp, 3, none⟩ (.slice a2 (l.length + 1) c2)) from by
      rw [HFS.out]
      refine ⟨⟨_, rfl⟩, ⟨_, _, HM4.out.add HNB.out hBb HNE.out rfl HO6.out HG6.out, ?_⟩, ?_, ?_⟩
      · simp [runsOf]
      · exact ((HB4.out.mono hB).trans HB6.out).setCell (p := ⟨Kp, 3, none⟩) HM4.out.kb _
      · exact ((KeepsQ.of_below HB4.out).trans (KeepsQ.row HROW.out HG6.out)).trans (KeepsQ.set HBX6.out _))
    clear HM4 HNB HNE HO6 HG6 HB6 HBX6 HROW
    go_wp2_with fail
    go_end0
    exact HF.out
end Go.Proofs.YtllcgcnebofdoaaGreatDoor
