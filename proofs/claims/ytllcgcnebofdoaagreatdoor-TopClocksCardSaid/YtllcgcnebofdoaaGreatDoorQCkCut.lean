/- The walks of a clock's methods: cut, on, end. -/
import Derived.Test.YtllcgcnebofdoaaGreatDoorQCkLaw
namespace Go.Proofs.YtllcgcnebofdoaaGreatDoor
open Go.RowKit

set_option maxRecDepth 100000 in
set_option maxHeartbeats 4000000 in
theorem cut_any (B b : Nat) (v : Value) (r : RunD) (t : Int) (w : World) (h : RM w B b v r) (hr : RunOk r) (hl : r.c.ps.length ≤ 1000000) :
    Calls Tryz.prog 52 #[.pointer (some ⟨b, 0, none⟩), .int .i64 t] w (RunPost w B b v (cutF t r)) := by
  have H := Lib.hid h
  have k10 := h.box.cell 10
  have g10 := h.box.fz 10
  obtain ⟨⟨kind, lev, mn, start, stop, fin, ps⟩, tgt, goes⟩ := r
  unfold runV at k10
  simp only at k10
  go_enter Tryz.func52, Tryz.ntmps52
  cases goes with
  | false =>
    go_wp2_with fail
    go_end0
    exact ⟨⟨_, rfl⟩, v, H.out, One2.refl _ _ _, Fr.refl _ _⟩
  | true =>
    have hne := hr.some rfl
    simp only at hne hl
    have hps := (List.dropLast_concat_getLast hne).symm
    generalize ps.getLast hne = q at *
    generalize ps.dropLast = us at *
    subst hps
    have hln : (us ++ [q]).length = us.length + 1 := by simp
    rw [hln] at hl
    have hown := h.ps
    simp only [hln] at hown
    obtain ⟨g, cap, rfl, hgB, hgw⟩ := hown.form (Nat.succ_pos _)
    have HO := Lib.hid hown
    have k6 : w.cell? ⟨b, 6, none⟩ = some (.slice (some ⟨g, 0, none⟩) (us.length + 1) cap) := h.box.cell 6
    have g6 := h.box.fz 6
    have hgb : g ≠ b := fun e => h.apart (by rw [← e]; rfl)
    obtain ⟨q1, q2, q3⟩ := q
    have p0 : w.cell? ⟨g, us.length * 3 + 0, none⟩ = some (.int .i64 q1) := by rw [hown.cellAt _ (by omega), pc_last]; rfl
    have p1 : w.cell? ⟨g, us.length * 3 + 1, none⟩ = some (.int .i64 q2) := by rw [hown.cellAt _ (by omega), pc_last]; rfl
    have f1 := hown.frozenAt (us.length * 3 + 1)
    rw [Nat.add_zero] at p0
    have w1m : IntKind.i64.wrap (((us.length : Nat) : Int) + 1 - 1) = (us.length : Int) := by rw [IntWalk.i64_in _ (by omega)]; omega
    have w1n : IntKind.i64.wrap ((us.length : Nat) : Int) = (us.length : Int) := IntWalk.i64_in _ (by omega)
    have hlt : us.length < us.length + 1 := Nat.lt_succ_self _
    have hltI : (us.length : Int) < (us.length : Int) + 1 := by omega
    have hcap : us.length + 1 ≤ cap := by
      rcases hown.2 with ⟨hv, _⟩ | ⟨g', cap', cur, hv, _, _, hc, _⟩
      · cases hv
      · cases hv; exact hc
    clear h hr hne hown
    go_upto_region 1 with fail
    go_quiet (fail)
    have hbq := drewN_below (Below.refl w.heap.size w) nq
    have H3 := Lib.hid (H.out.below hbq)
    have HO3 := Lib.hid (owns_below HO.out hbq)
    have HN3 := Lib.hid (One2.of_below (b := b) (v := .slice (some ⟨g, 0, none⟩) (us.length + 1) cap) hbq)
    have k6 : (w.drewN nq).cell? ⟨b, 6, none⟩ = some (.slice (some ⟨g, 0, none⟩) (us.length + 1) cap) := k6
    have k10 : (w.drewN nq).cell? ⟨b, 10, none⟩ = some (.bool true) := k10
    have g6 : (w.drewN nq).frozen? ⟨b, 6, none⟩ = false := g6
    have g10 : (w.drewN nq).frozen? ⟨b, 10, none⟩ = false := g10
    have p0 : (w.drewN nq).cell? ⟨g, us.length * 3, none⟩ = some (.int .i64 q1) := p0
    have p1 : (w.drewN nq).cell? ⟨g, us.length * 3 + 1, none⟩ = some (.int .i64 q2) := p1
    have f1 : (w.drewN nq).frozen? ⟨g, us.length * 3 + 1, none⟩ = false := f1
    clear hbq H HO
    generalize w.drewN nq = w3 at *
    go_upto_region 3 with fail
    have hs := HO3.out.stored (us.length * 3 + 1) (.int .i64 t)
    rw [pc_set] at hs
    have HS := Lib.hid hs.1
    have HB4 := Lib.hid (show Has (w3.setCell ⟨g, us.length * 3 + 1, none⟩ (.int .i64 t)) b _ 74 from H3.out.box.set_other _ _ (Ne.symm hgb))
    have HN4 := Lib.hid (HN3.out.trans (One2.setRow w3 b g (us.length * 3 + 1) (us.length + 1) cap (.int .i64 t)) (Fr.refl _ _))
    have x0 : (w3.setCell ⟨g, us.length * 3 + 1, none⟩ (.int .i64 t)).cell? ⟨g, us.length * 3, none⟩ = some (.int .i64 q1) := by rw [set_off (by omega)]; exact p0
    have x6 : (w3.setCell ⟨g, us.length * 3 + 1, none⟩ (.int .i64 t)).cell? ⟨b, 6, none⟩ = some (.slice (some ⟨g, 0, none⟩) (us.length + 1) cap) := HB4.out.cell 6
    have x10 : (w3.setCell ⟨g, us.length * 3 + 1, none⟩ (.int .i64 t)).cell? ⟨b, 10, none⟩ = some (.bool true) := HB4.out.cell 10
    have y6 := HB4.out.fz 6
    have y10 := HB4.out.fz 10
    have HLE := Lib.hid H3.out.le
    clear hs k6 k10 g6 g10 p0 p1 f1 H3 HO3 HN3
    generalize w3.setCell ⟨g, us.length * 3 + 1, none⟩ (.int .i64 t) = w4 at *
    by_cases he : q1 = t
    · subst he
      have hcf : cutF q1 ⟨⟨kind, lev, mn, start, stop, fin, us ++ [(q1, q2, q3)]⟩, tgt, true⟩ = ⟨⟨kind, lev, mn, start, stop, fin, us⟩, tgt, false⟩ := by
        unfold cutF
        simp only [if_true, cutP_last]
      have HCF := Lib.hid hcf
      clear hcf
      go_upto_region 4 with fail
      go_region
      have HZ := Lib.hid (show RunPost w B b (.slice (some ⟨g, 0, none⟩) (us.length + 1) cap) ⟨⟨kind, lev, mn, start, stop, fin, us⟩, tgt, false⟩ (.returned (.tuple #[])) (((w4.setCell ⟨b, 6, none⟩ (.slice (some ⟨g, 0, none⟩) us.length cap)).drew).setCell ⟨b, 10, none⟩ (.bool false)) from by
        have hgne : (Value.slice (some ⟨g, 0, none⟩) us.length cap).ownBlock ≠ some b := fun e => hgb (by simpa [Value.ownBlock] using e)
        refine ⟨⟨_, rfl⟩, .slice (some ⟨g, 0, none⟩) us.length cap, ⟨?_, ?_, HLE.out⟩, ?_, fun k hk => .inl hk⟩
        · exact (HB4.out.set 6 (.slice (some ⟨g, 0, none⟩) us.length cap)).set 10 (.bool false)
        · have h1 := ownsRow_pop (pc_len us) HS.out
          exact ownsRow_setCell_other (a := ⟨b, 10, none⟩) (ownsRow_setCell_other (a := ⟨b, 6, none⟩) h1 hgne _) hgne _
        · refine HN4.out.trans ((One2.set w4 b 6 _ _).trans ((One2.drew _ _ _).trans (One2.set _ b 10 _ _) (Fr.refl _ _)) (Fr.refl _ _)) (Fr.refl _ _))
      clear HS HB4 HN4
      go_wp2_with fail
      go_end0
      rw [HCF.out]
      exact HZ.out
    · have hcf : cutF t ⟨⟨kind, lev, mn, start, stop, fin, us ++ [(q1, q2, q3)]⟩, tgt, true⟩ = ⟨⟨kind, lev, mn, start, stop, fin, us ++ [(q1, t, q3)]⟩, tgt, false⟩ := by
        unfold cutF
        simp only [if_true, cutP_last, if_neg he]
      have HCF := Lib.hid hcf
      clear hcf
      have HZ := Lib.hid (show RunPost w B b (.slice (some ⟨g, 0, none⟩) (us.length + 1) cap) ⟨⟨kind, lev, mn, start, stop, fin, us ++ [(q1, t, q3)]⟩, tgt, false⟩ (.returned (.tuple #[])) (w4.setCell ⟨b, 10, none⟩ (.bool false)) from by
        have hgne : (Value.slice (some ⟨g, 0, none⟩) (us.length + 1) cap).ownBlock ≠ some b := fun e => hgb (by simpa [Value.ownBlock] using e)
        refine ⟨⟨_, rfl⟩, .slice (some ⟨g, 0, none⟩) (us.length + 1) cap, ⟨?_, ?_, HLE.out⟩, ?_, fun k hk => .inl hk⟩
        · exact HB4.out.set 10 (.bool false)
        · have h1 : w4.ownsRow B 79 3 (.slice (some ⟨g, 0, none⟩) (us.length + 1) cap) (us ++ [(q1, t, q3)]).length ((us ++ [(q1, t, q3)]).flatMap encPc) := by
            have := HS.out
            rw [List.flatMap_append, List.length_append]
            exact this
          exact ownsRow_setCell_other (a := ⟨b, 10, none⟩) h1 hgne _
        · exact HN4.out.trans (One2.set w4 b 10 _ _) (Fr.refl _ _))
      have hq : (q1 == t) = false := by simpa using he
      have hq2 : decide (q1 = t) = false := decide_eq_false he
      clear HS HB4 HN4
      go_wp2_with fail
      go_end0
      rw [HCF.out]
      exact HZ.out

set_option maxRecDepth 100000 in
set_option maxHeartbeats 4000000 in
theorem on_any (B b : Nat) (v : Value) (r : RunD) (t : Int) (w : World) (h : RM w B b v r) (hl : r.c.ps.length ≤ 1000000) (hB : B ≤ w.heap.size) :
    Calls Tryz.prog 53 #[.pointer (some ⟨b, 0, none⟩), .int .i64 t] w (RunPost w B b v (onF t r)) := by
  have H := Lib.hid h
  obtain ⟨va, vc, rfl⟩ := owns_slice h.ps
  have k6 : w.cell? ⟨b, 6, none⟩ = some (.slice va r.c.ps.length vc) := h.box.cell 6
  have k9 : w.cell? ⟨b, 9, none⟩ = some (.int .i64 r.tgt.2.2) := h.box.cell 9
  clear h
  obtain ⟨⟨kind, lev, mn, start, stop, fin, ps⟩, ⟨t1, t2, t3⟩, goes⟩ := r
  simp only at k6 k9 hl
  obtain ⟨i0, hi0, hz0, hz1, hz2⟩ := info_parts infoPc
  go_enter Tryz.func53, Tryz.ntmps53
  go_upto_region 0 with fail
  have hbw : b < w.heap.size := H.out.box.lt
  have HD := Lib.hid (H.out.below (Below.refl w.heap.size w).drew)
  have hS0 : (fun W : World => W.cell? ⟨b, 6, none⟩ = some (.slice va ps.length vc) ∧ W.cell? ⟨b, 9, none⟩ = some (.int .i64 t3)) w.drew := ⟨k6, k9⟩
  have hbd : b < w.drew.heap.size := H.out.box.lt
  have hBd : B ≤ w.drew.heap.size := hB
  have HN := Lib.hid (One2.drew w b (.slice va ps.length vc))
  refine anyT_start (S := fun W : World => W.cell? ⟨b, 6, none⟩ = some (.slice va ps.length vc) ∧ W.cell? ⟨b, 9, none⟩ = some (.int .i64 t3)) (t := 18) (by kernel_rfl) ?_
  clear k6 k9 H
  generalize w.drew = wd at *
  refine takeT (i := 0) (v := ?_) rfl rfl (by kernel_rfl) (by kernel_rfl) (by kernel_rfl) (fun _ _ _ h => h) (by decide) (by kernel_rfl) (by kernel_rfl) ?_ hS0 ?_
  rotate_left
  · intro w hSw; (try dsimp only at hSw); go_simp; (try with_reducible rfl)
  simp only [List.setIfInBounds_toArray, List.set_cons_zero, List.set_cons_succ]
  refine takeT (i := 1) (v := ?_) rfl rfl (by kernel_rfl) (by kernel_rfl) (by kernel_rfl) (fun _ _ _ h => h) (by decide) (by kernel_rfl) (by kernel_rfl) ?_ hS0 ?_
  rotate_left
  · intro w hSw; (try dsimp only at hSw); go_simp; (try with_reducible rfl)
  simp only [List.setIfInBounds_toArray, List.set_cons_zero, List.set_cons_succ]
  refine takeT (i := 2) (v := ?_) rfl rfl (by kernel_rfl) (by kernel_rfl) (by kernel_rfl) (fun _ _ _ h => h) (by decide) (by kernel_rfl) (by kernel_rfl) ?_ hS0 ?_
  rotate_left
  · intro w hSw; (try dsimp only at hSw); go_simp; (try with_reducible rfl)
  simp only [List.setIfInBounds_toArray, List.set_cons_zero, List.set_cons_succ]
  refine takeT (i := 3) (v := ?_) rfl rfl (by kernel_rfl) (by kernel_rfl) (by kernel_rfl) (fun _ _ _ h => h) (by decide) (by kernel_rfl) (by kernel_rfl) ?_ hS0 ?_
  rotate_left
  · intro w hSw; (try dsimp only at hSw); go_simp; (try with_reducible rfl)
  simp only [List.setIfInBounds_toArray, List.set_cons_zero, List.set_cons_succ]
  refine takeT (i := 4) (v := ?_) rfl rfl (by kernel_rfl) (by kernel_rfl) (by kernel_rfl) (fun _ _ _ h => h) (by decide) (by kernel_rfl) (by kernel_rfl) ?_ hS0 ?_
  rotate_left
  · intro w hSw; (try dsimp only at hSw); go_simp; (try with_reducible rfl)
  simp only [List.setIfInBounds_toArray, List.set_cons_zero, List.set_cons_succ]
  refine takeT (i := 5) (v := ?_) rfl rfl (by kernel_rfl) (by kernel_rfl) (by kernel_rfl) (fun _ _ _ h => h) (by decide) (by kernel_rfl) (by kernel_rfl) ?_ hS0 ?_
  rotate_left
  · intro w hSw; (try dsimp only at hSw); go_simp; (try with_reducible rfl)
  simp only [List.setIfInBounds_toArray, List.set_cons_zero, List.set_cons_succ]
  refine takeT (i := 6) (v := ?_) rfl rfl (by kernel_rfl) (by kernel_rfl) (by kernel_rfl) (fun _ _ _ h => h) (by decide) (by kernel_rfl) (by kernel_rfl) ?_ hS0 ?_
  rotate_left
  · intro w hSw; (try dsimp only at hSw); go_simp; (try with_reducible rfl)
  simp only [List.setIfInBounds_toArray, List.set_cons_zero, List.set_cons_succ]
  refine takeT (i := 7) (v := ?_) rfl rfl (by kernel_rfl) (by kernel_rfl) (by kernel_rfl) (fun _ _ _ h => h) (by decide) (by kernel_rfl) (by kernel_rfl) ?_ hS0 ?_
  rotate_left
  · intro w hSw; (try dsimp only at hSw); go_simp; (try with_reducible rfl)
  simp only [List.setIfInBounds_toArray, List.set_cons_zero, List.set_cons_succ]
  refine takeT (i := 8) (v := ?_) rfl rfl (by kernel_rfl) (by kernel_rfl) (by kernel_rfl) (fun _ _ _ h => h) (by decide) (by kernel_rfl) (by kernel_rfl) ?_ hS0 ?_
  rotate_left
  · intro w hSw; (try dsimp only at hSw); go_simp; (try with_reducible rfl)
  simp only [List.setIfInBounds_toArray, List.set_cons_zero, List.set_cons_succ]
  refine takeT (i := 9) (v := ?_) rfl rfl (by kernel_rfl) (by kernel_rfl) (by kernel_rfl) (fun _ _ _ h => h) (by decide) (by kernel_rfl) (by kernel_rfl) ?_ hS0 ?_
  rotate_left
  · intro w hSw; (try dsimp only at hSw); go_simp; (try with_reducible rfl)
  simp only [List.setIfInBounds_toArray, List.set_cons_zero, List.set_cons_succ]
  refine takeT (i := 10) (v := ?_) rfl rfl (by kernel_rfl) (by kernel_rfl) (by kernel_rfl) (fun _ _ _ h => h) (by decide) (by kernel_rfl) (by kernel_rfl) ?_ hS0 ?_
  rotate_left
  · intro w hSw; (try dsimp only at hSw); go_simp; (try with_reducible rfl)
  simp only [List.setIfInBounds_toArray, List.set_cons_zero, List.set_cons_succ]
  refine takeT (i := 11) (v := ?_) rfl rfl (by kernel_rfl) (by kernel_rfl) (by kernel_rfl) (fun _ _ _ h => h) (by decide) (by kernel_rfl) (by kernel_rfl) ?_ hS0 ?_
  rotate_left
  · intro w hSw; (try dsimp only at hSw); go_simp; (try with_reducible rfl)
  simp only [List.setIfInBounds_toArray, List.set_cons_zero, List.set_cons_succ]
  refine takeT (i := 12) (v := ?_) rfl rfl (by kernel_rfl) (by kernel_rfl) (by kernel_rfl) (fun _ _ _ h => h) (by decide) (by kernel_rfl) (by kernel_rfl) ?_ hS0 ?_
  rotate_left
  · intro w hSw; (try dsimp only at hSw); go_simp; (try with_reducible rfl)
  simp only [List.setIfInBounds_toArray, List.set_cons_zero, List.set_cons_succ]
  refine oneT (i := 13) rfl (by kernel_rfl) (fun K hK => ?_)
  go_simp
  have hb6 : Below wd.heap.size wd (wd.alloc (.cells #[.int .i64 t, .int .i64 (-1), .int .i64 t3] 79)) := (Below.refl _ _).alloc (Nat.le_refl _) _
  have hS6 : (fun W : World => W.cell? ⟨b, 6, none⟩ = some (.slice va ps.length vc) ∧ W.cell? ⟨b, 9, none⟩ = some (.int .i64 t3)) (wd.alloc (.cells #[.int .i64 t, .int .i64 (-1), .int .i64 t3] 79)) := ⟨(below_cell hb6 hbd).trans hS0.1, (below_cell hb6 hbd).trans hS0.2⟩
  refine hK.out _ _ (fun _ => hS6) ?_
  clear hK
  try simp only [List.setIfInBounds_toArray, List.set_cons_zero, List.set_cons_succ, Act.put]
  refine oneT (i := 14) rfl (by kernel_rfl) (fun K hK => ?_)
  refine step_append_lies _ (by rfl) _ _ _ (by rfl) B 79 i0 (.agg #[.int .i64 0, .int .i64 0, .int .i64 0]) 3 24 Tryz.underlying32 hi0 hz0 hz1 hz2 rfl (by omega) _ _ _ (by rfl) (HD.out.ps.alloc _) ⟨wd.heap.size, 0, none⟩ 1 1 [.int .i64 t, .int .i64 (-1), .int .i64 t3] (by rfl) rfl (World.news_of_block (heap_alloc_new _ _)) (by simp [Value.oneCell']) (by first | omega | (unfold maxLen; omega) | (simp only; omega) | (simp only; unfold maxLen; omega)) (by first | omega | (unfold maxLen; omega) | (simp only; omega) | (simp only; unfold maxLen; omega)) (by first | omega | (unfold maxLen; omega) | (simp only; omega) | (simp only; unfold maxLen; omega)) (by simp; omega) (wd.heap.size + 1) (by simp) ?_
  intro g' c2 w6 hown1 hgrow hat hlt'
  have hgrow : (wd.alloc (.cells #[.int .i64 t, .int .i64 (-1), .int .i64 t3] 79)).grownBy w6 (Value.slice va ps.length vc).ownBlock := hgrow
  have hHA := HD.out.below hb6
  have hn6 : One2 w w6 b (.slice va ps.length vc) := HN.out.trans ((One2.of_below hb6).trans (One2.own hgrow) (Fr.refl _ _)) (Fr.refl _ _)
  have hbx : Has w6 b (runV ⟨⟨kind, lev, mn, start, stop, fin, ps⟩, (t1, t2, t3), goes⟩ (.slice va ps.length vc)) 74 := hHA.box.kept hgrow (fun q => hHA.apart q.symm)
  have hfr : Fr w (.slice va ps.length vc) (.slice (some ⟨g', 0, none⟩) (ps.length + 1) c2) := fun k hk => by
    have hk2 : g' = k := by simpa [Value.ownBlock] using hk
    subst hk2
    rcases hat with q | q
    · exact .inl q
    · exact .inr (by have := HN.out.size; first | omega | (simp at q; omega))
  have hgb : (Value.slice (some ⟨g', 0, none⟩) (ps.length + 1) c2).ownBlock ≠ some b := fun q => by
    rcases hfr b q with e | e
    · exact hHA.apart e
    · have : b < w.heap.size := hbw
      omega
  have HZ := Lib.hid (show RunPost w B b (.slice va ps.length vc) (onF t ⟨⟨kind, lev, mn, start, stop, fin, ps⟩, (t1, t2, t3), goes⟩) (.returned (.tuple #[])) ((w6.setCell ⟨b, 6, none⟩ (.slice (some ⟨g', 0, none⟩) (ps.length + 1) c2)).setCell ⟨b, 10, none⟩ (.bool true)) from by
    refine ⟨⟨_, rfl⟩, .slice (some ⟨g', 0, none⟩) (ps.length + 1) c2, ⟨?_, ?_, HD.out.le⟩, hn6.trans ((One2.set w6 b 6 _ _).trans (One2.set _ b 10 _ _) (Fr.refl _ _)) (Fr.refl _ _), hfr⟩
    · exact (hbx.set 6 _).set 10 _
    · have h1 : w6.ownsRow B 79 3 (.slice (some ⟨g', 0, none⟩) (ps.length + 1) c2) (ps ++ [(t, -1, t3)]).length ((ps ++ [(t, -1, t3)]).flatMap encPc) := by
        rw [List.flatMap_append, List.length_append]
        exact hown1
      exact ownsRow_setCell_other (a := ⟨b, 10, none⟩) (ownsRow_setCell_other (a := ⟨b, 6, none⟩) h1 hgb _) hgb _)
  have z6 := hbx.cell 6
  have z9 := hbx.cell 9
  have y6 := hbx.fz 6
  have y10 := (hbx.set 6 (.slice (some ⟨g', 0, none⟩) (ps.length + 1) c2)).fz 10
  have z10 := (hbx.set 6 (.slice (some ⟨g', 0, none⟩) (ps.length + 1) c2)).cell 10
  unfold runV at z6 z9 z10
  have hS7 : (fun W : World => W.cell? ⟨b, 6, none⟩ = some (.slice va ps.length vc) ∧ W.cell? ⟨b, 9, none⟩ = some (.int .i64 t3)) w6 := ⟨z6, z9⟩
  refine hK.out _ _ (fun _ => hS7) ?_
  clear hK hown1 hgrow hat hlt' hHA hn6 hbx hfr hgb hb6 hS6 hS0 z6 z9
  try simp only [List.setIfInBounds_toArray, List.set_cons_zero, List.set_cons_succ, Act.put]
  refine oneT (i := 15) rfl (by kernel_rfl) (fun K hK => ?_)
  go_simp
  refine hK.out _ _ (fun _ => hS7) ?_
  clear hK
  try simp only [List.setIfInBounds_toArray, List.set_cons_zero, List.set_cons_succ, Act.put]
  refine oneT (i := 16) rfl (by kernel_rfl) (fun K hK => ?_)
  go_simp
  refine hK.out _ _ (fun _ => hS7) ?_
  clear hK
  try simp only [List.setIfInBounds_toArray, List.set_cons_zero, List.set_cons_succ, Act.put]
  refine oneT (i := 17) rfl (by kernel_rfl) (fun K hK => ?_)
  go_simp
  refine hK.out _ _ (fun _ => hS7) ?_
  clear hK
  try simp only [List.setIfInBounds_toArray, List.set_cons_zero, List.set_cons_succ, Act.put]
  have x6 : w6.cell? ⟨b, 6, none⟩ = some (.slice va ps.length vc) := hS7.1
  refine oneT (i := 18) rfl (by kernel_rfl) (fun K hK => ?_)
  go_simp
  refine hK.out _ _ (fun q => absurd rfl q) ?_
  refine doneT (by kernel_rfl) ?_ _
  clear hS7 x6 HD HN
  go_wp2_with fail
  go_end0
  exact HZ.out
theorem end_any (B b : Nat) (v : Value) (r : RunD) (t how : Int) (w : World) (h : RM w B b v r) (hr : RunOk r) (hl : r.c.ps.length ≤ 1000000) :
    Calls Tryz.prog 45 #[.pointer (some ⟨b, 0, none⟩), .int .i64 t, .int .i64 how] w (RunPost w B b v (endF' t how r)) := by
  have HC := Lib.hid (cut_any B b v r t w h hr hl)
  unfold endF'
  generalize cutF t r = r1 at *
  clear h hr hl
  go_enter Tryz.func45, Tryz.ntmps45
  go_wp2_with fail
  refine HC.out.mono ?_
  rintro e w3 ⟨⟨u, rfl⟩, v', hm, h1, hf⟩
  have k4 := hm.box.cell 4
  have k5 := hm.box.cell 5
  have g4 := hm.box.fz 4
  have g5 := hm.box.fz 5
  unfold runV at k4 k5
  have HZ := Lib.hid (show RunPost w B b v ⟨{ r1.c with stop := t, fin := how }, r1.tgt, r1.goes⟩ (.returned (.tuple #[])) ((w3.setCell ⟨b, 4, none⟩ (.int .i64 t)).setCell ⟨b, 5, none⟩ (.int .i64 how)) from by
    refine ⟨⟨_, rfl⟩, v', ⟨?_, ?_, hm.le⟩, ?_, hf⟩
    · exact (hm.box.set 4 (.int .i64 t)).set 5 (.int .i64 how)
    · exact ownsRow_setCell_other (a := ⟨b, 5, none⟩) (ownsRow_setCell_other (a := ⟨b, 4, none⟩) hm.ps hm.apart _) hm.apart _
    · exact h1.trans ((One2.set w3 b 4 _ _).trans (One2.set _ b 5 _ _) (Fr.refl _ _)) hf)
  clear hm h1 hf HC
  go_wp2_with fail
  go_end0
  exact HZ.out
end Go.Proofs.YtllcgcnebofdoaaGreatDoor

/- A keeper in memory, and what it is after one of its clocks has been turned. -/
namespace Go.Proofs.YtllcgcnebofdoaaGreatDoor
open Go.RowKit

/-- a clock's block, the value of its pieces' slice, what it is -/
abbrev Rc := Nat × Value × RunD
def Apart2 (a b : Value) : Prop := ∀ k, a.ownBlock = some k → b.ownBlock ≠ some k
def rcPtr (x : Rc) : Value := .pointer (some ⟨x.1, 0, none⟩)
structure KM (w : World) (B K : Nat) (vp vl : Value) (lev : Int) (vk : Value) (l : List Rc) : Prop where
  box : Has w K #[vp, vl, .int .i64 lev, vk] 67
  row : w.ownsRow B 70 1 vk l.length (l.map rcPtr)
  has : ∀ i (h : i < l.length), RM w B l[i].1 l[i].2.1 l[i].2.2
  nod : ∀ i j (hi : i < l.length) (hj : j < l.length), i ≠ j → l[i].1 ≠ l[j].1
  ne : ∀ i j (hi : i < l.length) (hj : j < l.length), i ≠ j → Apart2 l[i].2.1 l[j].2.1
  kb : B ≤ K
def runsOf (l : List Rc) : List RunD := l.map fun x => x.2.2
theorem KM.below {w w' : World} {B K : Nat} {vp vl vk : Value} {lev : Int} {l : List Rc} (h : KM w B K vp vl lev vk l) (hb : Below w.heap.size w w') : KM w' B K vp vl lev vk l :=
  ⟨h.box.below hb h.box.lt, owns_below h.row hb, fun i hi => (h.has i hi).below hb, h.nod, h.ne, h.kb⟩
theorem RM.other {w w' : World} {B b b0 : Nat} {v v0 : Value} {r : RunD} (hm : RM w B b v r) (h1 : One2 w w' b0 v0) (hb : b ≠ b0) (hv : v0.ownBlock ≠ some b) (hps : ∀ k, v.ownBlock = some k → k ≠ b0 ∧ v0.ownBlock ≠ some k) : RM w' B b v r := by
  refine ⟨(h1.block b hm.box.lt hb hv).trans hm.box, ?_, hm.le⟩
  refine ⟨hm.ps.1, ?_⟩
  rcases hm.ps.2 with q | ⟨g, cap, cur, hvv, hg, hh, r⟩
  · exact .inl q
  · have hk := hps g (by rw [hvv]; rfl)
    exact .inr ⟨g, cap, cur, hvv, hg, (h1.block g (Array.getElem?_eq_some_iff.1 hh).1 hk.1 hk.2).trans hh, r⟩
/-- one clock is turned -/
theorem KM.upd {w w' : World} {B K : Nat} {vp vl vk : Value} {lev : Int} {l : List Rc} (h : KM w B K vp vl lev vk l) {i : Nat} (hi : i < l.length) {v' : Value} {r' : RunD} (hm : RM w' B l[i].1 v' r') (h1 : One2 w w' l[i].1 l[i].2.1) (hf : Fr w l[i].2.1 v') :
    KM w' B K vp vl lev vk (l.set i (l[i].1, v', r')) := by
  have hk := h1.keepsR (h.has i hi)
  have hty : ∀ j (hj : j < l.length), l[i].2.1.ownBlock ≠ some l[j].1 := fun j hj q => by
    obtain ⟨ds, hd⟩ := own_type (h.has i hi).ps q
    have hb : w.heap[l[j].1]? = some (.cells (runV l[j].2.2 l[j].2.1) 74 (0, 0)) := (h.has j hj).box
    rw [hb] at hd
    cases hd
  have hty2 : ∀ j (hj : j < l.length) k, l[j].2.1.ownBlock = some k → k ≠ l[i].1 := fun j hj k q e => by
    obtain ⟨ds, hd⟩ := own_type (h.has j hj).ps q
    have hb : w.heap[l[i].1]? = some (.cells (runV l[i].2.2 l[i].2.1) 74 (0, 0)) := (h.has i hi).box
    rw [e, hb] at hd
    cases hd
  refine ⟨h.box.keepsR hk (by decide) (by decide), ?_, fun j hj => ?_, fun j k hj hk' hne => ?_, fun j k hj hk' hne => ?_, h.kb⟩
  · have e : (l.set i (l[i].1, v', r')).map rcPtr = l.map rcPtr := by
      rw [List.map_set]
      apply List.ext_getElem
      · simp
      · intro j h1 h2
        by_cases g : i = j
        · subst g; simp [rcPtr]
        · rw [List.getElem_set_ne g]
    rw [e, List.length_set]
    exact owns_keepsR h.row hk (by decide) (by decide)
  · rw [List.length_set] at hj
    by_cases g : i = j
    · subst g
      simp only [List.getElem_set_self]
      exact hm
    · simp only [List.getElem_set_ne g]
      exact (h.has j hj).other h1 (h.nod j i hj hi (Ne.symm g)) (hty j hj) (fun k q => ⟨hty2 j hj k q, fun q2 => h.ne i j hi hj g k q2 q⟩)
  · rw [List.length_set] at hj hk'
    by_cases g : i = j
    · subst g
      simp only [List.getElem_set_self, List.getElem_set_ne hne]
      exact h.nod i k hi hk' hne
    · by_cases g2 : i = k
      · subst g2
        simp only [List.getElem_set_self, List.getElem_set_ne g]
        exact h.nod j i hj hi hne
      · simp only [List.getElem_set_ne g, List.getElem_set_ne g2]
        exact h.nod j k hj hk' hne
  · rw [List.length_set] at hj hk'
    have hold : ∀ m (hm' : m < l.length), i ≠ m → ∀ q, v'.ownBlock = some q → l[m].2.1.ownBlock ≠ some q := fun m hm' hne' q hq e => by
      rcases hf q hq with g | g
      · exact h.ne i m hi hm' hne' q g e
      · have := ((h.has m hm').ps.lt q e).2
        omega
    by_cases g : i = j
    · subst g
      simp only [List.getElem_set_self, List.getElem_set_ne hne]
      exact fun q hq => hold k hk' hne q hq
    · by_cases g2 : i = k
      · subst g2
        simp only [List.getElem_set_self, List.getElem_set_ne g]
        exact fun q hq e => hold j hj g q e hq
      · simp only [List.getElem_set_ne g, List.getElem_set_ne g2]
        exact h.ne j k hj hk' hne
theorem each_next (f : RunD → RunD) (R : List RunD) {i : Nat} (hi : i < R.length) : eachF f (R.take (i + 1)) ++ R.drop (i + 1) = (eachF f (R.take i) ++ R.drop i).set i (if R[i].c.fin = 0 then f R[i] else R[i]) := by
  have hl : (eachF f (R.take i)).length = i := by rw [each_len, List.length_take]; omega
  rw [List.set_append_right _ _ (by omega), hl, Nat.sub_self, List.drop_eq_getElem_cons hi, List.set_cons_zero, List.take_succ_eq_append_getElem hi]
  unfold eachF
  rw [List.map_append]
  simp
theorem each_at (f : RunD → RunD) (R : List RunD) {i : Nat} (hi : i < R.length) {L : List RunD} (h : L = eachF f (R.take i) ++ R.drop i) : L[i]? = some R[i] := by
  have hl : (eachF f (R.take i)).length = i := by rw [each_len, List.length_take]; omega
  rw [h, List.getElem?_append_right (by omega), hl, Nat.sub_self, List.drop_eq_getElem_cons hi]
  rfl
structure EachI (w wr : World) (B K : Nat) (vp vl vk : Value) (lev : Int) (f : RunD → RunD) (J : World → Prop) (R : List RunD) (i : Nat) : Prop where
  le : i ≤ R.length
  mem : ∃ l', KM wr B K vp vl lev vk l' ∧ runsOf l' = eachF f (R.take i) ++ R.drop i
  below : Below B w wr
  keeps : KeepsR w wr
  j : J wr
def EachPost (w : World) (B K : Nat) (vp vl vk : Value) (lev : Int) (f : RunD → RunD) (J : World → Prop) (R : List RunD) (e : Ending) (w' : World) : Prop :=
  (∃ u, e = .returned u) ∧ (∃ l', KM w' B K vp vl lev vk l' ∧ runsOf l' = eachF f R) ∧ Below B w w' ∧ KeepsR w w' ∧ J w'
end Go.Proofs.YtllcgcnebofdoaaGreatDoor
