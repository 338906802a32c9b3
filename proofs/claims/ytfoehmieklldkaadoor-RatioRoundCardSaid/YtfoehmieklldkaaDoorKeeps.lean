/- The walk of staff's keeps. -/
import Derived.Test.YtfoehmieklldkaaDoorMean
import Derived.Test.YtfoehmieklldkaaDoorHeld
namespace Go.Proofs.YtfoehmieklldkaaDoor
open Go.RowKit

structure PrOk (sh f wt pt : Nat) : Prop where
  s : sh ≤ f
  o0 : 0 < f
  o : f ≤ 1000000
  w : wt ≤ 1000000
  p0 : 0 < pt
  p : pt ≤ 1000000

theorem cmpN_le (n m : Nat) : cmpN n m ≤ 0 ↔ n ≤ m := by
  unfold cmpN
  split
  · omega
  · split <;> omega

set_option maxRecDepth 100000 in
set_option maxHeartbeats 16000000 in
theorem keeps_any (C L S n sh f wt pt : Nat) (hl : LdOk C L S) (hp : PrOk sh f wt pt) (hn : n ≤ 60) (w : World) :
    Calls Tryd.prog 33 #[.agg #[.int .i64 (C : Nat), .int .i64 (L : Nat), .int .i64 (S : Nat)], .agg #[.int .i64 (sh : Nat), .int .i64 (f : Nat), .int .i64 (wt : Nat), .int .i64 (pt : Nat)], .int .i64 (n : Nat)] w
      (fun e w' => e = .returned (.bool (keepsN ⟨C, L, S⟩ ⟨sh, f, wt, pt⟩ n)) ∧ Below w.heap.size w w') := by
  have hmw := meanWait_any C L S n hl hn
  have hwt := waits_any C L S n hl hn
  have hk0 : meanN ⟨C, L, S⟩ n = none → keepsN ⟨C, L, S⟩ ⟨sh, f, wt, pt⟩ n = false := fun h => by unfold keepsN; rw [h]
  have hk1 : ∀ m, meanN ⟨C, L, S⟩ n = some m → keepsN ⟨C, L, S⟩ ⟨sh, f, wt, pt⟩ n = (decide (cmpN ((waitsN ⟨C, L, S⟩ n).1 * f) (sh * (waitsN ⟨C, L, S⟩ n).2) ≤ 0) && decide (cmpN (m.1 * pt) (wt * m.2) ≤ 0)) := fun m h => by
    unfold keepsN; rw [h]; simp only [cmpN_le]
  generalize keepsN ⟨C, L, S⟩ ⟨sh, f, wt, pt⟩ n = kn at *
  generalize meanN ⟨C, L, S⟩ n = mn at *
  generalize waitsN ⟨C, L, S⟩ n = wn at *
  have HMW := Lib.hid hmw
  have HWT := Lib.hid hwt
  clear hmw hwt
  have hbx := box2 w #[.int .i64 (C : Nat), .int .i64 (L : Nat), .int .i64 (S : Nat)] #[.int .i64 (sh : Nat), .int .i64 (f : Nat), .int .i64 (wt : Nat), .int .i64 (pt : Nat)] 23 25
  go_enter Tryd.func33, Tryd.ntmps33
  go_upto_region 1 with fail
  generalize (w.alloc (.cells #[.int .i64 (C : Nat), .int .i64 (L : Nat), .int .i64 (S : Nat)] 23)).alloc (.cells #[.int .i64 (sh : Nat), .int .i64 (f : Nat), .int .i64 (wt : Nat), .int .i64 (pt : Nat)] 25) = w2 at *
  obtain ⟨hx, hx2, hbl⟩ := hbx
  have k0 : w2.cell? ⟨w.heap.size, 0, none⟩ = some (.int .i64 (C : Nat)) := hx.cell 0
  have k1 : w2.cell? ⟨w.heap.size, 1, none⟩ = some (.int .i64 (L : Nat)) := hx.cell 1
  have k2 : w2.cell? ⟨w.heap.size, 2, none⟩ = some (.int .i64 (S : Nat)) := hx.cell 2
  have hlt1 := hx.lt
  have hlt2 := hx2.lt
  go_wp2_with fail
  refine (HMW.out w2).mono ?_
  rintro e w3 ⟨a1, l1, c1, a2, l2, c2, rfl, hr, hb⟩
  have hx3 := hx.below hb hlt1
  have hx4 := hx2.below hb hlt2
  have hb3 := below_up hbl hb hbl.size
  have hl3 := hx4.lt
  obtain ⟨bx, bb⟩ := box1 w3 #[.slice a1 l1 c1, .slice a2 l2 c2] 82
  have hr4 := fun m hm => And.intro ((hr m hm).num.below bb) ((hr m hm).den.below bb)
  have hy3 := hx3.below bb (by omega)
  have hy4 := hx4.below bb (by omega)
  have hb4 := below_up hb3 bb hb3.size
  go_upto_region 2 with fail
  generalize w3.alloc (.cells #[.slice a1 l1 c1, .slice a2 l2 c2] 82) = w4 at *
  generalize w3.heap.size = Bb at *
  have f1 := hy3.lt
  have f2 := hy4.lt
  have f3 := bx.lt
  have hks : ∀ W, Below w4.heap.size w4 W → W.cell? ⟨w.heap.size, 0, none⟩ = some (.int .i64 (C : Nat)) ∧ W.cell? ⟨w.heap.size, 1, none⟩ = some (.int .i64 (L : Nat)) ∧ W.cell? ⟨w.heap.size, 2, none⟩ = some (.int .i64 (S : Nat)) ∧ W.cell? ⟨w.heap.size + 1, 0, none⟩ = some (.int .i64 (sh : Nat)) ∧ W.cell? ⟨w.heap.size + 1, 1, none⟩ = some (.int .i64 (f : Nat)) ∧ W.cell? ⟨w.heap.size + 1, 2, none⟩ = some (.int .i64 (wt : Nat)) ∧ W.cell? ⟨w.heap.size + 1, 3, none⟩ = some (.int .i64 (pt : Nat)) ∧ W.cell? ⟨Bb, 0, none⟩ = some (.slice a1 l1 c1) ∧ W.cell? ⟨Bb, 1, none⟩ = some (.slice a2 l2 c2) := fun W h =>
    ⟨(below_cell h f1).trans (hy3.cell 0), (below_cell h f1).trans (hy3.cell 1), (below_cell h f1).trans (hy3.cell 2), (below_cell h f2).trans (hy4.cell 0), (below_cell h f2).trans (hy4.cell 1), (below_cell h f2).trans (hy4.cell 2), (below_cell h f2).trans (hy4.cell 3), (below_cell h f3).trans (bx.cell 0), (below_cell h f3).trans (bx.cell 1)⟩
  have HKS := Lib.hid hks
  have HB4 := Lib.hid hb4
  cases mn with
  | none =>
    have hk := hk0 rfl
    subst hk
    clear hks hx hx2 hx3 hx4 hy3 hy4 bx hb hbl hb3 hk1 hr hr4 k0 k1 k2 bb hb4
    simp only [Option.isSome_none]
    go_quiet (fail)
    go_wp2
    go_ret
    exact ⟨rfl, drewN_below HB4.out _⟩
  | some m =>
    have hk := hk1 m rfl
    subst hk
    have HM := Lib.hid (hr4 m rfl)
    obtain ⟨o1, o2, o3, o4, o5, o6⟩ := hp
    clear hks hx hx2 hx3 hx4 hy3 hy4 bx hb hbl hb3 hk0 hk1 hr k0 k1 k2 bb hb4 hr4
    simp only [Option.isSome_some]
    generalize hq1 : cmpN (wn.1 * f) (sh * wn.2) = q1 at *
    by_cases hq : q1 ≤ 0
    · have hqb : decide (q1 ≤ 0) = true := by simpa using hq
      go_region_held3 (fun W => W.cell? ⟨w.heap.size, 0, none⟩ = some (.int .i64 (C : Nat)) ∧ W.cell? ⟨w.heap.size, 1, none⟩ = some (.int .i64 (L : Nat)) ∧ W.cell? ⟨w.heap.size, 2, none⟩ = some (.int .i64 (S : Nat)) ∧ W.cell? ⟨w.heap.size + 1, 0, none⟩ = some (.int .i64 (sh : Nat)) ∧ W.cell? ⟨w.heap.size + 1, 1, none⟩ = some (.int .i64 (f : Nat)) ∧ W.cell? ⟨w.heap.size + 1, 2, none⟩ = some (.int .i64 (wt : Nat)) ∧ W.cell? ⟨w.heap.size + 1, 3, none⟩ = some (.int .i64 (pt : Nat)) ∧ W.cell? ⟨Bb, 0, none⟩ = some (.slice a1 l1 c1) ∧ W.cell? ⟨Bb, 1, none⟩ = some (.slice a2 l2 c2))
        (first | exact HKS.out _ hB | exact HKS.out _ (Below.refl _ _).drew)
        (first
          | (go_at_call 62; have hg := hn4; refine (rcompare_any _ _ _ _ _ _ _ _ _ _ _ _ m.1 m.2 wt pt (2 * n + 4) _ (by omega) (HM.out.1.below hB) (HM.out.2.below hB) (hn3.le (by omega)) (hn4.le (by omega))).mono ?_; rintro e w' ⟨rfl, hb⟩; have hB := below_up' hB hb)
          | (go_at_call 58; have hg := hn3; refine (natOf_any pt _ (by omega)).mono ?_; rintro e w' ⟨xhn4, yhn4, zhn4, rfl, hn4, hb⟩; have hn3 := hn3.below hb; have hB := below_up' hB hb)
          | (go_at_call 58; have hg := hcm; refine (natOf_any wt _ (by omega)).mono ?_; rintro e w' ⟨xhn3, yhn3, zhn3, rfl, hn3, hb⟩;  have hB := below_up' hB hb)
          | (go_at_call 62; have hg := hn2; refine (rcompare_any _ _ _ _ _ _ _ _ _ _ _ _ wn.1 wn.2 sh f (2 * n + 4) _ (by omega) (hw1.le (by omega)) (hw2.le (by omega)) (hn1.le (by omega)) (hn2.le (by omega))).mono ?_; rintro e w' ⟨rfl, hb⟩; have hcm := True.intro; have hB := below_up' hB hb)
          | (go_at_call 58; have hg := hn1; refine (natOf_any f _ (by omega)).mono ?_; rintro e w' ⟨xhn2, yhn2, zhn2, rfl, hn2, hb⟩; have hn1 := hn1.below hb; have hw1 := hw1.below hb; have hw2 := hw2.below hb; have hB := below_up' hB hb)
          | (go_at_call 58; have hg := hw1; refine (natOf_any sh _ (by omega)).mono ?_; rintro e w' ⟨xhn1, yhn1, zhn1, rfl, hn1, hb⟩; have hw1 := hw1.below hb; have hw2 := hw2.below hb; have hB := below_up' hB hb)
          | (go_at_call 61; refine (HWT.out w4.drew).mono ?_; rintro e w' ⟨xa, ya, za, xb, yb, zb, rfl, hw, hb⟩; have hw1 := hw.num; have hw2 := hw.den; have hB := below_up' (Below.refl _ w4).drew hb))
      go_wp2
      go_ret
      have hqc : decide (cmpN (wn.1 * f) (sh * wn.2) ≤ 0) = true := by rw [hq1]; exact hqb
      exact ⟨by first | rfl | simp [hqc], below_up HB4.out hB HB4.out.size⟩
    · have hq3 : q1 = 1 := by
        rw [← hq1] at hq ⊢
        unfold cmpN at hq ⊢
        split at hq
        · omega
        · split at hq
          · rename_i h1 h2
            rw [if_neg h1, if_pos h2]
          · omega
      subst hq3
      clear hq
      refine wp_region_held_drew (S := fun W => W.cell? ⟨w.heap.size, 0, none⟩ = some (.int .i64 (C : Nat)) ∧ W.cell? ⟨w.heap.size, 1, none⟩ = some (.int .i64 (L : Nat)) ∧ W.cell? ⟨w.heap.size, 2, none⟩ = some (.int .i64 (S : Nat)) ∧ W.cell? ⟨w.heap.size + 1, 0, none⟩ = some (.int .i64 (sh : Nat)) ∧ W.cell? ⟨w.heap.size + 1, 1, none⟩ = some (.int .i64 (f : Nat)) ∧ W.cell? ⟨w.heap.size + 1, 2, none⟩ = some (.int .i64 (wt : Nat)) ∧ W.cell? ⟨w.heap.size + 1, 3, none⟩ = some (.int .i64 (pt : Nat)) ∧ W.cell? ⟨Bb, 0, none⟩ = some (.slice a1 l1 c1) ∧ W.cell? ⟨Bb, 1, none⟩ = some (.slice a2 l2 c2)) (by kernel_rfl) (HKS.out _ (Below.refl _ _).drew) (fun hHeld => ?_)
      refine takeH (i := 0) (v := ?_) rfl rfl (by kernel_rfl) (by kernel_rfl) (by kernel_rfl) (fun _ _ _ h => h) (by kernel_rfl) ?_ hHeld ?_
      rotate_left
      · intro w hSw; (try dsimp only at hSw); go_simp; (try with_reducible rfl)
      simp only [List.setIfInBounds_toArray, List.set_cons_zero, List.set_cons_succ]
      refine takeH (i := 1) (v := ?_) rfl rfl (by kernel_rfl) (by kernel_rfl) (by kernel_rfl) (fun _ _ _ h => h) (by kernel_rfl) ?_ hHeld ?_
      rotate_left
      · intro w hSw; (try dsimp only at hSw); go_simp; (try with_reducible rfl)
      simp only [List.setIfInBounds_toArray, List.set_cons_zero, List.set_cons_succ]
      refine takeH (i := 2) (v := ?_) rfl rfl (by kernel_rfl) (by kernel_rfl) (by kernel_rfl) (fun _ _ _ h => h) (by kernel_rfl) ?_ hHeld ?_
      rotate_left
      · intro w hSw; (try dsimp only at hSw); go_simp; (try with_reducible rfl)
      simp only [List.setIfInBounds_toArray, List.set_cons_zero, List.set_cons_succ]
      refine takeH (i := 3) (v := ?_) rfl rfl (by kernel_rfl) (by kernel_rfl) (by kernel_rfl) (fun _ _ _ h => h) (by kernel_rfl) ?_ hHeld ?_
      rotate_left
      · intro w hSw; (try dsimp only at hSw); go_simp; (try with_reducible rfl)
      simp only [List.setIfInBounds_toArray, List.set_cons_zero, List.set_cons_succ]
      refine takeH (i := 5) (v := ?_) rfl rfl (by kernel_rfl) (by kernel_rfl) (by kernel_rfl) (fun _ _ _ h => h) (by kernel_rfl) ?_ hHeld ?_
      rotate_left
      · intro w hSw; (try dsimp only at hSw); go_simp; (try with_reducible rfl)
      simp only [List.setIfInBounds_toArray, List.set_cons_zero, List.set_cons_succ]
      refine takeH (i := 6) (v := ?_) rfl rfl (by kernel_rfl) (by kernel_rfl) (by kernel_rfl) (fun _ _ _ h => h) (by kernel_rfl) ?_ hHeld ?_
      rotate_left
      · intro w hSw; (try dsimp only at hSw); go_simp; (try with_reducible rfl)
      simp only [List.setIfInBounds_toArray, List.set_cons_zero, List.set_cons_succ]
      refine takeH (i := 8) (v := ?_) rfl rfl (by kernel_rfl) (by kernel_rfl) (by kernel_rfl) (fun _ _ _ h => h) (by kernel_rfl) ?_ hHeld ?_
      rotate_left
      · intro w hSw; (try dsimp only at hSw); go_simp; (try with_reducible rfl)
      simp only [List.setIfInBounds_toArray, List.set_cons_zero, List.set_cons_succ]
      refine takeH (i := 9) (v := ?_) rfl rfl (by kernel_rfl) (by kernel_rfl) (by kernel_rfl) (fun _ _ _ h => h) (by kernel_rfl) ?_ hHeld ?_
      rotate_left
      · intro w hSw; (try dsimp only at hSw); go_simp; (try with_reducible rfl)
      simp only [List.setIfInBounds_toArray, List.set_cons_zero, List.set_cons_succ]
      refine wpAnyH_ready (rs := [4]) (by kernel_rfl) (by simp) ?_
      refine AllReadyH.cons rfl (fun K hK => ?_) AllReadyH.nil
      rw [if_pos (by rfl)]
      go_wp2_with fail
      refine (HWT.out w4.drew).mono ?_; rintro e w' ⟨xa, ya, za, xb, yb, zb, rfl, hw, hb⟩; have hw1 := hw.num; have hw2 := hw.den; have hB := below_up' (Below.refl _ w4).drew hb
      go_wp2_with fail
      refine hK.out _ _ (HKS.out _ hB) (fun hHeld => ?_)
      clear hK K
      try simp only [Act.put, List.setIfInBounds_toArray, List.set_cons_zero, List.set_cons_succ]
      refine wpAnyH_ready (rs := [7]) (by kernel_rfl) (by simp) ?_
      refine AllReadyH.cons rfl (fun K hK => ?_) AllReadyH.nil
      rw [if_pos (by rfl)]
      go_wp2_with fail
      refine (natOf_any sh _ (by omega)).mono ?_; rintro e w' ⟨xhn1, yhn1, zhn1, rfl, hn1, hb⟩; have hw1 := hw1.below hb; have hw2 := hw2.below hb; have hB := below_up' hB hb
      go_wp2_with fail
      refine hK.out _ _ (HKS.out _ hB) (fun hHeld => ?_)
      clear hK K
      try simp only [Act.put, List.setIfInBounds_toArray, List.set_cons_zero, List.set_cons_succ]
      refine wpAnyH_ready (rs := [10]) (by kernel_rfl) (by simp) ?_
      refine AllReadyH.cons rfl (fun K hK => ?_) AllReadyH.nil
      rw [if_pos (by rfl)]
      go_wp2_with fail
      refine (natOf_any f _ (by omega)).mono ?_; rintro e w' ⟨xhn2, yhn2, zhn2, rfl, hn2, hb⟩; have hn1 := hn1.below hb; have hw1 := hw1.below hb; have hw2 := hw2.below hb; have hB := below_up' hB hb
      go_wp2_with fail
      refine hK.out _ _ (HKS.out _ hB) (fun hHeld => ?_)
      clear hK K
      try simp only [Act.put, List.setIfInBounds_toArray, List.set_cons_zero, List.set_cons_succ]
      refine takeH (i := 11) (v := ?_) rfl rfl (by kernel_rfl) (by kernel_rfl) (by kernel_rfl) (fun _ _ _ h => h) (by kernel_rfl) ?_ hHeld ?_
      rotate_left
      · intro w hSw; (try dsimp only at hSw); go_simp; (try with_reducible rfl)
      simp only [List.setIfInBounds_toArray, List.set_cons_zero, List.set_cons_succ]
      refine wpAnyH_ready (rs := [12]) (by kernel_rfl) (by simp) ?_
      refine AllReadyH.cons rfl (fun K hK => ?_) AllReadyH.nil
      rw [if_pos (by rfl)]
      go_wp2_with fail
      refine (rcompare_any _ _ _ _ _ _ _ _ _ _ _ _ wn.1 wn.2 sh f (2 * n + 4) _ (by omega) (hw1.le (by omega)) (hw2.le (by omega)) (hn1.le (by omega)) (hn2.le (by omega))).mono ?_; rintro e w' ⟨rfl, hb⟩; have hB := below_up' hB hb
      go_wp2_with fail
      refine hK.out _ _ (HKS.out _ hB) (fun hHeld => ?_)
      clear hK K
      try simp only [Act.put, List.setIfInBounds_toArray, List.set_cons_zero, List.set_cons_succ]
      refine takeH (i := 13) (v := ?_) rfl rfl (by kernel_rfl) (by kernel_rfl) (by kernel_rfl) (fun _ _ _ h => h) (by kernel_rfl) ?_ hHeld ?_
      rotate_left
      · intro w hSw; (try dsimp only at hSw); go_simp; (try with_reducible rfl)
      simp only [List.setIfInBounds_toArray, List.set_cons_zero, List.set_cons_succ]
      refine takeH (i := 14) (v := ?_) rfl rfl (by kernel_rfl) (by kernel_rfl) (by kernel_rfl) (fun _ _ _ h => h) (by kernel_rfl) ?_ hHeld ?_
      rotate_left
      · intro w hSw; (try dsimp only at hSw); go_simp; (try with_reducible rfl)
      simp only [List.setIfInBounds_toArray, List.set_cons_zero, List.set_cons_succ]
      refine takeH (i := 15) (v := ?_) rfl rfl (by kernel_rfl) (by kernel_rfl) (by kernel_rfl) (fun _ _ _ h => h) (by kernel_rfl) ?_ hHeld ?_
      rotate_left
      · intro w hSw; (try dsimp only at hSw); go_simp; (try with_reducible rfl)
      simp only [List.setIfInBounds_toArray, List.set_cons_zero, List.set_cons_succ]
      refine skipH (i := 16) rfl rfl (by kernel_rfl) (by kernel_rfl) (by kernel_rfl) (fun _ _ _ h => h) (by kernel_rfl) hHeld ?_
      simp only [List.setIfInBounds_toArray, List.set_cons_zero, List.set_cons_succ]
      refine skipH (i := 17) rfl rfl (by kernel_rfl) (by kernel_rfl) (by kernel_rfl) (fun _ _ _ h => h) (by kernel_rfl) hHeld ?_
      simp only [List.setIfInBounds_toArray, List.set_cons_zero, List.set_cons_succ]
      refine skipH (i := 18) rfl rfl (by kernel_rfl) (by kernel_rfl) (by kernel_rfl) (fun _ _ _ h => h) (by kernel_rfl) hHeld ?_
      simp only [List.setIfInBounds_toArray, List.set_cons_zero, List.set_cons_succ]
      refine skipH (i := 19) rfl rfl (by kernel_rfl) (by kernel_rfl) (by kernel_rfl) (fun _ _ _ h => h) (by kernel_rfl) hHeld ?_
      simp only [List.setIfInBounds_toArray, List.set_cons_zero, List.set_cons_succ]
      refine skipH (i := 20) rfl rfl (by kernel_rfl) (by kernel_rfl) (by kernel_rfl) (fun _ _ _ h => h) (by kernel_rfl) hHeld ?_
      simp only [List.setIfInBounds_toArray, List.set_cons_zero, List.set_cons_succ]
      refine skipH (i := 21) rfl rfl (by kernel_rfl) (by kernel_rfl) (by kernel_rfl) (fun _ _ _ h => h) (by kernel_rfl) hHeld ?_
      simp only [List.setIfInBounds_toArray, List.set_cons_zero, List.set_cons_succ]
      refine skipH (i := 22) rfl rfl (by kernel_rfl) (by kernel_rfl) (by kernel_rfl) (fun _ _ _ h => h) (by kernel_rfl) hHeld ?_
      simp only [List.setIfInBounds_toArray, List.set_cons_zero, List.set_cons_succ]
      refine skipH (i := 23) rfl rfl (by kernel_rfl) (by kernel_rfl) (by kernel_rfl) (fun _ _ _ h => h) (by kernel_rfl) hHeld ?_
      simp only [List.setIfInBounds_toArray, List.set_cons_zero, List.set_cons_succ]
      refine skipH (i := 24) rfl rfl (by kernel_rfl) (by kernel_rfl) (by kernel_rfl) (fun _ _ _ h => h) (by kernel_rfl) hHeld ?_
      simp only [List.setIfInBounds_toArray, List.set_cons_zero, List.set_cons_succ]
      refine skipH (i := 25) rfl rfl (by kernel_rfl) (by kernel_rfl) (by kernel_rfl) (fun _ _ _ h => h) (by kernel_rfl) hHeld ?_
      simp only [List.setIfInBounds_toArray, List.set_cons_zero, List.set_cons_succ]
      refine takeH (i := 26) (v := ?_) rfl rfl (by kernel_rfl) (by kernel_rfl) (by kernel_rfl) (fun _ _ _ h => h) (by kernel_rfl) ?_ hHeld ?_
      rotate_left
      · intro w hSw; (try dsimp only at hSw); go_simp; (try with_reducible rfl)
      simp only [List.setIfInBounds_toArray, List.set_cons_zero, List.set_cons_succ]
      refine takeH (i := 27) (v := ?_) rfl rfl (by kernel_rfl) (by kernel_rfl) (by kernel_rfl) (fun _ _ _ h => h) (by kernel_rfl) ?_ hHeld ?_
      rotate_left
      · intro w hSw; (try dsimp only at hSw); go_simp; (try with_reducible rfl)
      simp only [List.setIfInBounds_toArray, List.set_cons_zero, List.set_cons_succ]
      refine wpAnyH_done (by kernel_rfl) ?_ _
      go_wp2
      go_ret
      refine ⟨?_, below_up HB4.out hB HB4.out.size⟩
      show Ending.returned (Value.bool false) = _
      simp [hq1]

end Go.Proofs.YtfoehmieklldkaaDoor
