/- The walk of the law PlanLeast. -/
import Derived.Test.YtfoehmieklldkaaDoorCovers
import Derived.Test.YtfoehmieklldkaaDoorGrows
namespace Go.Proofs.YtfoehmieklldkaaDoor
open Go.RowKit

theorem sm_take (ps : List Nat) : ∀ n, n ≤ ps.length → sm (pOf ps) n = (ps.take n).sum
  | 0, _ => by simp [sm]
  | n + 1, h => by
    rw [sum_snoc ps n (by omega), ← sm_take ps n (by omega)]
    show sm (pOf ps) n + pOf ps n = _
    congr 1
    unfold pOf
    simp [show n < ps.length by omega]
theorem sm_sum (ps : List Nat) : sm (pOf ps) ps.length = ps.sum := by
  rw [sm_take ps _ (Nat.le_refl _), List.take_length]

set_option maxRecDepth 100000 in
set_option maxHeartbeats 8000000 in
theorem plan_walk (v dv ov : Value) (l : List (Int × Int)) (D O : List Int) (w : World) (h : SliceAt 2 formR w v l) (hd : SliceAt 1 intR w dv D) (ho : SliceAt 1 intR w ov O) :
    Calls Tryd.prog 4 #[v, dv, ov] w (fun e w' => e = .returned (.bool true) ∧ Below w.heap.size w w') := by
  obtain ⟨a, cap, rfl⟩ := h.len
  obtain ⟨ad, cd, rfl⟩ := hd.len
  obtain ⟨ao, co, rfl⟩ := ho.len
  have H := Lib.hid h
  have HD := Lib.hid hd
  have HO := Lib.hid ho
  clear h hd ho
  have hbx := box2 w #[.slice a l.length cap] #[.slice ad D.length cd] 33 34
  go_enter Tryd.func4, Tryd.ntmps4
  go_upto_region 1 with fail
  generalize (w.alloc (.cells #[.slice a l.length cap] 33)).alloc (.cells #[.slice ad D.length cd] 34) = w2 at *
  obtain ⟨hx, hx2, hbl⟩ := hbx
  have HX := Lib.hid hx
  have HX2 := Lib.hid hx2
  have HB2 := Lib.hid hbl
  clear hx hx2 hbl
  go_wp2_with fail
  refine (awake_any w2).mono ?_
  rintro e w3 ⟨rfl, hb3⟩
  have HX3 := Lib.hid (HX.out.below hb3 HX.out.lt)
  have HX23 := Lib.hid (HX2.out.below hb3 HX2.out.lt)
  have HB3 := Lib.hid (below_up HB2.out hb3 HB2.out.size)
  have k0 := HX3.out.cell 0
  have k1 := HX23.out.cell 0
  clear hb3
  go_wp2_with fail
  refine (Plan_any _ _ l D w3 (H.out.stable formR_stable HB3.out) (HD.out.stable intR_stable HB3.out)).mono ?_
  rintro e w4 ⟨ap, mp, cp, code, rfl, hb4, hcase⟩
  have HX4 := Lib.hid (HX3.out.below hb4 HX3.out.lt)
  have HX24 := Lib.hid (HX23.out.below hb4 HX23.out.lt)
  have HB4 := Lib.hid (below_up HB3.out hb4 HB3.out.size)
  clear hb4 k0 k1
  rcases hcase with ⟨hcode, rfl⟩ | ⟨rfl, hfe, fs, ds, ps, rfl, hfl, hok, rfl, hdl, hd60, hpl, hp60, rfl, hps, hinv⟩
  · have q0 : (code == 0) = false := by simpa using hcode
    have q1 : (code != 0) = true := by simpa using hcode
    clear hcode
    go_wp2_with fail
    go_ret
    exact ⟨by simp, HB4.out⟩
  · have HFE := Lib.hid hfe
    have HOK := Lib.hid hok
    have HD60 := Lib.hid hd60
    have HPL := Lib.hid hpl
    have HP60 := Lib.hid hp60
    have HPS := Lib.hid hps
    have HINV := Lib.hid hinv
    clear hfe hok hd60 hpl hp60 hps hinv
    go_upto_region 8 with fail
    have hcap : Capt (w4.alloc (.cells #[.func (.func 12) #[] #[]] 37)) fs ds w.heap.size (w.heap.size + 1) w4.heap.size := by
      obtain ⟨bx, bb⟩ := box1 w4 #[.func (.func 12) #[] #[]] 37
      have e0 := (HX4.out.below bb HX4.out.lt).cell 0
      have e1 := (HX24.out.below bb HX24.out.lt).cell 0
      have e2 := HX4.out.lt
      have e3 := HX24.out.lt
      have e4 := bb.size
      have f1 : FormsAt (w4.alloc (.cells #[.func (.func 12) #[] #[]] 37)) (.slice a (fs.map FN.pair).length cap) fs := (H.out.stable formR_stable HB4.out).stable formR_stable bb
      have f2 : NatsAt (w4.alloc (.cells #[.func (.func 12) #[] #[]] 37)) (.slice ad (intsOf ds).length cd) ds := (HD.out.stable intR_stable HB4.out).stable intR_stable bb
      rw [List.length_map] at f1
      rw [intsOf_length] at f2
      refine ⟨⟨a, cap, ?_, f1⟩, ⟨ad, cd, ?_, f2⟩, bx.cell 0, by omega, by omega, bx.lt⟩
      · simpa using e0
      · simpa [intsOf] using e1
    have HCAP := Lib.hid hcap
    obtain ⟨bx, bb⟩ := box1 w4 #[.func (.func 12) #[] #[]] 37
    have HPS5 := Lib.hid (HPS.out.below bb)
    have HO5 := Lib.hid ((HO.out.stable intR_stable HB4.out).stable intR_stable bb)
    have HB5 := Lib.hid (below_up HB4.out bb HB4.out.size)
    clear hcap bx bb
    generalize w4.alloc (.cells #[.func (.func 12) #[] #[]] 37) = w5 at *
    obtain ⟨af, cf, k0, hff⟩ := HCAP.out.forms
    obtain ⟨aq, cq, k1, hqq⟩ := HCAP.out.dem
    have HFF := Lib.hid hff
    have HQQ := Lib.hid hqq
    clear hff hqq
    go_wp2_with fail
    refine (Spare_any _ _ _ fs ds ps w5 HFF.out HQQ.out HPS5.out (by simpa using hfl) HOK.out HFE.out hdl HD60.out HPL.out HP60.out HINV.out).mono ?_
    rintro e w6 ⟨az, cz, rfl, hs6, hb6⟩
    have HS6 := Lib.hid hs6
    have HCAP6 := Lib.hid (HCAP.out.below hb6)
    have HPS6 := Lib.hid (HPS5.out.below hb6)
    have HO6 := Lib.hid (HO5.out.stable intR_stable hb6)
    have HB6 := Lib.hid (below_up HB5.out hb6 HB5.out.size)
    have k3 := HCAP6.out.sum
    have hkl := HCAP6.out.l3
    have hks : ∀ W, Below w6.heap.size w6 W → W.cell? ⟨w4.heap.size, 0, none⟩ = some (.func (.func 12) #[] #[]) := fun W hW => (below_cell hW hkl).trans k3
    have HKS := Lib.hid hks
    have hfl2 : fs.length ≤ 60 := by simpa using hfl
    have hsum0 : (List.replicate fs.length 0).sum = 0 := by simp
    have hcs := fun W hW => sum_any (.slice az fs.length cz) (List.replicate fs.length 0) W (HS6.out.below hW) (by simp; omega) (by intro x hx; rw [List.mem_replicate] at hx; omega)
    rw [hsum0] at hcs
    have HCS := Lib.hid hcs
    have hcp : coversB fs ds (intsOf ps) = true := by
      unfold coversB
      rw [Bool.and_eq_true, decide_eq_true_eq, allB_iff]
      refine ⟨by rw [← HPL.out]; exact planE_ok HP60.out, fun s hs => ?_⟩
      rw [qOf_ints]
      have := HINV.out.covers s hs
      simpa using this
    have hcvp := fun W hW => covers_any (.slice ap fs.length cp) fs ds (intsOf ps) w.heap.size (w.heap.size + 1) w4.heap.size W (HCAP6.out.below hW) (HPS6.out.below hW) hfl2 HOK.out HFE.out hdl HD60.out
    rw [hcp] at hcvp
    have HCVP := Lib.hid hcvp
    have hcvo := fun W hW => covers_any (.slice ao O.length co) fs ds O w.heap.size (w.heap.size + 1) w4.heap.size W (HCAP6.out.below hW) (HO6.out.stable intR_stable hW) hfl2 HOK.out HFE.out hdl HD60.out
    clear hs6 hb6 hks hsum0 hcs hcp hcvp hkl
    go_upto_region 9 with fail
    cases hco : coversB fs ds O with
    | false =>
      rw [hco] at hcvo
      have HCVO := Lib.hid hcvo
      clear hco hcvo
      refine wp_region_held_drew (S := fun W => W.cell? ⟨w4.heap.size, 0, none⟩ = some (.func (.func 12) #[] #[])) (by kernel_rfl) (HKS.out _ (Below.refl _ _).drew) (fun hHeld => ?_)
      refine takeH (i := 0) (v := ?_) rfl rfl (by kernel_rfl) (by kernel_rfl) (by kernel_rfl) (fun _ _ _ h => h) (by kernel_rfl) ?_ hHeld ?_
      rotate_left
      · intro w hSw; (try dsimp only at hSw); go_simp; (try with_reducible rfl)
      simp only [List.setIfInBounds_toArray, List.set_cons_zero, List.set_cons_succ]
      refine takeH (i := 1) (v := ?_) rfl rfl (by kernel_rfl) (by kernel_rfl) (by kernel_rfl) (fun _ _ _ h => h) (by kernel_rfl) ?_ hHeld ?_
      rotate_left
      · intro w hSw; (try dsimp only at hSw); go_simp; (try with_reducible rfl)
      simp only [List.setIfInBounds_toArray, List.set_cons_zero, List.set_cons_succ]
      refine takeH (i := 2) (v := ?_) rfl rfl (by kernel_rfl) (by kernel_rfl) (by kernel_rfl) (fun _ _ _ h => h) (by kernel_rfl) ?_ hHeld ?_
      rotate_left
      · intro w hSw; (try dsimp only at hSw); go_simp; (try with_reducible rfl)
      simp only [List.setIfInBounds_toArray, List.set_cons_zero, List.set_cons_succ]
      refine takeH (i := 3) (v := ?_) rfl rfl (by kernel_rfl) (by kernel_rfl) (by kernel_rfl) (fun _ _ _ h => h) (by kernel_rfl) ?_ hHeld ?_
      rotate_left
      · intro w hSw; (try dsimp only at hSw); go_simp; (try with_reducible rfl)
      simp only [List.setIfInBounds_toArray, List.set_cons_zero, List.set_cons_succ]
      refine takeH (i := 4) (v := ?_) rfl rfl (by kernel_rfl) (by kernel_rfl) (by kernel_rfl) (fun _ _ _ h => h) (by kernel_rfl) ?_ hHeld ?_
      rotate_left
      · intro w hSw; (try dsimp only at hSw); go_simp; (try with_reducible rfl)
      simp only [List.setIfInBounds_toArray, List.set_cons_zero, List.set_cons_succ]
      refine wpAnyH_ready (rs := [5]) (by kernel_rfl) (by simp) ?_
      refine AllReadyH.cons rfl (fun K hK => ?_) AllReadyH.nil
      rw [if_pos (by rfl)]
      go_wp2_with fail
      refine (HCS.out _ (Below.refl _ w6).drew).mono ?_; rintro e w' ⟨rfl, rfl⟩; have hB := (Below.refl w6.heap.size w6).drew
      go_wp2_with fail
      refine hK.out _ _ (HKS.out _ hB) (fun hHeld => ?_)
      clear hK K
      try simp only [Act.put, List.setIfInBounds_toArray, List.set_cons_zero, List.set_cons_succ]
      refine takeH (i := 6) (v := ?_) rfl rfl (by kernel_rfl) (by kernel_rfl) (by kernel_rfl) (fun _ _ _ h => h) (by kernel_rfl) ?_ hHeld ?_
      rotate_left
      · intro w hSw; (try dsimp only at hSw); go_simp; (try with_reducible rfl)
      simp only [List.setIfInBounds_toArray, List.set_cons_zero, List.set_cons_succ]
      refine takeH (i := 7) (v := ?_) rfl rfl (by kernel_rfl) (by kernel_rfl) (by kernel_rfl) (fun _ _ _ h => h) (by kernel_rfl) ?_ hHeld ?_
      rotate_left
      · intro w hSw; (try dsimp only at hSw); go_simp; (try with_reducible rfl)
      simp only [List.setIfInBounds_toArray, List.set_cons_zero, List.set_cons_succ]
      refine takeH (i := 8) (v := ?_) rfl rfl (by kernel_rfl) (by kernel_rfl) (by kernel_rfl) (fun _ _ _ h => h) (by kernel_rfl) ?_ hHeld ?_
      rotate_left
      · intro w hSw; (try dsimp only at hSw); go_simp; (try with_reducible rfl)
      simp only [List.setIfInBounds_toArray, List.set_cons_zero, List.set_cons_succ]
      refine takeH (i := 9) (v := ?_) rfl rfl (by kernel_rfl) (by kernel_rfl) (by kernel_rfl) (fun _ _ _ h => h) (by kernel_rfl) ?_ hHeld ?_
      rotate_left
      · intro w hSw; (try dsimp only at hSw); go_simp; (try with_reducible rfl)
      simp only [List.setIfInBounds_toArray, List.set_cons_zero, List.set_cons_succ]
      refine takeH (i := 10) (v := ?_) rfl rfl (by kernel_rfl) (by kernel_rfl) (by kernel_rfl) (fun _ _ _ h => h) (by kernel_rfl) ?_ hHeld ?_
      rotate_left
      · intro w hSw; (try dsimp only at hSw); go_simp; (try with_reducible rfl)
      simp only [List.setIfInBounds_toArray, List.set_cons_zero, List.set_cons_succ]
      refine wpAnyH_ready (rs := [11]) (by kernel_rfl) (by simp) ?_
      refine AllReadyH.cons rfl (fun K hK => ?_) AllReadyH.nil
      rw [if_pos (by rfl)]
      go_wp2_with fail
      refine (HCVP.out _ hB).mono ?_; rintro e w' ⟨rfl, hb⟩; have hB := below_up' hB hb
      go_wp2_with fail
      refine hK.out _ _ (HKS.out _ hB) (fun hHeld => ?_)
      clear hK K
      try simp only [Act.put, List.setIfInBounds_toArray, List.set_cons_zero, List.set_cons_succ]
      refine takeH (i := 12) (v := ?_) rfl rfl (by kernel_rfl) (by kernel_rfl) (by kernel_rfl) (fun _ _ _ h => h) (by kernel_rfl) ?_ hHeld ?_
      rotate_left
      · intro w hSw; (try dsimp only at hSw); go_simp; (try with_reducible rfl)
      simp only [List.setIfInBounds_toArray, List.set_cons_zero, List.set_cons_succ]
      refine takeH (i := 13) (v := ?_) rfl rfl (by kernel_rfl) (by kernel_rfl) (by kernel_rfl) (fun _ _ _ h => h) (by kernel_rfl) ?_ hHeld ?_
      rotate_left
      · intro w hSw; (try dsimp only at hSw); go_simp; (try with_reducible rfl)
      simp only [List.setIfInBounds_toArray, List.set_cons_zero, List.set_cons_succ]
      refine takeH (i := 14) (v := ?_) rfl rfl (by kernel_rfl) (by kernel_rfl) (by kernel_rfl) (fun _ _ _ h => h) (by kernel_rfl) ?_ hHeld ?_
      rotate_left
      · intro w hSw; (try dsimp only at hSw); go_simp; (try with_reducible rfl)
      simp only [List.setIfInBounds_toArray, List.set_cons_zero, List.set_cons_succ]
      refine takeH (i := 15) (v := ?_) rfl rfl (by kernel_rfl) (by kernel_rfl) (by kernel_rfl) (fun _ _ _ h => h) (by kernel_rfl) ?_ hHeld ?_
      rotate_left
      · intro w hSw; (try dsimp only at hSw); go_simp; (try with_reducible rfl)
      simp only [List.setIfInBounds_toArray, List.set_cons_zero, List.set_cons_succ]
      refine wpAnyH_ready (rs := [16]) (by kernel_rfl) (by simp) ?_
      refine AllReadyH.cons rfl (fun K hK => ?_) AllReadyH.nil
      rw [if_pos (by rfl)]
      go_wp2_with fail
      refine (HCVO.out _ hB).mono ?_; rintro e w' ⟨rfl, hb⟩; have hB := below_up' hB hb
      go_wp2_with fail
      refine hK.out _ _ (HKS.out _ hB) (fun hHeld => ?_)
      clear hK K
      try simp only [Act.put, List.setIfInBounds_toArray, List.set_cons_zero, List.set_cons_succ]
      refine takeH (i := 17) (v := ?_) rfl rfl (by kernel_rfl) (by kernel_rfl) (by kernel_rfl) (fun _ _ _ h => h) (by kernel_rfl) ?_ hHeld ?_
      rotate_left
      · intro w hSw; (try dsimp only at hSw); go_simp; (try with_reducible rfl)
      simp only [List.setIfInBounds_toArray, List.set_cons_zero, List.set_cons_succ]
      refine takeH (i := 18) (v := ?_) rfl rfl (by kernel_rfl) (by kernel_rfl) (by kernel_rfl) (fun _ _ _ h => h) (by kernel_rfl) ?_ hHeld ?_
      rotate_left
      · intro w hSw; (try dsimp only at hSw); go_simp; (try with_reducible rfl)
      simp only [List.setIfInBounds_toArray, List.set_cons_zero, List.set_cons_succ]
      refine skipH (i := 19) rfl rfl (by kernel_rfl) (by kernel_rfl) (by kernel_rfl) (fun _ _ _ h => h) (by kernel_rfl) hHeld ?_
      simp only [List.setIfInBounds_toArray, List.set_cons_zero, List.set_cons_succ]
      refine skipH (i := 20) rfl rfl (by kernel_rfl) (by kernel_rfl) (by kernel_rfl) (fun _ _ _ h => h) (by kernel_rfl) hHeld ?_
      simp only [List.setIfInBounds_toArray, List.set_cons_zero, List.set_cons_succ]
      refine skipH (i := 21) rfl rfl (by kernel_rfl) (by kernel_rfl) (by kernel_rfl) (fun _ _ _ h => h) (by kernel_rfl) hHeld ?_
      simp only [List.setIfInBounds_toArray, List.set_cons_zero, List.set_cons_succ]
      refine skipH (i := 22) rfl rfl (by kernel_rfl) (by kernel_rfl) (by kernel_rfl) (fun _ _ _ h => h) (by kernel_rfl) hHeld ?_
      simp only [List.setIfInBounds_toArray, List.set_cons_zero, List.set_cons_succ]
      refine skipH (i := 23) rfl rfl (by kernel_rfl) (by kernel_rfl) (by kernel_rfl) (fun _ _ _ h => h) (by kernel_rfl) hHeld ?_
      simp only [List.setIfInBounds_toArray, List.set_cons_zero, List.set_cons_succ]
      refine skipH (i := 24) rfl rfl (by kernel_rfl) (by kernel_rfl) (by kernel_rfl) (fun _ _ _ h => h) (by kernel_rfl) hHeld ?_
      simp only [List.setIfInBounds_toArray, List.set_cons_zero, List.set_cons_succ]
      refine skipH (i := 25) rfl rfl (by kernel_rfl) (by kernel_rfl) (by kernel_rfl) (fun _ _ _ h => h) (by kernel_rfl) hHeld ?_
      simp only [List.setIfInBounds_toArray, List.set_cons_zero, List.set_cons_succ]
      refine takeH (i := 26) (v := ?_) rfl rfl (by kernel_rfl) (by kernel_rfl) (by kernel_rfl) (fun _ _ _ h => h) (by kernel_rfl) ?_ hHeld ?_
      rotate_left
      · intro w hSw; (try dsimp only at hSw); go_simp; (try with_reducible rfl)
      simp only [List.setIfInBounds_toArray, List.set_cons_zero, List.set_cons_succ]
      refine takeH (i := 27) (v := ?_) rfl rfl (by kernel_rfl) (by kernel_rfl) (by kernel_rfl) (fun _ _ _ h => h) (by kernel_rfl) ?_ hHeld ?_
      rotate_left
      · intro w hSw; (try dsimp only at hSw); go_simp; (try with_reducible rfl)
      simp only [List.setIfInBounds_toArray, List.set_cons_zero, List.set_cons_succ]
      refine takeH (i := 28) (v := ?_) rfl rfl (by kernel_rfl) (by kernel_rfl) (by kernel_rfl) (fun _ _ _ h => h) (by kernel_rfl) ?_ hHeld ?_
      rotate_left
      · intro w hSw; (try dsimp only at hSw); go_simp; (try with_reducible rfl)
      simp only [List.setIfInBounds_toArray, List.set_cons_zero, List.set_cons_succ]
      refine wpAnyH_done (by kernel_rfl) ?_ _
      go_wp2
      go_ret
      exact ⟨rfl, below_up HB6.out hB HB6.out.size⟩
    | true =>
      rw [hco] at hcvo
      have HCVO := Lib.hid hcvo
      obtain ⟨os, rfl, hol, ho60⟩ : ∃ os, O = intsOf os ∧ os.length = fs.length ∧ ∀ q ∈ os, q ≤ 60 := by
        unfold coversB at hco
        rw [Bool.and_eq_true, decide_eq_true_eq] at hco
        exact planE_nat hco.1
      have hle : ps.sum ≤ os.sum := by
        unfold coversB at hco
        rw [Bool.and_eq_true, allB_iff] at hco
        have h1 := HINV.out.fewest (q := pOf os) (fun s hs => by
          have := of_decide_eq_true (hco.2 s hs)
          rwa [qOf_ints] at this) 400 (fun i hi => by
          rw [fmOf_at hi]
          exact (HOK.out _ (List.getElem_mem hi)).2.2)
        rw [← sm_sum ps, ← sm_sum os, HPL.out, hol]
        exact h1
      have hso := fun W hW => sum_any (.slice ao (intsOf os).length co) os W (HO6.out.stable intR_stable hW) (by omega) (fun x hx => by have := ho60 x hx; omega)
      have hsp := fun W hW => sum_any (.slice ap fs.length cp) ps W (HPS6.out.below hW) (by rw [HPL.out]; omega) (fun x hx => by have := HP60.out x hx; omega)
      have HSO := Lib.hid hso
      have HSP := Lib.hid hsp
      have q9 : decide (((ps.sum : Nat) : Int) ≤ ((os.sum : Nat) : Int)) = true := by simp; omega
      generalize ps.sum = sp at *
      generalize os.sum = so at *
      clear hco hcvo hso hsp hol ho60
      go_region_held3 (fun W => W.cell? ⟨w4.heap.size, 0, none⟩ = some (.func (.func 12) #[] #[]))
        (first | exact HKS.out _ hB | exact HKS.out _ (Below.refl _ _).drew)
        (first
          | (go_at_call 12; have hg := h4; refine (HSP.out _ hB).mono ?_; rintro e w' ⟨rfl, rfl⟩)
          | (go_at_call 12; have hg := h3; refine (HSO.out _ hB).mono ?_; rintro e w' ⟨rfl, rfl⟩; have h4 := True.intro)
          | (go_at_call 13; have hg := h2; refine (HCVO.out _ hB).mono ?_; rintro e w' ⟨rfl, hb⟩; have hB := below_up' hB hb; have h3 := True.intro)
          | (go_at_call 13; have hg := h1; refine (HCVP.out _ hB).mono ?_; rintro e w' ⟨rfl, hb⟩; have hB := below_up' hB hb; have h2 := True.intro)
          | (go_at_call 12; refine (HCS.out _ (Below.refl _ w6).drew).mono ?_; rintro e w' ⟨rfl, rfl⟩; have hB := (Below.refl w6.heap.size w6).drew; have h1 := True.intro))
      go_wp2
      go_ret
      exact ⟨by first | rfl | simp [q9], below_up HB6.out hB HB6.out.size⟩

end Go.Proofs.YtfoehmieklldkaaDoor
