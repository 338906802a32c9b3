/- The walk of portkeep2.IndexAgain. -/
import Derived.Test.YtfjcbclakgidkaaIaSame
import Derived.Test.YtfjcbclakgidkaaIaDel
namespace Go.Proofs.Ytfjcbclakgidkaa
open Go.RowKit

theorem awakeK_any (w : World) : Calls Try.prog 4 #[] w fun e w' => e = .returned (.bool true) ∧ Below w.heap.size w w' := by
  go_enter Try.func4, Try.ntmps4
  go_wp2_with fail
  refine (Words_any ⟨#[97]⟩ w (by decide)).mono ?_
  rintro e w2 ⟨a, c, rfl, ho, hb⟩
  have hwd : (wordsS ⟨#[97]⟩).length = 1 := by decide
  rw [hwd]
  have HB := Lib.hid hb
  clear ho hb hwd
  go_wp2_with fail
  go_ret
  exact ⟨rfl, HB.out⟩
theorem OkE.ins {E : List EnD} (h : OkE E) {v : EnD} (hv : GoodE v) (hl : (insE v E).length ≤ 200) : OkE (insE v E) :=
  ⟨hl, insE_asc h.asc v, fun u hu => by
    unfold insE at hu
    rcases List.mem_append.1 hu with q | q
    · exact h.good u (List.mem_filter.1 q).1
    · rcases List.mem_cons.1 q with rfl | q
      · exact hv
      · exact h.good u (List.mem_filter.1 q).1⟩
theorem insE_mem (v : EnD) (E : List EnD) : v ∈ insE v E := by simp [insE]
/-- the entry's place among them; without it -/
theorem out_at {F : List EnD} (h : AscE F) {k : Nat} (hk : k < F.length) : F.take k ++ F.drop (k + 1) = outE F[k].1 F := by
  have h1 := out_lists h F[k].1 (fun v => v)
  simp only [List.map_id'] at h1
  have hasc : (F.map (·.1)).Pairwise (· < ·) := List.pairwise_map.2 h
  have hkm : k < (F.map (·.1)).length := by rw [List.length_map]; exact hk
  have hc := count_at hasc hkm
  have e1 : (F.map (·.1))[k] = F[k].1 := by rw [List.getElem_map]
  rw [e1] at hc
  have hcon : (F.map (·.1)).contains F[k].1 = true := by
    rw [List.contains_iff_mem]
    exact List.mem_map_of_mem (List.getElem_mem hk)
  rw [if_pos hcon, hc] at h1
  exact h1.symm
theorem asc_uniq {F : List EnD} (h : AscE F) {i j : Nat} (hi : i < F.length) (hj : j < F.length) (hne : i ≠ j) : F[i].1 ≠ F[j].1 := fun e => by
  rcases Nat.lt_trichotomy i j with g | g | g
  · have := List.pairwise_iff_getElem.1 h i j hi hj g
    simp only at this
    omega
  · exact hne g
  · have := List.pairwise_iff_getElem.1 h j i hj hi g
    simp only at this
    omega
/-- the law's own list, in memory: sorted, with the entry -/
def MoreAt (w w' : World) (F : List EnD) (v : Value) : Prop := ∃ M : List EnM, ∃ a c, v = .slice a M.length c ∧ M.map toD = F ∧ w'.ownsRow w.heap.size 24 3 v M.length (M.flatMap encE)
theorem MoreAt.low {w w1 w' : World} {F : List EnD} {v : Value} (h : MoreAt w1 w' F v) (hw : w.heap.size ≤ w1.heap.size) : MoreAt w w' F v := by
  obtain ⟨M, a, c, h1, h2, h3⟩ := h
  exact ⟨M, a, c, h1, h2, owns_base h3 hw⟩
theorem idx_more {L : List EnM} {v : EnD} (hE : AscE (L.map toD)) {k : Int} (hk : (k = -1 ∧ ∀ x ∈ L, (decide (v.1 ≤ x.1)) = false) ∨ ∃ n, ∃ h : n < L.length, k = (n : Int) ∧ (decide (v.1 ≤ L[n].1)) = true ∧ ∀ j (hj : j < n), (decide (v.1 ≤ (L[j]).1)) = false) :
    (k = -1 ∧ insE v (L.map toD) = L.map toD ++ [v]) ∨ ∃ n, ∃ h : n < L.length, k = (n : Int) ∧ insE v (L.map toD) = (if L[n].1 = v.1 then (L.map toD).set n v else (L.map toD).take n ++ v :: (L.map toD).drop n) := by
  rcases hk with ⟨rfl, h⟩ | ⟨n, hn, rfl, h1, h2⟩
  · refine .inl ⟨rfl, insE_last fun u hu => ?_⟩
    obtain ⟨x, hx, rfl⟩ := List.mem_map.1 hu
    have := h x hx
    rw [decide_eq_false_iff_not] at this
    show x.1 < v.1
    omega
  · refine .inr ⟨n, hn, rfl, ?_⟩
    have hn2 : n < (L.map toD).length := by simpa using hn
    have hm := moreE_ins (v := v) hE (k := n) (fun j hj hjn => by
      have := h2 j hjn
      rw [decide_eq_false_iff_not] at this
      rw [List.getElem_map]
      show L[j].1 < v.1
      omega) (fun hk => by
      rw [decide_eq_true_iff] at h1
      rw [List.getElem_map]
      exact h1) (by omega)
    rw [← hm]
    unfold moreE
    rw [dif_pos hn2, List.getElem_map]
    rfl
set_option maxRecDepth 100000 in
set_option maxHeartbeats 16000000 in
theorem law_any (v : Value) (L : List EnM) (id : Int) (t b : ByteArray) (w : World) (h : EntsAt w v L) :
    Calls Try.prog 3 #[v, .agg #[.int .i64 id, .string t, .string b]] w fun e w' => e = .returned (.bool true) ∧ Below w.heap.size w w' := by
  obtain ⟨a, cap, rfl, hla⟩ := h.two
  obtain ⟨E, hE⟩ : ∃ E, E = L.map toD := ⟨_, rfl⟩
  have HEE := Lib.hid hE
  obtain ⟨Vb, hVb⟩ : ∃ Vb, Vb = w.heap.size := ⟨_, rfl⟩
  have k0 := Has.new w #[.int .i64 id, .string t, .string b] 24
  have b0 : Below w.heap.size w (w.alloc (.cells #[.int .i64 id, .string t, .string b] 24)) := (Below.refl _ _).alloc (Nat.le_refl _) _
  have H := Lib.hid h
  have hVw : w.heap.size ≤ Vb := by omega
  clear h hE
  generalize hQ : (fun (e : Ending) (w' : World) => e = .returned (.bool true) ∧ Below w.heap.size w w') = Q
  have HQ := Lib.hid (show ∀ w', Below w.heap.size w w' → Q (.returned (.bool true)) w' from fun w' hb => by rw [← hQ]; exact ⟨rfl, hb⟩)
  clear hQ
  go_enter Try.func3, Try.ntmps3
  go_upto_region 1 with fail
  rw [← hVb] at k0 ⊢
  clear hVb
  generalize w.alloc (.cells #[.int .i64 id, .string t, .string b] 24) = w1 at *
  have HV := Lib.hid k0
  have HB1 := Lib.hid b0
  clear k0 b0
  go_wp2_with fail
  refine (awakeK_any w1).mono ?_
  rintro e w2 ⟨rfl, hb2⟩
  have HV2 := Lib.hid (HV.out.below hb2 HV.out.lt)
  have HB2 := Lib.hid (HB1.out.trans (hb2.mono HB1.out.size))
  have hB2 : w.heap.size ≤ w2.heap.size := HB2.out.size
  clear hb2
  go_wp2_with fail
  refine (NewIndex_any (.slice a L.length cap) L w2 (H.out.below HB2.out)).mono ?_
  rintro e w3 ⟨hpost, hb3⟩
  rw [← HEE.out] at hpost
  have HV3 := Lib.hid (HV2.out.below hb3 HV2.out.lt)
  have HB3 := Lib.hid (HB2.out.trans (hb3.mono hB2))
  have hB3 : w.heap.size ≤ w3.heap.size := HB3.out.size
  clear hb3
  rcases hpost with ⟨hne, rfl⟩ | ⟨h0, iv, sv, tv, x, rfl, hix, hok, hfew⟩
  · generalize newE E = z at *
    have q1 : (z != 0) = true := by simpa using hne
    have HF := Lib.hid (HB3.out.alloc hB3 (.cells #[.slice none 0 0, .slice none 0 0, .slice none 0 0] 29))
    clear hne
    go_wp2_with fail
    exact HQ.out _ HF.out
  have hOK := (new_ok E).1 h0
  obtain ⟨⟨ia, ic, hie⟩, ⟨sa, sc, hse⟩, ⟨ta, tc, hte⟩⟩ := hix.forms
  obtain ⟨inn, hinn⟩ : ∃ n, n = x.ids.length := ⟨_, rfl⟩
  obtain ⟨sn, hsn⟩ : ∃ n, n = x.sizes.length := ⟨_, rfl⟩
  obtain ⟨tn, htn⟩ : ∃ n, n = x.terms.length := ⟨_, rfl⟩
  rw [← hinn] at hie
  rw [← hsn] at hse
  rw [← htn] at hte
  subst hie hse hte
  have HOK := Lib.hid hOK
  have HXOK := Lib.hid hok
  have hEl : E.length ≤ 200 := hOK.few
  have HFEW := Lib.hid (show x.terms.length ≤ 30000000 by omega)
  have hbn : Below w3.heap.size w3 (w3.alloc (.cells #[.slice ia inn ic, .slice sa sn sc, .slice ta tn tc] 29)) := (Below.refl _ _).alloc (Nat.le_refl _) _
  have kx := Has.new w3 #[.slice ia inn ic, .slice sa sn sc, .slice ta tn tc] 29
  have HIX := Lib.hid (hix.below hbn)
  have hv4 := HV3.out.below hbn HV3.out.lt
  have HV4 := Lib.hid hv4
  have HB4 := Lib.hid (HB3.out.trans (hbn.mono hB3))
  clear h0 hinn hsn htn hix hok hfew hbn hOK
  go_upto_region 6 with fail
  obtain ⟨X5, hX5⟩ : ∃ X5, X5 = w3.heap.size := ⟨_, rfl⟩
  rw [← hX5] at kx ⊢
  clear hX5
  generalize w3.alloc (.cells #[.slice ia inn ic, .slice sa sn sc, .slice ta tn tc] 29) = w4 at *
  have x0 := kx.cell 0
  have x1 := kx.cell 1
  have x2 := kx.cell 2
  have v0 := hv4.cell 0
  have v1 := hv4.cell 1
  have v2 := hv4.cell 2
  have hB4 : w.heap.size ≤ w4.heap.size := HB4.out.size
  clear kx hv4
  go_wp2_with fail
  refine (Put_any (.slice ia inn ic) (.slice sa sn sc) (.slice ta tn tc) x E id t b w4 HIX.out HXOK.out HOK.out HFEW.out).mono ?_
  rintro e w5 ⟨hpost, hb5⟩
  have HV5 := Lib.hid (HV4.out.below hb5 HV4.out.lt)
  have HB5 := Lib.hid (HB4.out.trans (hb5.mono hB4))
  have hB5 : w.heap.size ≤ w5.heap.size := HB5.out.size
  clear hb5 x0 x1 x2 v0 v1 v2 HIX
  rcases hpost with ⟨z, hne, rfl⟩ | ⟨hgood, hlen, yv, ys, yt, y, rfl, hiy, hyok, hyfew⟩
  · have q1 : (z != 0) = true := by simpa using hne
    have HF := Lib.hid (HB5.out.alloc hB5 (.cells #[.slice none 0 0, .slice none 0 0, .slice none 0 0] 29))
    clear hne
    go_wp2_with fail
    exact HQ.out _ HF.out
  obtain ⟨vD, hvD⟩ : ∃ vD : EnD, vD = (id, t.data.toList, b.data.toList) := ⟨_, rfl⟩
  rw [← hvD] at hgood hlen hyok
  have hvid : vD.1 = id := by rw [hvD]
  obtain ⟨F, hF⟩ : ∃ F, F = insE vD E := ⟨_, rfl⟩
  have HFOK := Lib.hid (show OkE F by rw [hF]; exact HOK.out.ins hgood hlen)
  rw [← hF] at hyok
  have HYOK := Lib.hid hyok
  have HFF := Lib.hid hF
  have HVD := Lib.hid hvD
  have HVID := Lib.hid hvid
  obtain ⟨⟨ja, jc, hje⟩, ⟨ka, kc, hke⟩, ⟨ma, mc, hme⟩⟩ := hiy.forms
  obtain ⟨jn, hjn⟩ : ∃ n, n = y.ids.length := ⟨_, rfl⟩
  obtain ⟨kn, hkn⟩ : ∃ n, n = y.sizes.length := ⟨_, rfl⟩
  obtain ⟨mn, hmn⟩ : ∃ n, n = y.terms.length := ⟨_, rfl⟩
  rw [← hjn] at hje
  rw [← hkn] at hke
  rw [← hmn] at hme
  subst hje hke hme
  have HYFEW := Lib.hid hyfew
  have hbn : Below w5.heap.size w5 (w5.alloc (.cells #[.slice ja jn jc, .slice ka kn kc, .slice ma mn mc] 29)) := (Below.refl _ _).alloc (Nat.le_refl _) _
  have ky := Has.new w5 #[.slice ja jn jc, .slice ka kn kc, .slice ma mn mc] 29
  have HIY := Lib.hid (hiy.below hbn)
  have HV6 := Lib.hid (HV5.out.below hbn HV5.out.lt)
  have HB6 := Lib.hid (HB5.out.trans (hbn.mono hB5))
  clear hjn hkn hmn hiy hyok hyfew hbn hF hvD hvid hgood hlen
  go_upto_region 9 with fail
  obtain ⟨Y7, hY7⟩ : ∃ Y7, Y7 = w5.heap.size := ⟨_, rfl⟩
  rw [← hY7] at ky ⊢
  clear hY7
  generalize w5.alloc (.cells #[.slice ja jn jc, .slice ka kn kc, .slice ma mn mc] 29) = w6 at *
  have HY := Lib.hid ky
  have hB6 : w.heap.size ≤ w6.heap.size := HB6.out.size
  clear ky
  have hLl : L.length ≤ 200 := by have h1 := congrArg List.length HEE.out; rw [List.length_map] at h1; omega
  go_wp2_with fail
  refine (IndexGe_any (.slice a L.length cap) L id Vb w6 (H.out.below HB6.out) (HV6.out.cell 0) HV6.out.lt (by omega)).mono ?_
  rintro e w7 ⟨⟨k, rfl, hk⟩, hb7⟩
  have HIY7 := Lib.hid (HIY.out.below hb7)
  have HY7 := Lib.hid (HY.out.below hb7 HY.out.lt)
  have HV7 := Lib.hid (HV6.out.below hb7 HV6.out.lt)
  have HB7 := Lib.hid (HB6.out.trans (hb7.mono hB6))
  have hB7 : w.heap.size ≤ w7.heap.size := HB7.out.size
  rw [← HVID.out] at hk
  have hk2 := idx_more (v := vD) (by rw [← HEE.out]; exact HOK.out.asc) hk
  rw [← HEE.out, ← HFF.out, HVID.out] at hk2
  have HK2 := Lib.hid hk2
  clear hb7 hk hk2 HIY HY HV6 HB6 hB6
  go_upto_block 0 with fail
  have v0 : w7.cell? ⟨Vb, 0, none⟩ = some (.int .i64 id) := HV7.out.cell 0
  have v1 : w7.cell? ⟨Vb, 1, none⟩ = some (.string t) := HV7.out.cell 1
  have v2 : w7.cell? ⟨Vb, 2, none⟩ = some (.string b) := HV7.out.cell 2
  have hVl := HV7.out.lt
  go_cut [9] from 42 to 70 (fun v wx => MoreAt w7 wx F v ∧ Below w7.heap.size w7 wx)
  case first =>
    rcases HK2.out with ⟨rfl, hin⟩ | ⟨n, hn, rfl, hin⟩
    · have HIN := Lib.hid hin
      clear hin
      go_upto_region 13 with fail
      refine anyT_start (S := fun W : World => W.cell? ⟨Vb, 0, none⟩ = some (.int .i64 id) ∧ W.cell? ⟨Vb, 1, none⟩ = some (.string t) ∧ W.cell? ⟨Vb, 2, none⟩ = some (.string b)) (t := 9) (by kernel_rfl) ?_
      have hall0 := (Below.refl w7.heap.size w7).drew
      have hS0 : w7.drew.cell? ⟨Vb, 0, none⟩ = some (.int .i64 id) ∧ w7.drew.cell? ⟨Vb, 1, none⟩ = some (.string t) ∧ w7.drew.cell? ⟨Vb, 2, none⟩ = some (.string b) := ⟨v0, v1, v2⟩
      generalize w7.drew = wd at *
      refine takeS (i := 0) (v := ?_) rfl rfl (by kernel_rfl) (by kernel_rfl) (by kernel_rfl) (fun _ _ _ h => h) (by decide) (by kernel_rfl) ?_ hS0 ?_
      rotate_left
      · intro w hSw; (try dsimp only at hSw); go_simp; (try with_reducible rfl)
      simp only [List.setIfInBounds_toArray, List.set_cons_zero, List.set_cons_succ]
      refine takeS (i := 2) (v := ?_) rfl rfl (by kernel_rfl) (by kernel_rfl) (by kernel_rfl) (fun _ _ _ h => h) (by decide) (by kernel_rfl) ?_ hS0 ?_
      rotate_left
      · intro w hSw; (try dsimp only at hSw); go_simp; (try with_reducible rfl)
      simp only [List.setIfInBounds_toArray, List.set_cons_zero, List.set_cons_succ]
      refine twoT (i := 1) (j := 3) rfl rfl (by kernel_rfl) (fun K hK => ?_) (fun K hK => ?_)
      · skip
        go_simp
        refine (cloneE (.slice a L.length cap) L wd ((H.out.below HB7.out).below hall0) (by omega)).mono ?_
        rintro e wa ⟨⟨cv, rfl, hcv⟩, hbp1⟩
        obtain ⟨cva, cvc, hcvs⟩ := owns_slice hcv
        subst hcvs
        have hall1 := below_up hall0 hbp1 hall0.size
        have hS1 : wa.cell? ⟨Vb, 0, none⟩ = some (.int .i64 id) ∧ wa.cell? ⟨Vb, 1, none⟩ = some (.string t) ∧ wa.cell? ⟨Vb, 2, none⟩ = some (.string b) := ⟨(below_cell hall1 hVl).trans v0, (below_cell hall1 hVl).trans v1, (below_cell hall1 hVl).trans v2⟩
        refine hK.out _ _ (fun _ => hS1) ?_
        clear hK
        try simp only [List.setIfInBounds_toArray, List.set_cons_zero, List.set_cons_succ, Act.put]
        replace hcv := owns_base hcv hall0.size
        refine oneT (i := 3) rfl (by kernel_rfl) (fun K hK => ?_)
        go_simp
        have hbp2 : Below wa.heap.size wa (wa.alloc (.cells #[.int .i64 id, .string t, .string b] 24)) := (Below.refl _ _).alloc (Nat.le_refl _) _
        have hob := Has.new wa #[.int .i64 id, .string t, .string b] 24
        have hne : (Value.slice cva L.length cvc).ownBlock ≠ some wa.heap.size := fun q => by have := (hcv.lt _ q).2; omega
        generalize hX : wa.heap.size = X at hob hne ⊢
        generalize wa.alloc (.cells #[.int .i64 id, .string t, .string b] 24) = wb at *
        replace hcv := owns_below hcv hbp2
        have hall2 := below_up hall1 hbp2 hall1.size
        have hS2 : wb.cell? ⟨Vb, 0, none⟩ = some (.int .i64 id) ∧ wb.cell? ⟨Vb, 1, none⟩ = some (.string t) ∧ wb.cell? ⟨Vb, 2, none⟩ = some (.string b) := ⟨(below_cell hall2 hVl).trans v0, (below_cell hall2 hVl).trans v1, (below_cell hall2 hVl).trans v2⟩
        refine hK.out _ _ (fun _ => hS2) ?_
        clear hK
        try simp only [List.setIfInBounds_toArray, List.set_cons_zero, List.set_cons_succ, Act.put]
        clear hX hbp1 hbp2 hall0 hall1 hS0 hS1
        have hBb : w7.heap.size ≤ wb.heap.size := hall2.size
        have HALL := Lib.hid hall2
        have HCV := Lib.hid hcv
        obtain ⟨i0, hi0, hz0, hz1, hz2⟩ := info_parts infoEn
        refine oneT (i := 4) rfl (by kernel_rfl) (fun K hK => ?_)
        refine step_append_lies _ (by rfl) _ _ _ (by rfl) w7.heap.size 24 i0 (.agg #[.int .i64 0, .string ⟨#[]⟩, .string ⟨#[]⟩]) 3 40 Try.underlying22 hi0 hz0 hz1 hz2 rfl (by omega) _ _ _ (by rfl) HCV.out ⟨X, 0, none⟩ 1 1 [.int .i64 id, .string t, .string b] (by rfl) rfl (World.news_of_block hob) (by simp [Value.oneCell']) (by first | omega | (unfold maxLen; omega) | (simp only; omega) | (simp only; unfold maxLen; omega)) (by first | omega | (unfold maxLen; omega) | (simp only; omega) | (simp only; unfold maxLen; omega)) (by first | omega | (unfold maxLen; omega) | (simp only; omega) | (simp only; unfold maxLen; omega)) hBb wb.heap.size rfl ?_
        intro g' c2 w8 hown8 hg8 hat8 hlt8
        have hall8 : Below w7.heap.size w7 w8 := HALL.out.grown hg8 hBb (fun q hq => (HCV.out.lt q hq).1)
        have hS8 : w8.cell? ⟨Vb, 0, none⟩ = some (.int .i64 id) ∧ w8.cell? ⟨Vb, 1, none⟩ = some (.string t) ∧ w8.cell? ⟨Vb, 2, none⟩ = some (.string b) := ⟨(below_cell hall8 hVl).trans v0, (below_cell hall8 hVl).trans v1, (below_cell hall8 hVl).trans v2⟩
        have HO8 := Lib.hid hown8
        have HB8 := Lib.hid hall8
        refine hK.out _ _ (fun _ => hS8) ?_
        clear hK hown8 hg8 hat8 hlt8 hi0 hz0 hz1 hz2 hall8
        try simp only [List.setIfInBounds_toArray, List.set_cons_zero, List.set_cons_succ, Act.put]
        refine oneT (i := 5) rfl (by kernel_rfl) (fun K hK => ?_)
        go_simp
        refine hK.out _ _ (fun _ => hS8) ?_
        clear hK
        try simp only [List.setIfInBounds_toArray, List.set_cons_zero, List.set_cons_succ, Act.put]
        refine doneT (by kernel_rfl) ?_ _
        go_wp2_with fail
        go_meet
        refine ⟨⟨L ++ [(id, t, b)], _, _, by rw [List.length_append]; rfl, ?_, ?_⟩, HB8.out⟩
        · rw [List.map_append, ← HEE.out, HIN.out, HVD.out]
          rfl
        · have h := HO8.out
          rw [List.length_append, List.flatMap_append]
          simpa [encE] using h
      · skip
        go_simp
        have hbp1 : Below wd.heap.size wd (wd.alloc (.cells #[.int .i64 id, .string t, .string b] 24)) := (Below.refl _ _).alloc (Nat.le_refl _) _
        have hob := Has.new wd #[.int .i64 id, .string t, .string b] 24
        generalize hX : wd.heap.size = X at hob ⊢
        generalize wd.alloc (.cells #[.int .i64 id, .string t, .string b] 24) = wa at *
        have hall1 := below_up hall0 hbp1 hall0.size
        have hS1 : wa.cell? ⟨Vb, 0, none⟩ = some (.int .i64 id) ∧ wa.cell? ⟨Vb, 1, none⟩ = some (.string t) ∧ wa.cell? ⟨Vb, 2, none⟩ = some (.string b) := ⟨(below_cell hall1 hVl).trans v0, (below_cell hall1 hVl).trans v1, (below_cell hall1 hVl).trans v2⟩
        refine hK.out _ _ (fun _ => hS1) ?_
        clear hK
        try simp only [List.setIfInBounds_toArray, List.set_cons_zero, List.set_cons_succ, Act.put]
        refine oneT (i := 1) rfl (by kernel_rfl) (fun K hK => ?_)
        go_simp
        refine (cloneE (.slice a L.length cap) L wa ((H.out.below HB7.out).below hall1) (by omega)).mono ?_
        rintro e wb ⟨⟨cv, rfl, hcv⟩, hbp2⟩
        obtain ⟨cva, cvc, hcvs⟩ := owns_slice hcv
        subst hcvs
        have hne : (Value.slice cva L.length cvc).ownBlock ≠ some X := fun q => by have := (hcv.lt _ q).1; have := hob.lt; omega
        replace hob := hob.below hbp2 hob.lt
        replace hcv := owns_base hcv hall1.size
        have hall2 := below_up hall1 hbp2 hall1.size
        have hS2 : wb.cell? ⟨Vb, 0, none⟩ = some (.int .i64 id) ∧ wb.cell? ⟨Vb, 1, none⟩ = some (.string t) ∧ wb.cell? ⟨Vb, 2, none⟩ = some (.string b) := ⟨(below_cell hall2 hVl).trans v0, (below_cell hall2 hVl).trans v1, (below_cell hall2 hVl).trans v2⟩
        refine hK.out _ _ (fun _ => hS2) ?_
        clear hK
        try simp only [List.setIfInBounds_toArray, List.set_cons_zero, List.set_cons_succ, Act.put]
        clear hX hbp1 hbp2 hall0 hall1 hS0 hS1
        have hBb : w7.heap.size ≤ wb.heap.size := hall2.size
        have HALL := Lib.hid hall2
        have HCV := Lib.hid hcv
        obtain ⟨i0, hi0, hz0, hz1, hz2⟩ := info_parts infoEn
        refine oneT (i := 4) rfl (by kernel_rfl) (fun K hK => ?_)
        refine step_append_lies _ (by rfl) _ _ _ (by rfl) w7.heap.size 24 i0 (.agg #[.int .i64 0, .string ⟨#[]⟩, .string ⟨#[]⟩]) 3 40 Try.underlying22 hi0 hz0 hz1 hz2 rfl (by omega) _ _ _ (by rfl) HCV.out ⟨X, 0, none⟩ 1 1 [.int .i64 id, .string t, .string b] (by rfl) rfl (World.news_of_block hob) (by simp [Value.oneCell']) (by first | omega | (unfold maxLen; omega) | (simp only; omega) | (simp only; unfold maxLen; omega)) (by first | omega | (unfold maxLen; omega) | (simp only; omega) | (simp only; unfold maxLen; omega)) (by first | omega | (unfold maxLen; omega) | (simp only; omega) | (simp only; unfold maxLen; omega)) hBb wb.heap.size rfl ?_
        intro g' c2 w8 hown8 hg8 hat8 hlt8
        have hall8 : Below w7.heap.size w7 w8 := HALL.out.grown hg8 hBb (fun q hq => (HCV.out.lt q hq).1)
        have hS8 : w8.cell? ⟨Vb, 0, none⟩ = some (.int .i64 id) ∧ w8.cell? ⟨Vb, 1, none⟩ = some (.string t) ∧ w8.cell? ⟨Vb, 2, none⟩ = some (.string b) := ⟨(below_cell hall8 hVl).trans v0, (below_cell hall8 hVl).trans v1, (below_cell hall8 hVl).trans v2⟩
        have HO8 := Lib.hid hown8
        have HB8 := Lib.hid hall8
        refine hK.out _ _ (fun _ => hS8) ?_
        clear hK hown8 hg8 hat8 hlt8 hi0 hz0 hz1 hz2 hall8
        try simp only [List.setIfInBounds_toArray, List.set_cons_zero, List.set_cons_succ, Act.put]
        refine oneT (i := 5) rfl (by kernel_rfl) (fun K hK => ?_)
        go_simp
        refine hK.out _ _ (fun _ => hS8) ?_
        clear hK
        try simp only [List.setIfInBounds_toArray, List.set_cons_zero, List.set_cons_succ, Act.put]
        refine doneT (by kernel_rfl) ?_ _
        go_wp2_with fail
        go_meet
        refine ⟨⟨L ++ [(id, t, b)], _, _, by rw [List.length_append]; rfl, ?_, ?_⟩, HB8.out⟩
        · rw [List.map_append, ← HEE.out, HIN.out, HVD.out]
          rfl
        · have h := HO8.out
          rw [List.length_append, List.flatMap_append]
          simpa [encE] using h
    · obtain ⟨b0, o0, ha⟩ := hla (by omega)
      subst ha
      obtain ⟨e1, e2, e3, e4⟩ := (H.out.below HB7.out).cells hn
      obtain ⟨u, hu⟩ : ∃ u, u = L[n].1 := ⟨_, rfl⟩
      rw [← hu] at hin
      rw [← hu] at e2
      have HIN0 := Lib.hid hin
      have qn : decide ((n : Int) < 0) = false := decide_eq_false (by omega)
      clear hin hu e3 e4 e1
      go_upto_region 14 with fail
      clear qn
      go_cut [56] from 57 to 64 (fun v wx => v = .bool (u == id) ∧ ∃ q, wx = w7.drewN q)
      case first =>
        go_quiet (fail)
        go_wp2_with fail
        go_meet
        exact ⟨rfl, _, rfl⟩
      case rest =>
        obtain ⟨rfl, q, rfl⟩ := hcut
        have hbq : Below w7.heap.size w7 (w7.drewN q) := drewN_below (Below.refl _ _) q
        have HBQ0 := Lib.hid hbq
        have HBQ := Lib.hid (HB7.out.trans (hbq.mono hB7))
        have hwq : w7.heap.size ≤ (w7.drewN q).heap.size := hbq.size
        have hvq := HV7.out.below hbq hVl
        clear v0 v1 v2 e2
        have v0 := hvq.cell 0
        have v1 := hvq.cell 1
        have v2 := hvq.cell 2
        have hVl0 := hVl
        clear hVl
        have hVl := hvq.lt
        clear hbq hvq
        generalize w7.drewN q = wq at *
        by_cases hui : u = id
        · have hin2 : F = E.set n vD := by rw [HIN0.out, if_pos hui]
          have HIN := Lib.hid hin2
          have qe : (u == id) = true := by simpa using hui
          rw [qe]
          clear qe hui hin2
          go_wp2_with fail
          refine (cloneE (.slice (some ⟨b0, o0, none⟩) L.length cap) L wq (H.out.below HBQ.out) (by omega)).mono ?_
          rintro e w8 ⟨⟨cv, rfl, hcv⟩, hb8⟩
          obtain ⟨cva, cvc, hcvs⟩ := owns_slice hcv
          subst hcvs
          obtain ⟨g, hg⟩ : ∃ g, cva = some ⟨g, 0, none⟩ := by
            rcases hcv.2 with ⟨q, _⟩ | ⟨g, cap, cur, q, _⟩
            · simp only [Value.slice.injEq] at q
              omega
            · simp only [Value.slice.injEq] at q
              exact ⟨g, q.1⟩
          subst hg
          have HCV := Lib.hid hcv
          have hgl : wq.heap.size ≤ g := (hcv.lt g rfl).1
          have HB8 := Lib.hid hb8
          replace v0 := (below_cell hb8 hVl).trans v0
          replace v1 := (below_cell hb8 hVl).trans v1
          replace v2 := (below_cell hb8 hVl).trans v2
          have hfl := encE_len L
          obtain ⟨y0, z0⟩ := owns_at hcv (j := n * 3) (by rw [hfl]; omega)
          obtain ⟨y1, z1⟩ := owns_at hcv (j := n * 3 + 1) (by rw [hfl]; omega)
          obtain ⟨y2, z2⟩ := owns_at hcv (j := n * 3 + 2) (by rw [hfl]; omega)
          clear hcv hb8
          go_wp2_with fail
          go_meet
          have h1 := owns_setAt (owns_setAt (owns_setAt HCV.out (n * 3) (.int .i64 id)) (n * 3 + 1) (.string t)) (n * 3 + 2) (.string b)
          have h2 := encE_set L n (id, t, b)
          simp only at h2
          rw [h2] at h1
          have hlen : (L.set n (id, t, b)).length = L.length := List.length_set
          refine ⟨MoreAt.low (w1 := wq) ⟨L.set n (id, t, b), _, _, by rw [hlen], ?_, by rw [hlen]; exact h1⟩ hwq, HBQ0.out.trans (Below.mono ?_ hwq)⟩
          · rw [List.map_set, ← HEE.out, HIN.out, HVD.out]
            rfl
          · exact ((HB8.out.setCell (p := ⟨g, n * 3, none⟩) hgl _).setCell (p := ⟨g, n * 3 + 1, none⟩) hgl _).setCell (p := ⟨g, n * 3 + 2, none⟩) hgl _
        · have hin2 : F = E.take n ++ vD :: E.drop n := by rw [HIN0.out, if_neg hui]
          have HIN := Lib.hid hin2
          have qe : (u == id) = false := by simpa using hui
          rw [qe]
          clear qe hui hin2
          go_upto_region 11 with fail
          refine anyT_start (S := fun W : World => W.cell? ⟨Vb, 0, none⟩ = some (.int .i64 id) ∧ W.cell? ⟨Vb, 1, none⟩ = some (.string t) ∧ W.cell? ⟨Vb, 2, none⟩ = some (.string b)) (t := 9) (by kernel_rfl) ?_
          have hall0 := (Below.refl wq.heap.size wq).drew
          have hS0 : wq.drew.cell? ⟨Vb, 0, none⟩ = some (.int .i64 id) ∧ wq.drew.cell? ⟨Vb, 1, none⟩ = some (.string t) ∧ wq.drew.cell? ⟨Vb, 2, none⟩ = some (.string b) := ⟨v0, v1, v2⟩
          generalize wq.drew = wd at *
          refine takeS (i := 0) (v := ?_) rfl rfl (by kernel_rfl) (by kernel_rfl) (by kernel_rfl) (fun _ _ _ h => h) (by decide) (by kernel_rfl) ?_ hS0 ?_
          rotate_left
          · intro w hSw; (try dsimp only at hSw); go_simp; (try with_reducible rfl)
          simp only [List.setIfInBounds_toArray, List.set_cons_zero, List.set_cons_succ]
          refine takeS (i := 2) (v := ?_) rfl rfl (by kernel_rfl) (by kernel_rfl) (by kernel_rfl) (fun _ _ _ h => h) (by decide) (by kernel_rfl) ?_ hS0 ?_
          rotate_left
          · intro w hSw; (try dsimp only at hSw); go_simp; (try with_reducible rfl)
          simp only [List.setIfInBounds_toArray, List.set_cons_zero, List.set_cons_succ]
          refine takeS (i := 3) (v := ?_) rfl rfl (by kernel_rfl) (by kernel_rfl) (by kernel_rfl) (fun _ _ _ h => h) (by decide) (by kernel_rfl) ?_ hS0 ?_
          rotate_left
          · intro w hSw; (try dsimp only at hSw); go_simp; (try with_reducible rfl)
          simp only [List.setIfInBounds_toArray, List.set_cons_zero, List.set_cons_succ]
          refine twoT (i := 1) (j := 4) rfl rfl (by kernel_rfl) (fun K hK => ?_) (fun K hK => ?_)
          · skip
            go_simp
            refine (cloneE (.slice (some ⟨b0, o0, none⟩) L.length cap) L wd ((H.out.below HBQ.out).below hall0) (by omega)).mono ?_
            rintro e wa ⟨⟨cv, rfl, hcv⟩, hbp1⟩
            obtain ⟨cva, cvc, hcvs⟩ := owns_slice hcv
            subst hcvs
            have hall1 := below_up hall0 hbp1 hall0.size
            have hS1 : wa.cell? ⟨Vb, 0, none⟩ = some (.int .i64 id) ∧ wa.cell? ⟨Vb, 1, none⟩ = some (.string t) ∧ wa.cell? ⟨Vb, 2, none⟩ = some (.string b) := ⟨(below_cell hall1 hVl).trans v0, (below_cell hall1 hVl).trans v1, (below_cell hall1 hVl).trans v2⟩
            refine hK.out _ _ (fun _ => hS1) ?_
            clear hK
            try simp only [List.setIfInBounds_toArray, List.set_cons_zero, List.set_cons_succ, Act.put]
            replace hcv := owns_base hcv hall0.size
            refine oneT (i := 4) rfl (by kernel_rfl) (fun K hK => ?_)
            go_simp
            have hbp2 : Below wa.heap.size wa (wa.alloc (.cells #[.int .i64 id, .string t, .string b] 24)) := (Below.refl _ _).alloc (Nat.le_refl _) _
            have hob := Has.new wa #[.int .i64 id, .string t, .string b] 24
            have hne : (Value.slice cva L.length cvc).ownBlock ≠ some wa.heap.size := fun q => by have := (hcv.lt _ q).2; omega
            generalize hX : wa.heap.size = X at hob hne ⊢
            generalize wa.alloc (.cells #[.int .i64 id, .string t, .string b] 24) = wb at *
            replace hcv := owns_below hcv hbp2
            have hall2 := below_up hall1 hbp2 hall1.size
            have hS2 : wb.cell? ⟨Vb, 0, none⟩ = some (.int .i64 id) ∧ wb.cell? ⟨Vb, 1, none⟩ = some (.string t) ∧ wb.cell? ⟨Vb, 2, none⟩ = some (.string b) := ⟨(below_cell hall2 hVl).trans v0, (below_cell hall2 hVl).trans v1, (below_cell hall2 hVl).trans v2⟩
            refine hK.out _ _ (fun _ => hS2) ?_
            clear hK
            try simp only [List.setIfInBounds_toArray, List.set_cons_zero, List.set_cons_succ, Act.put]
            clear hX hbp1 hbp2 hall0 hall1 hS0 hS1
            have hBb : wq.heap.size ≤ wb.heap.size := hall2.size
            have HALL := Lib.hid hall2
            have HCV := Lib.hid hcv
            obtain ⟨g, hg⟩ : ∃ g, cva = some ⟨g, 0, none⟩ := by
              rcases hcv.2 with ⟨q, _⟩ | ⟨g, cap, cur, q, _⟩
              · simp only [Value.slice.injEq] at q
                omega
              · simp only [Value.slice.injEq] at q
                exact ⟨g, q.1⟩
            subst hg
            have hgX : g ≠ X := fun q => hne (by rw [q]; rfl)
            refine oneT (i := 5) rfl (by kernel_rfl) (fun K hK => ?_)
            go_simp
            refine (insert_anyE wq.heap.size g cvc L.length n X (L.flatMap encE) [.int .i64 id, .string t, .string b] wb HCV.out hob rfl hgX (by simp [Value.oneCell']) (encE_one L) (by omega) (by omega) hBb (by omega)).mono ?_
            rintro e w8 ⟨nv, rfl, hnv, hb8⟩
            obtain ⟨nva, nvc, hnvs⟩ := owns_slice hnv
            subst hnvs
            have hall8 : Below wq.heap.size wq w8 := HALL.out.trans hb8
            have hS8 : w8.cell? ⟨Vb, 0, none⟩ = some (.int .i64 id) ∧ w8.cell? ⟨Vb, 1, none⟩ = some (.string t) ∧ w8.cell? ⟨Vb, 2, none⟩ = some (.string b) := ⟨(below_cell hall8 hVl).trans v0, (below_cell hall8 hVl).trans v1, (below_cell hall8 hVl).trans v2⟩
            have HO8 := Lib.hid hnv
            have HB8 := Lib.hid hall8
            refine hK.out _ _ (fun _ => hS8) ?_
            clear hK hnv hb8 hall8
            try simp only [List.setIfInBounds_toArray, List.set_cons_zero, List.set_cons_succ, Act.put]
            refine oneT (i := 6) rfl (by kernel_rfl) (fun K hK => ?_)
            go_simp
            refine hK.out _ _ (fun _ => hS8) ?_
            clear hK
            try simp only [List.setIfInBounds_toArray, List.set_cons_zero, List.set_cons_succ, Act.put]
            refine doneT (by kernel_rfl) ?_ _
            go_wp2_with fail
            go_meet
            have hlen : (L.take n ++ (id, t, b) :: L.drop n).length = L.length + 1 := by rw [List.length_append, List.length_cons, List.length_take, List.length_drop]; omega
            refine ⟨MoreAt.low (w1 := wq) ⟨L.take n ++ (id, t, b) :: L.drop n, _, _, by rw [hlen], ?_, ?_⟩ hwq, HBQ0.out.trans (HB8.out.mono hwq)⟩
            · rw [List.map_append, List.map_cons, List.map_take, List.map_drop, ← HEE.out, HIN.out, HVD.out]
              rfl
            · have h := HO8.out
              rw [hlen, List.flatMap_append, List.flatMap_cons]
              rw [encE_take L n (by omega)] at h
              have e2 : (L.flatMap encE).drop (n * 3) = (L.drop n).flatMap encE := by
                have e : L.flatMap encE = (L.take n).flatMap encE ++ (L.drop n).flatMap encE := by rw [← List.flatMap_append, List.take_append_drop]
                have hl : ((L.take n).flatMap encE).length = n * 3 := by rw [encE_len, List.length_take, Nat.min_eq_left (by omega)]
                rw [e, ← hl, List.drop_left]
              rw [e2, List.append_assoc] at h
              exact h
          · skip
            go_simp
            have hbp1 : Below wd.heap.size wd (wd.alloc (.cells #[.int .i64 id, .string t, .string b] 24)) := (Below.refl _ _).alloc (Nat.le_refl _) _
            have hob := Has.new wd #[.int .i64 id, .string t, .string b] 24
            generalize hX : wd.heap.size = X at hob ⊢
            generalize wd.alloc (.cells #[.int .i64 id, .string t, .string b] 24) = wa at *
            have hall1 := below_up hall0 hbp1 hall0.size
            have hS1 : wa.cell? ⟨Vb, 0, none⟩ = some (.int .i64 id) ∧ wa.cell? ⟨Vb, 1, none⟩ = some (.string t) ∧ wa.cell? ⟨Vb, 2, none⟩ = some (.string b) := ⟨(below_cell hall1 hVl).trans v0, (below_cell hall1 hVl).trans v1, (below_cell hall1 hVl).trans v2⟩
            refine hK.out _ _ (fun _ => hS1) ?_
            clear hK
            try simp only [List.setIfInBounds_toArray, List.set_cons_zero, List.set_cons_succ, Act.put]
            refine oneT (i := 1) rfl (by kernel_rfl) (fun K hK => ?_)
            go_simp
            refine (cloneE (.slice (some ⟨b0, o0, none⟩) L.length cap) L wa ((H.out.below HBQ.out).below hall1) (by omega)).mono ?_
            rintro e wb ⟨⟨cv, rfl, hcv⟩, hbp2⟩
            obtain ⟨cva, cvc, hcvs⟩ := owns_slice hcv
            subst hcvs
            have hne : (Value.slice cva L.length cvc).ownBlock ≠ some X := fun q => by have := (hcv.lt _ q).1; have := hob.lt; omega
            replace hob := hob.below hbp2 hob.lt
            replace hcv := owns_base hcv hall1.size
            have hall2 := below_up hall1 hbp2 hall1.size
            have hS2 : wb.cell? ⟨Vb, 0, none⟩ = some (.int .i64 id) ∧ wb.cell? ⟨Vb, 1, none⟩ = some (.string t) ∧ wb.cell? ⟨Vb, 2, none⟩ = some (.string b) := ⟨(below_cell hall2 hVl).trans v0, (below_cell hall2 hVl).trans v1, (below_cell hall2 hVl).trans v2⟩
            refine hK.out _ _ (fun _ => hS2) ?_
            clear hK
            try simp only [List.setIfInBounds_toArray, List.set_cons_zero, List.set_cons_succ, Act.put]
            clear hX hbp1 hbp2 hall0 hall1 hS0 hS1
            have hBb : wq.heap.size ≤ wb.heap.size := hall2.size
            have HALL := Lib.hid hall2
            have HCV := Lib.hid hcv
            obtain ⟨g, hg⟩ : ∃ g, cva = some ⟨g, 0, none⟩ := by
              rcases hcv.2 with ⟨q, _⟩ | ⟨g, cap, cur, q, _⟩
              · simp only [Value.slice.injEq] at q
                omega
              · simp only [Value.slice.injEq] at q
                exact ⟨g, q.1⟩
            subst hg
            have hgX : g ≠ X := fun q => hne (by rw [q]; rfl)
            refine oneT (i := 5) rfl (by kernel_rfl) (fun K hK => ?_)
            go_simp
            refine (insert_anyE wq.heap.size g cvc L.length n X (L.flatMap encE) [.int .i64 id, .string t, .string b] wb HCV.out hob rfl hgX (by simp [Value.oneCell']) (encE_one L) (by omega) (by omega) hBb (by omega)).mono ?_
            rintro e w8 ⟨nv, rfl, hnv, hb8⟩
            obtain ⟨nva, nvc, hnvs⟩ := owns_slice hnv
            subst hnvs
            have hall8 : Below wq.heap.size wq w8 := HALL.out.trans hb8
            have hS8 : w8.cell? ⟨Vb, 0, none⟩ = some (.int .i64 id) ∧ w8.cell? ⟨Vb, 1, none⟩ = some (.string t) ∧ w8.cell? ⟨Vb, 2, none⟩ = some (.string b) := ⟨(below_cell hall8 hVl).trans v0, (below_cell hall8 hVl).trans v1, (below_cell hall8 hVl).trans v2⟩
            have HO8 := Lib.hid hnv
            have HB8 := Lib.hid hall8
            refine hK.out _ _ (fun _ => hS8) ?_
            clear hK hnv hb8 hall8
            try simp only [List.setIfInBounds_toArray, List.set_cons_zero, List.set_cons_succ, Act.put]
            refine oneT (i := 6) rfl (by kernel_rfl) (fun K hK => ?_)
            go_simp
            refine hK.out _ _ (fun _ => hS8) ?_
            clear hK
            try simp only [List.setIfInBounds_toArray, List.set_cons_zero, List.set_cons_succ, Act.put]
            refine doneT (by kernel_rfl) ?_ _
            go_wp2_with fail
            go_meet
            have hlen : (L.take n ++ (id, t, b) :: L.drop n).length = L.length + 1 := by rw [List.length_append, List.length_cons, List.length_take, List.length_drop]; omega
            refine ⟨MoreAt.low (w1 := wq) ⟨L.take n ++ (id, t, b) :: L.drop n, _, _, by rw [hlen], ?_, ?_⟩ hwq, HBQ0.out.trans (HB8.out.mono hwq)⟩
            · rw [List.map_append, List.map_cons, List.map_take, List.map_drop, ← HEE.out, HIN.out, HVD.out]
              rfl
            · have h := HO8.out
              rw [hlen, List.flatMap_append, List.flatMap_cons]
              rw [encE_take L n (by omega)] at h
              have e2 : (L.flatMap encE).drop (n * 3) = (L.drop n).flatMap encE := by
                have e : L.flatMap encE = (L.take n).flatMap encE ++ (L.drop n).flatMap encE := by rw [← List.flatMap_append, List.take_append_drop]
                have hl : ((L.take n).flatMap encE).length = n * 3 := by rw [encE_len, List.length_take, Nat.min_eq_left (by omega)]
                rw [e, ← hl, List.drop_left]
              rw [e2, List.append_assoc] at h
              exact h
  case rest =>
    obtain ⟨⟨M, ma2, mc2, rfl, hM, hmo⟩, hbc⟩ := hcut
    have HIYc := Lib.hid (HIY7.out.below hbc)
    have HYc := Lib.hid (HY7.out.below hbc HY7.out.lt)
    have HVc := Lib.hid (HV7.out.below hbc HV7.out.lt)
    have HBc := Lib.hid (HB7.out.trans (hbc.mono hB7))
    have hBc : w.heap.size ≤ wc.heap.size := HBc.out.size
    have HMO := Lib.hid (owns_base hmo hB7)
    have HM := Lib.hid hM
    have hMl : M.length ≤ 200 := by
      have h1 := congrArg List.length hM
      rw [List.length_map] at h1
      have := HFOK.out.few
      omega
    clear hM hmo hbc v0 v1 v2 hVl HIY7 HY7 HV7 HB7 hB7
    go_wp2_with fail
    refine (NewIndex_any (.slice ma2 M.length mc2) M wc (EntsAt.of_own HMO.out)).mono ?_
    rintro e w8 ⟨hpost, hb8⟩
    rw [HM.out] at hpost
    have hz0 : newE F = 0 := (new_ok F).2 HFOK.out
    rcases hpost with ⟨hne, _⟩ | ⟨_, zv, zs, zt, z, rfl, hiz, hzok, -⟩
    · exact absurd hz0 hne
    obtain rfl : y = z := HYOK.out.same hzok
    have HIY8 := Lib.hid (HIYc.out.below hb8)
    have HY8 := Lib.hid (HYc.out.below hb8 HYc.out.lt)
    have HV8 := Lib.hid (HVc.out.below hb8 HVc.out.lt)
    have HB8 := Lib.hid (HBc.out.trans (hb8.mono hBc))
    have HMO8 := Lib.hid (owns_below HMO.out hb8)
    have hB8 : w.heap.size ≤ w8.heap.size := HB8.out.size
    clear HIYc HYc HVc HMO hb8 hz0 hzok
    obtain ⟨⟨a1, c1, f1⟩, ⟨a2, c2, f2⟩, ⟨a3, c3, f3⟩⟩ := hiz.forms
    obtain ⟨n1, hn1⟩ : ∃ n, n = y.ids.length := ⟨_, rfl⟩
    obtain ⟨n2, hn2⟩ : ∃ n, n = y.sizes.length := ⟨_, rfl⟩
    obtain ⟨n3, hn3⟩ : ∃ n, n = y.terms.length := ⟨_, rfl⟩
    rw [← hn1] at f1
    rw [← hn2] at f2
    rw [← hn3] at f3
    subst f1 f2 f3
    have hbn : Below w8.heap.size w8 (w8.alloc (.cells #[.slice a1 n1 c1, .slice a2 n2 c2, .slice a3 n3 c3] 29)) := (Below.refl _ _).alloc (Nat.le_refl _) _
    have kz := Has.new w8 #[.slice a1 n1 c1, .slice a2 n2 c2, .slice a3 n3 c3] 29
    have HIZ9 := Lib.hid (hiz.below hbn)
    have HIY9 := Lib.hid (HIY8.out.below hbn)
    have hy9 := HY8.out.below hbn HY8.out.lt
    have HY9 := Lib.hid hy9
    have HV9 := Lib.hid (HV8.out.below hbn HV8.out.lt)
    have HB9 := Lib.hid (HB8.out.trans (hbn.mono hB8))
    have HMO9 := Lib.hid (owns_below HMO8.out hbn)
    clear hn1 hn2 hn3 hiz hbn HIY8 HY8 HV8 HMO8
    go_upto_region 18 with fail
    obtain ⟨Z10, hZ10⟩ : ∃ Z10, Z10 = w8.heap.size := ⟨_, rfl⟩
    rw [← hZ10] at kz ⊢
    clear hZ10
    generalize w8.alloc (.cells #[.slice a1 n1 c1, .slice a2 n2 c2, .slice a3 n3 c3] 29) = w9 at *
    have HZ9 := Lib.hid kz
    have hB9 : w.heap.size ≤ w9.heap.size := HB9.out.size
    have y0 := hy9.cell 0
    have y1 := hy9.cell 1
    have y2 := hy9.cell 2
    have z0 := kz.cell 0
    have z1 := kz.cell 1
    have z2 := kz.cell 2
    clear kz hy9
    go_wp2_with fail
    refine (sameIndex_ok (.slice ja jn jc) (.slice ka kn kc) (.slice ma mn mc) (.slice a1 n1 c1) (.slice a2 n2 c2) (.slice a3 n3 c3) y F w9 HIY9.out HIZ9.out HYOK.out HFOK.out (by have := HYFEW.out; omega)).mono ?_
    rintro e w10 ⟨rfl, hb10⟩
    have hz10 := HZ9.out.below hb10 HZ9.out.lt
    have hv10 := HV9.out.below hb10 HV9.out.lt
    have HV10 := Lib.hid hv10
    have HIZ10 := Lib.hid (HIZ9.out.below hb10)
    have HB10 := Lib.hid (HB9.out.trans (hb10.mono hB9))
    have HMO10 := Lib.hid (owns_below HMO9.out hb10)
    have hB10 : w.heap.size ≤ w10.heap.size := HB10.out.size
    clear y0 y1 y2 z0 z1 z2 hb10 HIY9 HY9 HV9 HZ9 HIZ9 HMO9
    have z0 := hz10.cell 0
    have z1 := hz10.cell 1
    have z2 := hz10.cell 2
    have v0 := hv10.cell 0
    clear hz10 hv10
    go_wp2_with fail
    refine (Drop_any (.slice a1 n1 c1) (.slice a2 n2 c2) (.slice a3 n3 c3) y F id w10 HIZ10.out HYOK.out HFOK.out HYFEW.out ⟨vD, by rw [HFF.out]; exact insE_mem _ _, HVID.out⟩).mono ?_
    rintro e w11 ⟨⟨dv, ds, dt, d, rfl, hid, hdok⟩, hb11⟩
    have HV11 := Lib.hid (HV10.out.below hb11 HV10.out.lt)
    have HB11 := Lib.hid (HB10.out.trans (hb11.mono hB10))
    have HMO11 := Lib.hid (owns_below HMO10.out hb11)
    have hB11 : w.heap.size ≤ w11.heap.size := HB11.out.size
    clear z0 z1 z2 v0 hb11 HIZ10 HV10 HMO10
    obtain ⟨⟨b1, e1, g1⟩, ⟨b2, e2, g2⟩, ⟨b3, e3, g3⟩⟩ := hid.forms
    obtain ⟨m1, hm1⟩ : ∃ n, n = d.ids.length := ⟨_, rfl⟩
    obtain ⟨m2, hm2⟩ : ∃ n, n = d.sizes.length := ⟨_, rfl⟩
    obtain ⟨m3, hm3⟩ : ∃ n, n = d.terms.length := ⟨_, rfl⟩
    rw [← hm1] at g1
    rw [← hm2] at g2
    rw [← hm3] at g3
    subst g1 g2 g3
    have HDOK := Lib.hid hdok
    have hbn : Below w11.heap.size w11 (w11.alloc (.cells #[.slice b1 m1 e1, .slice b2 m2 e2, .slice b3 m3 e3] 29)) := (Below.refl _ _).alloc (Nat.le_refl _) _
    have kd := Has.new w11 #[.slice b1 m1 e1, .slice b2 m2 e2, .slice b3 m3 e3] 29
    have HID12 := Lib.hid (hid.below hbn)
    have HV12 := Lib.hid (HV11.out.below hbn HV11.out.lt)
    have HB12 := Lib.hid (HB11.out.trans (hbn.mono hB11))
    have HMO12 := Lib.hid (owns_below HMO11.out hbn)
    clear hm1 hm2 hm3 hid hdok hbn HV11 HMO11
    go_upto_region 21 with fail
    obtain ⟨D11, hD11⟩ : ∃ D11, D11 = w11.heap.size := ⟨_, rfl⟩
    rw [← hD11] at kd ⊢
    clear hD11
    generalize w11.alloc (.cells #[.slice b1 m1 e1, .slice b2 m2 e2, .slice b3 m3 e3] 29) = w12 at *
    have HD12 := Lib.hid kd
    have hB12 : w.heap.size ≤ w12.heap.size := HB12.out.size
    clear kd
    go_wp2_with fail
    refine (cloneE (.slice ma2 M.length mc2) M w12 (EntsAt.of_own HMO12.out) (by omega)).mono ?_
    rintro e w13 ⟨⟨cv, rfl, hcv⟩, hb13⟩
    obtain ⟨cva, cvc, hcvs⟩ := owns_slice hcv
    subst hcvs
    have HCV13 := Lib.hid hcv
    have HV13 := Lib.hid (HV12.out.below hb13 HV12.out.lt)
    have HD13 := Lib.hid (HD12.out.below hb13 HD12.out.lt)
    have HID13 := Lib.hid (HID12.out.below hb13)
    have HB13 := Lib.hid (HB12.out.trans (hb13.mono hB12))
    have hB13 : w12.heap.size ≤ w13.heap.size := hb13.size
    have hVl12 := HV12.out.lt
    have hFM : F.length = M.length := by have h1 := congrArg List.length HM.out; rw [List.length_map] at h1; exact h1.symm
    obtain ⟨kf, hkf, hkv⟩ := List.mem_iff_getElem.1 (show vD ∈ F by rw [HFF.out]; exact insE_mem _ _)
    have hkM : kf < M.length := by omega
    have hMF : ∀ j (hj : j < M.length), M[j].1 = (F[j]'(by omega)).1 := fun j hj => by
      have h1 : F[j]? = (M.map toD)[j]? := by rw [HM.out]
      rw [List.getElem?_eq_getElem (by omega), List.getElem?_map, List.getElem?_eq_getElem hj] at h1
      have h2 : F[j]'(by omega) = toD M[j] := Option.some.inj h1
      rw [h2]
      rfl
    have hkid : M[kf].1 = id := by rw [hMF kf hkM, hkv, HVID.out]
    have huni : ∀ j (hj : j < M.length), j ≠ kf → M[j].1 ≠ id := fun j hj hne => by
      rw [hMF j hj, ← HVID.out, ← hkv]
      exact asc_uniq HFOK.out.asc (by omega) hkf hne
    have hrest : (M.take kf ++ M.drop (kf + 1)).map toD = outE id F := by
      rw [List.map_append, List.map_take, List.map_drop, HM.out, out_at HFOK.out.asc hkf, hkv, HVID.out]
    obtain ⟨g, hg⟩ : ∃ g, cva = some ⟨g, 0, none⟩ := by
      rcases hcv.2 with ⟨q, _⟩ | ⟨g, cap, cur, q, _⟩
      · simp only [Value.slice.injEq] at q
        omega
      · simp only [Value.slice.injEq] at q
        exact ⟨g, q.1⟩
    subst hg
    have HREST := Lib.hid hrest
    have HDF := Lib.hid (DeleteFunc_any w12.heap.size g cvc Vb id M kf w13 HCV13.out (HV13.out.cell 0) hVl12 hB13 hkM hkid huni (by omega))
    have HBB13 := Lib.hid hb13
    clear hcv hb13 HV12 HMO12 hMF hkid huni hrest hkv HID13 HD13
    go_wp2_with fail
    refine HDF.out.mono ?_
    rintro e w14 ⟨⟨rv, rfl, hrv⟩, hb14⟩
    have hb1214 : Below w12.heap.size w12 w14 := HBB13.out.trans hb14
    have HRV := Lib.hid hrv
    have HD14 := Lib.hid (HD12.out.below hb1214 HD12.out.lt)
    have HID14 := Lib.hid (HID12.out.below hb1214)
    have HB14 := Lib.hid (HB12.out.trans (hb1214.mono hB12))
    have hB14 : w.heap.size ≤ w14.heap.size := HB14.out.size
    clear hrv hb14 hb1214 HID12 HD12 HV13 HCV13 HBB13 HDF
    go_wp2_with fail
    refine (NewIndex_any rv (M.take kf ++ M.drop (kf + 1)) w14 HRV.out).mono ?_
    rintro e w15 ⟨hpost, hb15⟩
    rw [HREST.out] at hpost
    have hOKr := HFOK.out.out id
    have hr0 : newE (outE id F) = 0 := (new_ok _).2 hOKr
    rcases hpost with ⟨hne, _⟩ | ⟨_, rv1, rv2, rv3, r, rfl, hir, hrok, hrfew⟩
    · exact absurd hr0 hne
    obtain rfl : d = r := HDOK.out.same hrok
    have HOKR := Lib.hid hOKr
    have HRFEW := Lib.hid (show d.terms.length ≤ 100000000 by have := hOKr.few; omega)
    have HD15 := Lib.hid (HD14.out.below hb15 HD14.out.lt)
    have HID15 := Lib.hid (HID14.out.below hb15)
    have HB15 := Lib.hid (HB14.out.trans (hb15.mono hB14))
    have hB15 : w.heap.size ≤ w15.heap.size := HB15.out.size
    clear hb15 hr0 hrok hOKr hrfew HD14 HID14 HRV
    obtain ⟨⟨p1, q1, f1⟩, ⟨p2, q2, f2⟩, ⟨p3, q3, f3⟩⟩ := hir.forms
    obtain ⟨l1, hl1⟩ : ∃ n, n = d.ids.length := ⟨_, rfl⟩
    obtain ⟨l2, hl2⟩ : ∃ n, n = d.sizes.length := ⟨_, rfl⟩
    obtain ⟨l3, hl3⟩ : ∃ n, n = d.terms.length := ⟨_, rfl⟩
    rw [← hl1] at f1
    rw [← hl2] at f2
    rw [← hl3] at f3
    subst f1 f2 f3
    have hbn : Below w15.heap.size w15 (w15.alloc (.cells #[.slice p1 l1 q1, .slice p2 l2 q2, .slice p3 l3 q3] 29)) := (Below.refl _ _).alloc (Nat.le_refl _) _
    have kr := Has.new w15 #[.slice p1 l1 q1, .slice p2 l2 q2, .slice p3 l3 q3] 29
    have HIR16 := Lib.hid (hir.below hbn)
    have HID16 := Lib.hid (HID15.out.below hbn)
    have hd16 := HD15.out.below hbn HD15.out.lt
    have HB16 := Lib.hid (HB15.out.trans (hbn.mono hB15))
    clear hl1 hl2 hl3 hir hbn HID15 HD15
    go_upto_region 22 with fail
    obtain ⟨R12, hR12⟩ : ∃ R12, R12 = w15.heap.size := ⟨_, rfl⟩
    rw [← hR12] at kr ⊢
    clear hR12
    generalize w15.alloc (.cells #[.slice p1 l1 q1, .slice p2 l2 q2, .slice p3 l3 q3] 29) = w16 at *
    have hB16 : w.heap.size ≤ w16.heap.size := HB16.out.size
    have z0 := kr.cell 0
    have z1 := kr.cell 1
    have z2 := kr.cell 2
    have y0 := hd16.cell 0
    have y1 := hd16.cell 1
    have y2 := hd16.cell 2
    clear kr hd16
    go_wp2_with fail
    refine (sameIndex_ok (.slice b1 m1 e1) (.slice b2 m2 e2) (.slice b3 m3 e3) (.slice p1 l1 q1) (.slice p2 l2 q2) (.slice p3 l3 q3) d (outE id F) w16 HID16.out HIR16.out HDOK.out HOKR.out HRFEW.out).mono ?_
    rintro e w17 ⟨rfl, hb17⟩
    have HB17 := Lib.hid (HB16.out.trans (hb17.mono hB16))
    clear hb17 z0 z1 z2 y0 y1 y2
    go_wp2_with fail
    exact HQ.out _ HB17.out
end Go.Proofs.Ytfjcbclakgidkaa
