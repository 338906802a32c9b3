/- The walk of portkeep2.sameIndex, at two indexes that hold the same. -/
import Derived.Test.YtfjcbclakgidkaaIaEq
import Derived.Test.YtfjcbclakgidkaaIaDrop
namespace Go.Proofs.Ytfjcbclakgidkaa
open Go.RowKit

set_option maxRecDepth 100000 in
set_option maxHeartbeats 8000000 in
theorem sameIndex_ok (iv sv tv iv' sv' tv' : Value) (x : IxD) (E : List EnD) (w : World) (h : IxAt w iv sv tv x) (h' : IxAt w iv' sv' tv' x) (hx : IxOk E x) (hE : OkE E) (hN : x.terms.length ≤ 100000000) :
    Calls Try.prog 11 #[.agg #[iv, sv, tv], .agg #[iv', sv', tv']] w fun e w' => e = .returned (.bool true) ∧ Below w.heap.size w w' := by
  obtain ⟨-, -, ⟨a1, t1, hte⟩⟩ := h.forms
  obtain ⟨-, -, ⟨a2, t2, hte'⟩⟩ := h'.forms
  subst hte hte'
  have hil : x.ids.length ≤ 1000 := by rw [hx.ids, List.length_map]; have := hE.few; omega
  have hsl : x.sizes.length ≤ 1000 := by rw [hx.sizes, List.length_map]; have := hE.few; omega
  have HX := Lib.hid hx
  have HE := Lib.hid hE
  have HPO := Lib.hid (pos_small hx hE)
  obtain ⟨Xb, hXb⟩ : ∃ Xb, Xb = w.heap.size := ⟨_, rfl⟩
  have k0 := Has.new w #[iv, sv, .slice a1 x.terms.length t1] 29
  have b0 : Below w.heap.size w (w.alloc (.cells #[iv, sv, .slice a1 x.terms.length t1] 29)) := (Below.refl _ _).alloc (Nat.le_refl _) _
  have s0 : (w.alloc (.cells #[iv, sv, .slice a1 x.terms.length t1] 29)).heap.size = w.heap.size + 1 := World.size_alloc _ _
  have k1 := Has.new (w.alloc (.cells #[iv, sv, .slice a1 x.terms.length t1] 29)) #[iv', sv', .slice a2 x.terms.length t2] 29
  have b1 := b0.alloc b0.size (.cells #[iv', sv', .slice a2 x.terms.length t2] 29)
  have m0 := k0.alloc (.cells #[iv', sv', .slice a2 x.terms.length t2] 29)
  rw [s0] at k1
  obtain ⟨Yb, hYb⟩ : ∃ Yb, Yb = w.heap.size + 1 := ⟨_, rfl⟩
  rw [← hYb] at k1
  rw [← hXb] at m0
  have H := Lib.hid (h.below b1)
  have H' := Lib.hid (h'.below b1)
  have HB := Lib.hid b1
  have HK0 := Lib.hid m0
  have HK1 := Lib.hid k1
  have x0 := m0.cell 0
  have x1 := m0.cell 1
  have x2 := m0.cell 2
  have y0 := k1.cell 0
  have y1 := k1.cell 1
  have y2 := k1.cell 2
  have hB1 : w.heap.size ≤ _ := b1.size
  clear h h' hx hE k0 b0 s0 k1 b1 m0
  go_enter Try.func11, Try.ntmps11
  go_upto_region 1 with fail
  rw [← hYb, ← hXb]
  clear hXb hYb
  generalize (w.alloc (.cells #[iv, sv, .slice a1 x.terms.length t1] 29)).alloc (.cells #[iv', sv', .slice a2 x.terms.length t2] 29) = w2 at *
  go_wp2_with fail
  refine (eqI iv iv' x.ids w2 H.out.ids H'.out.ids (by omega)).mono ?_
  rintro e w3 ⟨rfl, hb3⟩
  have hX3 := HK0.out.below hb3 HK0.out.lt
  have hY3 := HK1.out.below hb3 HK1.out.lt
  have HB3 := Lib.hid (HB.out.trans (hb3.mono hB1))
  have HS := Lib.hid (H.out.sizes.below hb3)
  have HS' := Lib.hid (H'.out.sizes.below hb3)
  have hB3 : w.heap.size ≤ w3.heap.size := HB3.out.size
  have HW23 := Lib.hid hb3
  clear x0 x1 x2 y0 y1 y2 hb3
  have x1 := hX3.cell 1
  have x2 := hX3.cell 2
  have y1 := hY3.cell 1
  have y2 := hY3.cell 2
  clear hX3 hY3
  go_wp2_with fail
  refine (eqI sv sv' x.sizes w3 HS.out HS'.out (by omega)).mono ?_
  rintro e w4 ⟨rfl, hb4⟩
  have hb24 : Below w2.heap.size w2 w4 := HW23.out.trans (hb4.mono HW23.out.size)
  have hX4 := HK0.out.below hb24 HK0.out.lt
  have hY4 := HK1.out.below hb24 HK1.out.lt
  have HB4 := Lib.hid (HB.out.trans (hb24.mono hB1))
  have hB4 : w.heap.size ≤ w4.heap.size := HB4.out.size
  have HTM := Lib.hid (TmL.below H.out.terms hb24)
  have HTM' := Lib.hid (TmL.below H'.out.terms hb24)
  have HX4 := Lib.hid hX4
  have HY4 := Lib.hid hY4
  clear x1 x2 y1 y2 hb4 hb24
  have x2 := hX4.cell 2
  have y2 := hY4.cell 2
  clear hX4 hY4
  go_wp2_with fail
  clear x2 y2
  go_loopw [34] (fun qv wr => ∃ i : Nat, qv = .int .i64 ((i : Nat) : Int) ∧ i ≤ x.terms.length ∧ Below w4.heap.size w4 wr) (fun qv _ => x.terms.length - (intOf qv).toNat)
  case atStart => exact ⟨0, rfl, Nat.zero_le _, Below.refl _ _⟩
  case round =>
    obtain ⟨i, rfl, hi, hbr⟩ := hrel
    have HBR := Lib.hid hbr
    clear hbr
    by_cases hlt : i < x.terms.length
    · obtain ⟨b1, o1, d1, hv1, _, hb1, hel1⟩ := TmL.at HTM.out (by omega)
      simp only [Value.slice.injEq] at hv1
      obtain ⟨rfl, _, rfl⟩ := hv1
      obtain ⟨b2, o2, d2, hv2, _, hb2, hel2⟩ := TmL.at HTM'.out (by omega)
      simp only [Value.slice.injEq] at hv2
      obtain ⟨rfl, _, rfl⟩ := hv2
      obtain ⟨lx, e0, e1, hlx⟩ := hel1 i hlt
      obtain ⟨ly, f0, f1, hly⟩ := hel2 i hlt
      obtain ⟨t, ht⟩ : ∃ t, t = x.terms[i] := ⟨_, rfl⟩
      rw [← ht] at e0 f0 hlx hly
      have htg := HX.out.good HE.out (t := t) (by rw [ht]; exact List.getElem_mem _)
      have htl : t.2.length ≤ 1000 := by have := htg.few; have := HE.out.few; omega
      have hpl : ∀ p ∈ t.2, p.2.1.length ≤ 1000000 ∧ p.2.2.length ≤ 1000000 := HPO.out t (by rw [ht]; exact List.getElem_mem _)
      obtain ⟨la, lc, hle⟩ := PoL.len hlx
      obtain ⟨ma, mc, hme⟩ := PoL.len hly
      obtain ⟨n, hn⟩ : ∃ n, n = t.2.length := ⟨_, rfl⟩
      rw [← hn] at hle hme
      subst hle hme
      have c0 := (below_cell HBR.out hb1).trans e0
      have c1 := (below_cell HBR.out hb1).trans e1
      have hbn : Below wr.heap.size wr (wr.alloc (.cells #[.string (bs t.1), .slice la n lc] 54)) := (Below.refl _ _).alloc (Nat.le_refl _) _
      have hb5 := HBR.out.trans (hbn.mono HBR.out.size)
      have k0 := Has.new wr #[.string (bs t.1), .slice la n lc] 54
      have HB5 := Lib.hid hb5
      have HLX := Lib.hid (hlx.below hb5)
      have HLY := Lib.hid (hly.below hb5)
      have y2 : (wr.alloc (.cells #[.string (bs t.1), .slice la n lc] 54)).cell? ⟨Yb, 2, none⟩ = some (.slice (some ⟨b2, o2, none⟩) x.terms.length t2) := (below_cell hb5 HY4.out.lt).trans (HY4.out.cell 2)
      have z0 := (below_cell hb5 hb2).trans f0
      have z1 := (below_cell hb5 hb2).trans f1
      have hbl : b2 < (wr.alloc (.cells #[.string (bs t.1), .slice la n lc] 54)).heap.size := Nat.lt_of_lt_of_le hb2 hb5.size
      have hYl : Yb < (wr.alloc (.cells #[.string (bs t.1), .slice la n lc] 54)).heap.size := Nat.lt_of_lt_of_le HY4.out.lt hb5.size
      have HPL := Lib.hid hpl
      clear hel1 hel2 e0 e1 f0 f1 hlx hly ht htg hn hbn hb5
      go_upto_region 6 with fail
      obtain ⟨Tb, hTb⟩ : ∃ Tb, Tb = wr.heap.size := ⟨_, rfl⟩
      rw [← hTb] at k0 ⊢
      clear hTb c0 c1
      generalize wr.alloc (.cells #[.string (bs t.1), .slice la n lc] 54) = w5 at *
      have t0 := k0.cell 0
      have t1 := k0.cell 1
      have hTl := k0.lt
      clear k0
      go_cut [7] from 39 to 47 (fun v wx => v = .bool true ∧ Below w5.heap.size w5 wx)
      case first =>
        refine anyT_start (S := fun W : World => W.cell? ⟨Tb, 1, none⟩ = some (.slice la n lc) ∧ W.cell? ⟨Yb, 2, none⟩ = some (.slice (some ⟨b2, o2, none⟩) x.terms.length t2) ∧ W.cell? ⟨b2, o2 + i * 2 + 1, none⟩ = some (.slice ma n mc)) (t := 10) (by kernel_rfl) ?_
        have hall0 := (Below.refl w5.heap.size w5).drew
        have hS0 : w5.drew.cell? ⟨Tb, 1, none⟩ = some (.slice la n lc) ∧ w5.drew.cell? ⟨Yb, 2, none⟩ = some (.slice (some ⟨b2, o2, none⟩) x.terms.length t2) ∧ w5.drew.cell? ⟨b2, o2 + i * 2 + 1, none⟩ = some (.slice ma n mc) := ⟨t1, y2, z1⟩
        generalize w5.drew = wd at *
        refine takeS (i := 0) (v := ?_) rfl rfl (by kernel_rfl) (by kernel_rfl) (by kernel_rfl) (fun _ _ _ h => h) (by decide) (by kernel_rfl) ?_ hS0 ?_
        rotate_left
        · intro w hSw; (try dsimp only at hSw); go_simp; (try with_reducible rfl)
        simp only [List.setIfInBounds_toArray, List.set_cons_zero, List.set_cons_succ]
        refine takeS (i := 1) (v := ?_) rfl rfl (by kernel_rfl) (by kernel_rfl) (by kernel_rfl) (fun _ _ _ h => h) (by decide) (by kernel_rfl) ?_ hS0 ?_
        rotate_left
        · intro w hSw; (try dsimp only at hSw); go_simp; (try with_reducible rfl)
        simp only [List.setIfInBounds_toArray, List.set_cons_zero, List.set_cons_succ]
        refine takeS (i := 2) (v := ?_) rfl rfl (by kernel_rfl) (by kernel_rfl) (by kernel_rfl) (fun _ _ _ h => h) (by decide) (by kernel_rfl) ?_ hS0 ?_
        rotate_left
        · intro w hSw; (try dsimp only at hSw); go_simp; (try with_reducible rfl)
        simp only [List.setIfInBounds_toArray, List.set_cons_zero, List.set_cons_succ]
        refine takeS (i := 3) (v := ?_) rfl rfl (by kernel_rfl) (by kernel_rfl) (by kernel_rfl) (fun _ _ _ h => h) (by decide) (by kernel_rfl) ?_ hS0 ?_
        rotate_left
        · intro w hSw; (try dsimp only at hSw); go_simp; (try with_reducible rfl)
        simp only [List.setIfInBounds_toArray, List.set_cons_zero, List.set_cons_succ]
        refine takeS (i := 4) (v := ?_) rfl rfl (by kernel_rfl) (by kernel_rfl) (by kernel_rfl) (fun _ _ _ h => h) (by decide) (by kernel_rfl) ?_ hS0 ?_
        rotate_left
        · intro w hSw; (try dsimp only at hSw); go_simp; (try with_reducible rfl)
        simp only [List.setIfInBounds_toArray, List.set_cons_zero, List.set_cons_succ]
        refine takeS (i := 5) (v := ?_) rfl rfl (by kernel_rfl) (by kernel_rfl) (by kernel_rfl) (fun _ _ _ h => h) (by decide) (by kernel_rfl) ?_ hS0 ?_
        rotate_left
        · intro w hSw; (try dsimp only at hSw); go_simp; first | (with_reducible rfl) | (rw [if_pos (by omega)])
        simp only [List.setIfInBounds_toArray, List.set_cons_zero, List.set_cons_succ]
        refine takeS (i := 6) (v := ?_) rfl rfl (by kernel_rfl) (by kernel_rfl) (by kernel_rfl) (fun _ _ _ h => h) (by decide) (by kernel_rfl) ?_ hS0 ?_
        rotate_left
        · intro w hSw; (try dsimp only at hSw); go_simp; (try with_reducible rfl)
        simp only [List.setIfInBounds_toArray, List.set_cons_zero, List.set_cons_succ]
        refine takeS (i := 7) (v := ?_) rfl rfl (by kernel_rfl) (by kernel_rfl) (by kernel_rfl) (fun _ _ _ h => h) (by decide) (by kernel_rfl) ?_ hS0 ?_
        rotate_left
        · intro w hSw; (try dsimp only at hSw); go_simp; (try with_reducible rfl)
        simp only [List.setIfInBounds_toArray, List.set_cons_zero, List.set_cons_succ]
        refine oneT (i := 8) rfl (by kernel_rfl) (fun K hK => ?_)
        go_simp
        refine (EqualFunc_ok (.slice la n lc) (.slice ma n mc) t.2 wd (HLX.out.below hall0) (HLY.out.below hall0) htl hpl).mono ?_
        rintro e wa ⟨rfl, hba⟩
        have hall1 := below_up hall0 hba hall0.size
        have hS1 : wa.cell? ⟨Tb, 1, none⟩ = some (.slice la n lc) ∧ wa.cell? ⟨Yb, 2, none⟩ = some (.slice (some ⟨b2, o2, none⟩) x.terms.length t2) ∧ wa.cell? ⟨b2, o2 + i * 2 + 1, none⟩ = some (.slice ma n mc) := ⟨(below_cell hall1 hTl).trans t1, (below_cell hall1 hYl).trans y2, (below_cell hall1 hbl).trans z1⟩
        have HALL := Lib.hid hall1
        refine hK.out _ _ (fun _ => hS1) ?_
        clear hK hall0 hall1 hba
        try simp only [List.setIfInBounds_toArray, List.set_cons_zero, List.set_cons_succ, Act.put]
        refine oneT (i := 9) rfl (by kernel_rfl) (fun K hK => ?_)
        go_simp
        refine hK.out _ _ (fun _ => hS1) ?_
        clear hK
        try simp only [List.setIfInBounds_toArray, List.set_cons_zero, List.set_cons_succ, Act.put]
        refine doneT (by kernel_rfl) ?_ _
        go_wp2_with fail
        go_meet
        exact ⟨rfl, HALL.out⟩
      case rest =>
        obtain ⟨rfl, hbc⟩ := hcut
        have HBC := Lib.hid (below_up HB5.out hbc HB5.out.size)
        replace t0 := (below_cell hbc hTl).trans t0
        replace y2 := (below_cell hbc hYl).trans y2
        replace z0 := (below_cell hbc hbl).trans z0
        clear hbc t1 z1 hTl hYl hbl
        go_upto_region 7 with fail
        go_cut [60] from 48 to 60 (fun v wx => v = .bool false ∧ ∃ q, wx = wc.drewN q)
        case first =>
          go_quiet (fail)
          go_wp2_with fail
          go_meet
          exact ⟨rfl, _, rfl⟩
        case rest =>
          obtain ⟨rfl, q, rfl⟩ := hcut
          have HBD := Lib.hid (drewN_below HBC.out q)
          clear t0 y2 z0
          go_wp2_with fail
          go_roundw
          case rel => exact ⟨i + 1, by go_num, hlt, HBD.out⟩
          case measure => simp [intOf]; omega
    · obtain rfl : i = x.terms.length := by omega
      go_wp2_with fail
      go_ret
      exact ⟨rfl, HB4.out.trans (HBR.out.mono hB4)⟩
end Go.Proofs.Ytfjcbclakgidkaa
