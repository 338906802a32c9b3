/- The walk of (know.Index).checkTerm, of a term that is right. -/
import Derived.Test.YtfjcbclakgidkaaIaCk
namespace Go.Proofs.Ytfjcbclakgidkaa
open Go.RowKit

set_option maxRecDepth 100000 in
set_option maxHeartbeats 8000000 in
theorem checkTerm_ok (iv sv tv : Value) (x : IxD) (E : List EnD) (t : TmD) (lv : Value) (w : World) (hi : IntsAt w iv x.ids) (hs : IntsAt w sv x.sizes) (hids : x.ids = E.map (·.1)) (hsizes : x.sizes = E.map szF) (hlv : PoL w lv t.2) (hg : TmGood E t) (hE : OkE E) :
    Calls Try.prog 39 #[.agg #[iv, sv, tv], .agg #[.string (bs t.1), lv]] w fun e w' => e = .returned (.int .i64 0) ∧ Below w.heap.size w w' := by
  obtain ⟨la, lc, hle⟩ := PoL.len hlv
  subst hle
  obtain ⟨l, hl⟩ : ∃ l, l = t.2 := ⟨_, rfl⟩
  rw [← hl] at hlv ⊢
  have hlm : l.length ≤ 200 := by
    rw [hl]
    exact Nat.le_trans hg.few hE.few
  have hasc := hg.asc
  have hpo := hg.po
  rw [← hl] at hasc hpo
  have HASC := Lib.hid hasc
  have HPO := Lib.hid hpo
  have HOK := Lib.hid hE
  have HIDS := Lib.hid hids
  have HSZ := Lib.hid hsizes
  have hil : x.ids.length = E.length := by rw [hids, List.length_map]
  have hsl0 : x.sizes.length = E.length := by rw [hsizes, List.length_map]
  have hEl := hE.few
  have hil200 : x.ids.length ≤ 200 := by omega
  have hsl200 : x.sizes.length ≤ 200 := by omega
  have HIL := Lib.hid hil
  have HSL0 := Lib.hid hsl0
  have hidasc : x.ids.Pairwise (· < ·) := by rw [hids]; exact List.pairwise_map.2 hE.asc
  have HIA := Lib.hid hidasc
  obtain ⟨Xb, hXb⟩ : ∃ Xb, Xb = w.heap.size := ⟨_, rfl⟩
  have k0 := Has.new w #[iv, sv, tv] 29
  have b0 : Below w.heap.size w (w.alloc (.cells #[iv, sv, tv] 29)) := (Below.refl _ _).alloc (Nat.le_refl _) _
  have s0 : (w.alloc (.cells #[iv, sv, tv] 29)).heap.size = w.heap.size + 1 := World.size_alloc _ _
  have k1 := Has.new (w.alloc (.cells #[iv, sv, tv] 29)) #[.string (bs t.1), .slice la l.length lc] 54
  have b1 := b0.alloc b0.size (.cells #[.string (bs t.1), .slice la l.length lc] 54)
  have m1 := k0.alloc (.cells #[.string (bs t.1), .slice la l.length lc] 54)
  rw [s0] at k1
  rw [← hXb] at m1
  have hii := hi.below b1
  have hss := hs.below b1
  have hll := hlv.below b1
  clear hil hsl0 hl hlv hg hasc hpo hE hids hsizes hidasc hi hs k0 b0 s0
  go_enter Try.func39, Try.ntmps39
  go_upto_region 2 with fail
  generalize (w.alloc (.cells #[iv, sv, tv] 29)).alloc (.cells #[.string (bs t.1), .slice la l.length lc] 54) = w2 at *
  obtain ⟨Tb, hTb⟩ : ∃ Tb, Tb = w.heap.size + 1 := ⟨_, rfl⟩
  rw [← hTb] at k1 ⊢
  rw [← hXb]
  clear hXb hTb
  have t1 := k1.cell 1
  have HX := Lib.hid m1
  have HB1 := Lib.hid b1
  have HII := Lib.hid hii
  have HSS := Lib.hid hss
  have HLL := Lib.hid hll
  have hB2 : w.heap.size ≤ w2.heap.size := b1.size
  clear k1 m1 b1 hii hss hll
  go_wp2_with fail
  clear t1
  go_loopw [5, 14] (fun bv qv wr => ∃ (i : Nat) (bf : Int), bv = .int .i64 bf ∧ qv = .int .i64 ((i : Nat) : Int) ∧ i ≤ l.length ∧ (∀ h : i < l.length, bf < l[i].1) ∧ Below w2.heap.size w2 wr) (fun _ qv _ => l.length - (intOf qv).toNat)
  case atStart =>
    refine ⟨0, 0, rfl, rfl, Nat.zero_le _, fun h => ?_, Below.refl _ _⟩
    obtain ⟨k, hk, e, _⟩ := (HPO.out l[0] (List.getElem_mem _)).at'
    have := (HOK.out.good _ (List.getElem_mem hk)).1
    omega
  case round =>
    obtain ⟨i, bf, rfl, rfl, hi, hbf, hbr⟩ := hrel
    have HBR := Lib.hid hbr
    have HBF := Lib.hid hbf
    clear hbr hbf
    by_cases hlt : i < l.length
    · obtain ⟨bp, op, cp, hpv, _, hbp, hel⟩ := PoL.at HLL.out (by omega)
      simp only [Value.slice.injEq] at hpv
      obtain ⟨rfl, _, rfl⟩ := hpv
      obtain ⟨ptv, pbv, ⟨e0, e1, e2⟩, hpt, hpb⟩ := hel i hlt
      obtain ⟨p, hp⟩ : ∃ p, p = l[i] := ⟨_, rfl⟩
      rw [← hp] at e0 hpt hpb
      have c0 := (below_cell HBR.out hbp).trans e0
      have c1 := (below_cell HBR.out hbp).trans e1
      have c2 := (below_cell HBR.out hbp).trans e2
      have hpok := HPO.out p (by rw [hp]; exact List.getElem_mem _)
      obtain ⟨k, hk, hkp, hpo1, hpo2⟩ := hpok.at'
      have hsome := hpok.some'
      have hfew := hpok.few
      have hbfp : bf < p.1 := by rw [hp]; exact HBF.out hlt
      have hnext : ∀ h : i + 1 < l.length, p.1 < l[i + 1].1 := fun h => by
        rw [hp]
        exact List.pairwise_iff_getElem.1 HASC.out i (i + 1) hlt h (by omega)
      have HNEXT := Lib.hid hnext
      obtain ⟨sz, hsz⟩ : ∃ sz, sz = szF E[k] := ⟨_, rfl⟩
      rw [← hsz] at hpo1 hpo2
      have hszb : 0 ≤ sz ∧ sz ≤ 1000000 := by
        have hgv := HOK.out.good _ (List.getElem_mem hk)
        have h1 := words_len E[k].2.1.length E[k].2.1
        have h2 := words_len E[k].2.2.length E[k].2.2
        have h3 := hgv.2.2.1
        have h4 := hgv.2.2.2.1
        rw [hsz]
        unfold szF words
        omega
      have hki : k < x.ids.length := by rw [HIL.out]; exact hk
      have hks : k < x.sizes.length := by rw [HSL0.out]; exact hk
      have hidk : x.ids[k] = p.1 := by
        have : x.ids[k]? = some p.1 := by rw [HIDS.out, List.getElem?_map, List.getElem?_eq_getElem hk, ← hkp]; rfl
        rw [List.getElem?_eq_getElem hki] at this
        exact Option.some.inj this
      have hszk : x.sizes.getD k 0 = sz := by
        have : x.sizes[k]? = some sz := by rw [HSZ.out, List.getElem?_map, List.getElem?_eq_getElem hk, hsz]; rfl
        rw [List.getD_eq_getElem?_getD, this]
        rfl
      have hcnt : x.ids.countP (· < p.1) = k := by
        have := count_at HIA.out hki
        rw [hidk] at this
        exact this
      have hcon : x.ids.contains p.1 = true := by
        rw [List.contains_iff_mem, ← hidk]
        exact List.getElem_mem _
      obtain ⟨pid, hpid⟩ : ∃ pid, pid = p.1 := ⟨_, rfl⟩
      rw [← hpid] at c0 hcnt hcon hbfp
      obtain ⟨q1a, q1n, q1c, hq1, hq1n⟩ : ∃ a n c, ptv = .slice a n c ∧ n = p.2.1.length := by
        obtain ⟨a1, c1, e1⟩ := SliceAt.len hpt.1
        exact ⟨_, _, _, e1, rfl⟩
      obtain ⟨q2a, q2n, q2c, hq2, hq2n⟩ : ∃ a n c, pbv = .slice a n c ∧ n = p.2.2.length := by
        obtain ⟨a1, c1, e1⟩ := SliceAt.len hpb.1
        exact ⟨_, _, _, e1, rfl⟩
      subst hq1 hq2
      obtain ⟨bz, so, sc, hsv⟩ := (HSS.out.two.resolve_left (fun ⟨a, c, h1, h2⟩ => by rw [h2] at hks; simp at hks)).2
      obtain ⟨sb, hsb⟩ : ∃ sb, sb = bz := ⟨_, rfl⟩
      rw [← hsb] at hsv
      clear hsb
      subst hsv
      have hcell := HSS.out.cells (by omega)
      have hz := hcell.2 k hks
      rw [hszk] at hz
      have hbn : Below wr.heap.size wr (wr.alloc (.cells #[.int .i64 pid, .slice q1a q1n q1c, .slice q2a q2n q2c] 57)) := (Below.refl _ _).alloc (Nat.le_refl _) _
      have hbw5 : Below w2.heap.size w2 (wr.alloc (.cells #[.int .i64 pid, .slice q1a q1n q1c, .slice q2a q2n q2c] 57)) := HBR.out.trans (hbn.mono HBR.out.size)
      have hpx := Has.new wr #[.int .i64 pid, .slice q1a q1n q1c, .slice q2a q2n q2c] 57
      have HPT := Lib.hid (hpt.below hbw5)
      have HPV := Lib.hid (hpb.below hbw5)
      have HPO1 := Lib.hid hpo1
      have HPO2 := Lib.hid hpo2
      have hid5 := HII.out.below hbw5
      have HID5 := Lib.hid hid5
      have x0 : (wr.alloc (.cells #[.int .i64 pid, .slice q1a q1n q1c, .slice q2a q2n q2c] 57)).cell? ⟨Xb, 0, none⟩ = some iv := (below_cell hbw5 HX.out.lt).trans (HX.out.cell 0)
      have x1 : (wr.alloc (.cells #[.int .i64 pid, .slice q1a q1n q1c, .slice q2a q2n q2c] 57)).cell? ⟨Xb, 1, none⟩ = some (.slice (some ⟨sb, so, none⟩) x.sizes.length sc) := (below_cell hbw5 HX.out.lt).trans (HX.out.cell 1)
      have z0 := (below_cell hbw5 hcell.1).trans hz
      have hXl : Xb < (wr.alloc (.cells #[.int .i64 pid, .slice q1a q1n q1c, .slice q2a q2n q2c] 57)).heap.size := Nat.lt_of_lt_of_le HX.out.lt hbw5.size
      have hsl : sb < (wr.alloc (.cells #[.int .i64 pid, .slice q1a q1n q1c, .slice q2a q2n q2c] 57)).heap.size := Nat.lt_of_lt_of_le hcell.1 hbw5.size
      have p0 := hpx.cell 0
      have p1 := hpx.cell 1
      have p2 := hpx.cell 2
      have hPl := hpx.lt
      have HBW5 := Lib.hid hbw5
      obtain ⟨Pb, hPb⟩ : ∃ Pb, Pb = wr.heap.size := ⟨_, rfl⟩
      have HPID := Lib.hid hpid
      have hasc2 : x.ids.Pairwise (· ≤ ·) := HIA.out.imp fun {a b} h => Int.le_of_lt h
      have HAS2 := Lib.hid hasc2
      have HCNT := Lib.hid hcnt
      have HCON := Lib.hid hcon
      have hq12 : 0 < q1n + q2n := by omega
      have hq12b : q1n + q2n ≤ 60000 := by omega
      have hq1b : p.2.1.length ≤ 1000000 := by omega
      have hq2b : p.2.2.length ≤ 1000000 := by omega
      clear hel e0 e1 e2 hpt hpb hp hpok hpo1 hpo2 hnext hsz hbn hbw5 hpx hid5 hasc2 hcnt hcon hidk hszk hkp hpid hcell hz hq1n hq2n
      go_upto_region 5 with fail
      rw [← hPb] at p0 p1 p2 hPl ⊢
      clear hPb c0 c1 c2
      generalize wr.alloc (.cells #[.int .i64 pid, .slice q1a q1n q1c, .slice q2a q2n q2c] 57) = w4 at *
      go_wp2_with fail
      refine (binI iv x.ids pid w4 HID5.out (by omega) HAS2.out).mono ?_
      rintro e w5 ⟨rfl, hb5⟩
      rw [HCNT.out, HCON.out]
      have HPT5 := Lib.hid (HPT.out.below hb5)
      have HPV5 := Lib.hid (HPV.out.below hb5)
      clear HPT HPV
      have HPT := HPT5
      have HPV := HPV5
      clear HPT5 HPV5
      replace p0 := (below_cell hb5 hPl).trans p0
      replace p1 := (below_cell hb5 hPl).trans p1
      replace p2 := (below_cell hb5 hPl).trans p2
      replace x0 := (below_cell hb5 hXl).trans x0
      replace x1 := (below_cell hb5 hXl).trans x1
      replace z0 := (below_cell hb5 hsl).trans z0
      replace hPl := Nat.lt_of_lt_of_le hPl hb5.size
      replace hXl := Nat.lt_of_lt_of_le hXl hb5.size
      replace hsl := Nat.lt_of_lt_of_le hsl hb5.size
      have HBW6 := Lib.hid (below_up HBW5.out hb5 HBW5.out.size)
      have q1 : decide (pid ≤ bf) = false := decide_eq_false (by omega)
      have q2 : IntKind.i64.wrap ((q1n : Int) + (q2n : Int)) = (q1n : Int) + (q2n : Int) := IntWalk.i64_in _ (by omega)
      have q3 : ((q1n : Int) + (q2n : Int) == 0) = false := beq_eq_false_iff_ne.2 (by omega)
      clear hb5
      go_upto_region 13 with fail
      go_cut [10] from 45 to 62 (fun v wx => v = .int .i64 0 ∧ Below w5.heap.size w5 wx)
      case first =>
        refine anyT_start (S := fun W : World => W.cell? ⟨Pb, 1, none⟩ = some (.slice q1a q1n q1c) ∧ W.cell? ⟨Pb, 2, none⟩ = some (.slice q2a q2n q2c) ∧ W.cell? ⟨Xb, 1, none⟩ = some (.slice (some ⟨sb, so, none⟩) x.sizes.length sc) ∧ W.cell? ⟨sb, so + k, none⟩ = some (.int .i64 sz)) (t := 19) (by kernel_rfl) ?_
        have hall0 := (Below.refl w5.heap.size w5).drew
        have hS0 : w5.drew.cell? ⟨Pb, 1, none⟩ = some (.slice q1a q1n q1c) ∧ w5.drew.cell? ⟨Pb, 2, none⟩ = some (.slice q2a q2n q2c) ∧ w5.drew.cell? ⟨Xb, 1, none⟩ = some (.slice (some ⟨sb, so, none⟩) x.sizes.length sc) ∧ w5.drew.cell? ⟨sb, so + k, none⟩ = some (.int .i64 sz) := ⟨p1, p2, x1, z0⟩
        generalize w5.drew = wd at *
        refine takeS (i := 0) (v := ?_) rfl rfl (by kernel_rfl) (by kernel_rfl) (by kernel_rfl) (fun _ _ _ h => h) (by decide) (by kernel_rfl) ?_ hS0 ?_
        rotate_left
        · intro w hSw; (try dsimp only at hSw); go_simp; (try with_reducible rfl)
        simp only [List.setIfInBounds_toArray, List.set_cons_zero, List.set_cons_succ]
        refine takeS (i := 1) (v := ?_) rfl rfl (by kernel_rfl) (by kernel_rfl) (by kernel_rfl) (fun _ _ _ h => h) (by decide) (by kernel_rfl) ?_ hS0 ?_
        rotate_left
        · intro w hSw; (try dsimp only at hSw); go_simp; (try with_reducible rfl)
        simp only [List.setIfInBounds_toArray, List.set_cons_zero, List.set_cons_succ]
        refine takeS (i := 2) (v := ?_) rfl rfl (by kernel_rfl) (by kernel_rfl) (by kernel_rfl) (fun _ _ _ h => h) (by decide) (by kernel_rfl) ?_ hS0 ?_
        rotate_left
        · intro w hSw; (try dsimp only at hSw); go_simp; (try with_reducible rfl)
        simp only [List.setIfInBounds_toArray, List.set_cons_zero, List.set_cons_succ]
        refine takeS (i := 3) (v := ?_) rfl rfl (by kernel_rfl) (by kernel_rfl) (by kernel_rfl) (fun _ _ _ h => h) (by decide) (by kernel_rfl) ?_ hS0 ?_
        rotate_left
        · intro w hSw; (try dsimp only at hSw); go_simp; (try with_reducible rfl)
        simp only [List.setIfInBounds_toArray, List.set_cons_zero, List.set_cons_succ]
        refine takeS (i := 4) (v := ?_) rfl rfl (by kernel_rfl) (by kernel_rfl) (by kernel_rfl) (fun _ _ _ h => h) (by decide) (by kernel_rfl) ?_ hS0 ?_
        rotate_left
        · intro w hSw; (try dsimp only at hSw); go_simp; (try with_reducible rfl)
        simp only [List.setIfInBounds_toArray, List.set_cons_zero, List.set_cons_succ]
        refine takeS (i := 5) (v := ?_) rfl rfl (by kernel_rfl) (by kernel_rfl) (by kernel_rfl) (fun _ _ _ h => h) (by decide) (by kernel_rfl) ?_ hS0 ?_
        rotate_left
        · intro w hSw; (try dsimp only at hSw); go_simp; first | (with_reducible rfl) | (rw [if_pos (by omega)])
        simp only [List.setIfInBounds_toArray, List.set_cons_zero, List.set_cons_succ]
        refine takeS (i := 6) (v := ?_) rfl rfl (by kernel_rfl) (by kernel_rfl) (by kernel_rfl) (fun _ _ _ h => h) (by decide) (by kernel_rfl) ?_ hS0 ?_
        rotate_left
        · intro w hSw; (try dsimp only at hSw); go_simp; (try with_reducible rfl)
        simp only [List.setIfInBounds_toArray, List.set_cons_zero, List.set_cons_succ]
        refine takeS (i := 8) (v := ?_) rfl rfl (by kernel_rfl) (by kernel_rfl) (by kernel_rfl) (fun _ _ _ h => h) (by decide) (by kernel_rfl) ?_ hS0 ?_
        rotate_left
        · intro w hSw; (try dsimp only at hSw); go_simp; (try with_reducible rfl)
        simp only [List.setIfInBounds_toArray, List.set_cons_zero, List.set_cons_succ]
        refine takeS (i := 9) (v := ?_) rfl rfl (by kernel_rfl) (by kernel_rfl) (by kernel_rfl) (fun _ _ _ h => h) (by decide) (by kernel_rfl) ?_ hS0 ?_
        rotate_left
        · intro w hSw; (try dsimp only at hSw); go_simp; (try with_reducible rfl)
        simp only [List.setIfInBounds_toArray, List.set_cons_zero, List.set_cons_succ]
        refine takeS (i := 10) (v := ?_) rfl rfl (by kernel_rfl) (by kernel_rfl) (by kernel_rfl) (fun _ _ _ h => h) (by decide) (by kernel_rfl) ?_ hS0 ?_
        rotate_left
        · intro w hSw; (try dsimp only at hSw); go_simp; (try with_reducible rfl)
        simp only [List.setIfInBounds_toArray, List.set_cons_zero, List.set_cons_succ]
        refine takeS (i := 11) (v := ?_) rfl rfl (by kernel_rfl) (by kernel_rfl) (by kernel_rfl) (fun _ _ _ h => h) (by decide) (by kernel_rfl) ?_ hS0 ?_
        rotate_left
        · intro w hSw; (try dsimp only at hSw); go_simp; (try with_reducible rfl)
        simp only [List.setIfInBounds_toArray, List.set_cons_zero, List.set_cons_succ]
        refine takeS (i := 12) (v := ?_) rfl rfl (by kernel_rfl) (by kernel_rfl) (by kernel_rfl) (fun _ _ _ h => h) (by decide) (by kernel_rfl) ?_ hS0 ?_
        rotate_left
        · intro w hSw; (try dsimp only at hSw); go_simp; (try with_reducible rfl)
        simp only [List.setIfInBounds_toArray, List.set_cons_zero, List.set_cons_succ]
        refine takeS (i := 13) (v := ?_) rfl rfl (by kernel_rfl) (by kernel_rfl) (by kernel_rfl) (fun _ _ _ h => h) (by decide) (by kernel_rfl) ?_ hS0 ?_
        rotate_left
        · intro w hSw; (try dsimp only at hSw); go_simp; first | (with_reducible rfl) | (rw [if_pos (by omega)])
        simp only [List.setIfInBounds_toArray, List.set_cons_zero, List.set_cons_succ]
        refine takeS (i := 14) (v := ?_) rfl rfl (by kernel_rfl) (by kernel_rfl) (by kernel_rfl) (fun _ _ _ h => h) (by decide) (by kernel_rfl) ?_ hS0 ?_
        rotate_left
        · intro w hSw; (try dsimp only at hSw); go_simp; (try with_reducible rfl)
        simp only [List.setIfInBounds_toArray, List.set_cons_zero, List.set_cons_succ]
        refine oneT (i := 7) rfl (by kernel_rfl) (fun K hK => ?_)
        go_simp
        refine (checkPositions_ok (.slice q1a q1n q1c) p.2.1 sz wd (HPT.out.below hall0) HPO1.out (by omega) (by omega) (by omega)).mono ?_
        rintro e wa ⟨rfl, hba⟩
        have hall1 := below_up hall0 hba hall0.size
        have hS1 : wa.cell? ⟨Pb, 1, none⟩ = some (.slice q1a q1n q1c) ∧ wa.cell? ⟨Pb, 2, none⟩ = some (.slice q2a q2n q2c) ∧ wa.cell? ⟨Xb, 1, none⟩ = some (.slice (some ⟨sb, so, none⟩) x.sizes.length sc) ∧ wa.cell? ⟨sb, so + k, none⟩ = some (.int .i64 sz) := ⟨(below_cell hall1 hPl).trans p1, (below_cell hall1 hPl).trans p2, (below_cell hall1 hXl).trans x1, (below_cell hall1 hsl).trans z0⟩
        refine hK.out _ _ (fun _ => hS1) ?_
        clear hK
        try simp only [List.setIfInBounds_toArray, List.set_cons_zero, List.set_cons_succ, Act.put]
        refine oneT (i := 15) rfl (by kernel_rfl) (fun K hK => ?_)
        go_simp
        refine (checkPositions_ok (.slice q2a q2n q2c) p.2.2 sz wa (HPV.out.below hall1) HPO2.out (by omega) (by omega) (by omega)).mono ?_
        rintro e wb ⟨rfl, hbb⟩
        have hall2 := below_up hall1 hbb hall1.size
        have hS2 : wb.cell? ⟨Pb, 1, none⟩ = some (.slice q1a q1n q1c) ∧ wb.cell? ⟨Pb, 2, none⟩ = some (.slice q2a q2n q2c) ∧ wb.cell? ⟨Xb, 1, none⟩ = some (.slice (some ⟨sb, so, none⟩) x.sizes.length sc) ∧ wb.cell? ⟨sb, so + k, none⟩ = some (.int .i64 sz) := ⟨(below_cell hall2 hPl).trans p1, (below_cell hall2 hPl).trans p2, (below_cell hall2 hXl).trans x1, (below_cell hall2 hsl).trans z0⟩
        refine hK.out _ _ (fun _ => hS2) ?_
        clear hK
        try simp only [List.setIfInBounds_toArray, List.set_cons_zero, List.set_cons_succ, Act.put]
        refine oneT (i := 16) rfl (by kernel_rfl) (fun K hK => ?_)
        go_simp
        have hbn : Below wb.heap.size wb (wb.alloc (.cells #[.int .i64 0, .int .i64 0] 30)) := (Below.refl _ _).alloc (Nat.le_refl _) _
        have hints := ints2_at wb 0 0 30
        have hall3 := below_up hall2 hbn hall2.size
        have hS3 : (wb.alloc (.cells #[.int .i64 0, .int .i64 0] 30)).cell? ⟨Pb, 1, none⟩ = some (.slice q1a q1n q1c) ∧ (wb.alloc (.cells #[.int .i64 0, .int .i64 0] 30)).cell? ⟨Pb, 2, none⟩ = some (.slice q2a q2n q2c) ∧ (wb.alloc (.cells #[.int .i64 0, .int .i64 0] 30)).cell? ⟨Xb, 1, none⟩ = some (.slice (some ⟨sb, so, none⟩) x.sizes.length sc) ∧ (wb.alloc (.cells #[.int .i64 0, .int .i64 0] 30)).cell? ⟨sb, so + k, none⟩ = some (.int .i64 sz) := ⟨(below_cell hall3 hPl).trans p1, (below_cell hall3 hPl).trans p2, (below_cell hall3 hXl).trans x1, (below_cell hall3 hsl).trans z0⟩
        have HALL := Lib.hid hall3
        refine hK.out _ _ (fun _ => hS3) ?_
        clear hK hall0 hall1 hall2 hba hbb hbn hall3
        try simp only [List.setIfInBounds_toArray, List.set_cons_zero, List.set_cons_succ, Act.put]
        refine oneT (i := 17) rfl (by kernel_rfl) (fun K hK => ?_)
        go_simp
        refine (or_any _ [0, 0] _ hints (by decide)).mono ?_
        rintro e wc2 ⟨rfl, rfl⟩
        refine hK.out _ _ (fun _ => hS3) ?_
        clear hK
        rw [show orI [0, 0] = 0 from rfl]
        try simp only [List.setIfInBounds_toArray, List.set_cons_zero, List.set_cons_succ, Act.put]
        refine oneT (i := 18) rfl (by kernel_rfl) (fun K hK => ?_)
        go_simp
        refine hK.out _ _ (fun _ => hS3) ?_
        clear hK
        try simp only [List.setIfInBounds_toArray, List.set_cons_zero, List.set_cons_succ, Act.put]
        refine doneT (by kernel_rfl) ?_ _
        go_wp2_with fail
        go_meet
        exact ⟨rfl, HALL.out⟩
      case rest =>
        obtain ⟨rfl, hbc⟩ := hcut
        have HBW7 := Lib.hid (below_up HBW6.out hbc HBW6.out.size)
        clear hbc x0 x1 p0 p1 p2 z0 q1 q2 q3
        go_wp2_with fail
        go_roundw
        case rel =>
          exact ⟨i + 1, pid, rfl, by go_num, hlt, fun h => by rw [HPID.out]; exact HNEXT.out h, HBW7.out⟩
        case measure => simp [intOf]; omega
    · obtain rfl : i = l.length := by omega
      go_wp2_with fail
      go_ret
      exact ⟨rfl, HB1.out.trans (HBR.out.mono hB2)⟩
end Go.Proofs.Ytfjcbclakgidkaa
