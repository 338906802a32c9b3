/- The walk of staff.Roster. -/
import Derived.Test.YtfoehmieklldkaaDoorRosM
namespace Go.Proofs.YtfoehmieklldkaaDoor
open Go.RowKit

def RosterPost (l : List (Int × Int)) (p : List Int) (P R M : Int) (w : World) (e : Ending) (w' : World) : Prop :=
  ∃ ga gn gc la ln lc code, e = .returned (.tuple #[.slice ga gn gc, .slice la ln lc, .int .i64 code]) ∧ Below w.heap.size w w' ∧
    ((code ≠ 0 ∧ gn = 0 ∧ ln = 0 ∧ (formsE l = 0 → planE l.length p = 0 → rulesE P R M = 0 → code = 4)) ∨
     (code = 0 ∧ ∃ (fs : List FN) (ps : List Nat) (g lf : List (Nat × Nat)) (P' R' M' : Nat), P = P' ∧ R = R' ∧ M = M' ∧ P' ≤ 60 ∧ R' ≤ 400 ∧ M' ≤ 400 ∧ formsE l = 0 ∧ l = fs.map FN.pair ∧ fs.length ≤ 60 ∧ (∀ x ∈ fs, x.ok) ∧
       p = intsOf ps ∧ ps.length = fs.length ∧ (∀ q ∈ ps, q ≤ 60) ∧ g.length + lf.length ≤ 2000 ∧ gn = g.length ∧ ln = lf.length ∧ SliceAt 2 dutyR w' (.slice ga gn gc) g ∧ SliceAt 2 dutyR w' (.slice la ln lc) lf ∧
       RightG fs P' R' M' g ∧ (∀ d ∈ lf, d.1 < fs.length) ∧ ∀ t, t < fs.length → cnt g t + cnt lf t = pOf ps t))

theorem rulesE_ok {P R M : Int} (h : rulesE P R M = 0) : ∃ P' R' M' : Nat, P = P' ∧ R = R' ∧ M = M' ∧ P' ≤ 60 ∧ R' ≤ 400 ∧ M' ≤ 400 := by
  unfold rulesE at h
  split at h
  · rename_i g
    exact ⟨P.toNat, R.toNat, M.toNat, by omega, by omega, by omega, by omega, by omega, by omega⟩
  · cases h
theorem sum_take_le (ps : List Nat) (i : Nat) : (ps.take i).sum ≤ ps.sum := by
  have h := congrArg List.sum (List.take_append_drop i ps)
  rw [List.sum_append] at h
  omega
theorem sum_take_succ (ps : List Nat) (i : Nat) (h : i < ps.length) : (ps.take (i + 1)).sum = (ps.take i).sum + ps[i] := by
  rw [List.take_succ_eq_append_getElem h, List.sum_append]
  simp
theorem sum_bound : ∀ (ps : List Nat) (m : Nat), (∀ q ∈ ps, q ≤ m) → ps.sum ≤ ps.length * m
  | [], _, _ => by simp
  | x :: r, m, h => by
    have := sum_bound r m (fun q hq => h q (List.mem_cons_of_mem _ hq))
    have h2 := h x List.mem_cons_self
    rw [List.sum_cons, List.length_cons, Nat.succ_mul]
    omega

set_option maxRecDepth 100000 in
set_option maxHeartbeats 4000000 in
theorem Roster_any (v pv : Value) (l : List (Int × Int)) (p : List Int) (P R M : Int) (w : World) (h : SliceAt 2 formR w v l) (hp : SliceAt 1 intR w pv p) (hl : l.length ≤ 140737488355328) :
    Calls Tryd.prog 22 #[v, pv, .agg #[.int .i64 P, .int .i64 R, .int .i64 M]] w (RosterPost l p P R M w) := by
  obtain ⟨a, cap, rfl⟩ := h.len
  obtain ⟨ap, cp, rfl⟩ := hp.len
  have H := Lib.hid h
  have HP := Lib.hid hp
  have hbx := box1 w #[.int .i64 P, .int .i64 R, .int .i64 M] 50
  clear h hp
  go_enter Tryd.func22, Tryd.ntmps22
  go_upto_region 1 with fail
  generalize w.alloc (.cells #[.int .i64 P, .int .i64 R, .int .i64 M] 50) = w2 at *
  obtain ⟨hx, hbl⟩ := hbx
  have HX := Lib.hid hx
  have HB2 := Lib.hid hbl
  have k0 := hx.cell 0
  have k1 := hx.cell 1
  have k2 := hx.cell 2
  have HKS := Lib.hid (fun W (hW : Below w2.heap.size w2 W) => (⟨(below_cell hW hx.lt).trans k0, (below_cell hW hx.lt).trans k1, (below_cell hW hx.lt).trans k2⟩ : W.cell? ⟨w.heap.size, 0, none⟩ = some (.int .i64 P) ∧ W.cell? ⟨w.heap.size, 1, none⟩ = some (.int .i64 R) ∧ W.cell? ⟨w.heap.size, 2, none⟩ = some (.int .i64 M)))
  have HCF := Lib.hid (fun W hW => CheckForms_any (.slice a l.length cap) l W hW)
  have HCP := Lib.hid (fun W hW => checkPlan_any a l.length cap (.slice ap p.length cp) p W hW hl)
  have HFS := Lib.hid (fun W (hW : Below w2.heap.size w2 W) => (H.out.stable formR_stable HB2.out).stable formR_stable hW)
  have HPS := Lib.hid (fun W (hW : Below w2.heap.size w2 W) => (HP.out.stable intR_stable HB2.out).stable intR_stable hW)
  obtain ⟨c1, hc1⟩ : ∃ c1, c1 = formsE l := ⟨_, rfl⟩
  obtain ⟨c2, hc2⟩ : ∃ c2, c2 = planE l.length p := ⟨_, rfl⟩
  obtain ⟨c3, hc3⟩ : ∃ c3, c3 = rulesE P R M := ⟨_, rfl⟩
  have HCF2 := Lib.hid HCF.out
  rw [← hc1] at HCF2
  have HCP2 := Lib.hid HCP.out
  rw [← hc2] at HCP2
  have HCR := Lib.hid (fun W => CheckRules_any P R M W)
  rw [← hc3] at HCR
  have HC1 := Lib.hid hc1
  have HC2 := Lib.hid hc2
  have HC3 := Lib.hid hc3
  clear hx hbl hc1 hc2 hc3 HCF HCP
  go_cut [9] (fun u wx => u = .int .i64 (orI [c1, c2, c3]) ∧ Below w2.heap.size w2 wx)
  case first =>
    go_region_held3 (fun W => W.cell? ⟨w.heap.size, 0, none⟩ = some (.int .i64 P) ∧ W.cell? ⟨w.heap.size, 1, none⟩ = some (.int .i64 R) ∧ W.cell? ⟨w.heap.size, 2, none⟩ = some (.int .i64 M))
      (first | exact HKS.out _ hB | exact HKS.out _ (hB.alloc hB.size _) | exact HKS.out _ (Below.refl _ _).drew)
      (first
        | (go_at_call 30; have hg := hn3; refine (or_any _ [c1, c2, c3] _ (ints3_at _ _ _ _ _) (by simp)).mono ?_; rintro e w' ⟨rfl, rfl⟩; have hB := hB.alloc hB.size (.cells #[.int .i64 c1, .int .i64 c2, .int .i64 c3] 27))
        | (go_at_call 21; have hg := hn2; refine (HCR.out _).mono ?_; rintro e w' ⟨rfl, hb⟩; have hB := below_up' hB hb; have hn3 := True.intro)
        | (go_at_call 38; have hg := hn1; refine (HCP2.out _ (HPS.out _ hB)).mono ?_; rintro e w' ⟨rfl, rfl⟩; have hn2 := True.intro)
        | (go_at_call 35; refine (HCF2.out _ (HFS.out _ (Below.refl _ _).drew)).mono ?_; rintro e w' ⟨rfl, hb⟩; have hB := below_up' (Below.refl w2.heap.size w2).drew hb; have hn1 := True.intro))
    go_wp2
    go_meet
    exact ⟨rfl, hB⟩
  case rest =>
    obtain ⟨rfl, hb3⟩ := hcut
    have HB3 := Lib.hid (below_up HB2.out hb3 HB2.out.size)
    have HX3 := Lib.hid (HX.out.below hb3 HX.out.lt)
    generalize hcode : orI [c1, c2, c3] = code at *
    have HCO := Lib.hid hcode
    clear hb3 hcode k0 k1 k2
    by_cases hc0 : code = 0
    · subst hc0
      have hz := HCO.out
      rw [orI3] at hz
      have z1 : c1 = 0 := by
        by_cases g : c1 = 0
        · exact g
        · rw [if_neg g] at hz; exact absurd hz g
      rw [if_pos z1] at hz
      have z2 : c2 = 0 := by
        by_cases g : c2 = 0
        · exact g
        · rw [if_neg g] at hz; exact absurd hz g
      rw [if_pos z2] at hz
      have hfe := HC1.out.symm.trans z1
      have hpe := HC2.out.symm.trans z2
      have hre := HC3.out.symm.trans hz
      clear hz z1 z2 HCO HC1 HC2 HC3 HCF2 HCP2 HCR HKS HFS HPS
      obtain ⟨fs, rfl, hok⟩ := forms_nat l (formsE_ok hfe).2
      have hl60 := (formsE_ok hfe).1
      rw [List.length_map] at hl60
      obtain ⟨ps, rfl, hpl, hp60⟩ := planE_nat hpe
      rw [List.length_map] at hpl
      obtain ⟨P', R', M', rfl, rfl, rfl, hP, hR, hM⟩ := rulesE_ok hre
      have hil : (intsOf ps).length = fs.length := by simp [intsOf, hpl]
      have hsb := sum_bound ps 60 hp60
      have hsb2 : ps.length * 60 ≤ 3600 := by omega
      have HIL := Lib.hid hil
      have HPL := Lib.hid hpl
      have HFE := Lib.hid hfe
      have HOK := Lib.hid hok
      have HP60 := Lib.hid hp60
      have HST := Lib.hid (sum_take_le ps)
      have HSS := Lib.hid (sum_take_succ ps)
      clear hfe hpe hre hil hpl hok hp60
      have HF3 : Hid (FormsAt _ _ fs) := Lib.hid ((H.out.stable formR_stable HB3.out : SliceAt 2 formR _ _ (fs.map FN.pair)))
      have HP3 := Lib.hid (HP.out.stable intR_stable HB3.out)
      have HF : Hid (FormsAt w _ fs) := Lib.hid (H.out : SliceAt 2 formR w _ (fs.map FN.pair))
      rename_i w3
      have hflen : (fs.map FN.pair).length = fs.length := by simp
      rw [hflen] at HF3 HF ⊢
      go_wp2_with fail
      go_loop [10, 12, 36] (fun sv _ iv => ∃ i : Nat, iv = .int .i64 i ∧ i ≤ (intsOf ps).length ∧ sv = .int .i64 (((ps.take i).sum : Nat) : Int)) (fun _ _ iv => (intsOf ps).length - (intOf iv).toNat)
      case atStart => exact ⟨0, rfl, Nat.zero_le _, rfl⟩
      case round =>
        obtain ⟨i, rfl, hi, rfl⟩ := hrel
        have hpll : (intsOf ps).length ≤ 1000 := by rw [HIL.out]; omega
        by_cases hlt : i < (intsOf ps).length
        · obtain ⟨bp, op, cpp, hvp, hcpp, hbp, help⟩ := SliceAt.at HP3.out (by omega)
          cases hvp
          have hips : i < ps.length := by rw [HPL.out, ← HIL.out]; exact hlt
          have c0 := ints_cell help i ((ps[i] : Nat) : Int) (by simp [intsOf, hips])
          have hsu := HSS.out i hips
          have hst := HST.out (i + 1)
          generalize ps[i] = x at *
          have s0 : IntKind.i64.wrap ((((ps.take i).sum : Nat) : Int) + (x : Int)) = (((ps.take i).sum : Nat) : Int) + (x : Int) := IntWalk.i64_in _ (by omega)
          have HSU := Lib.hid hsu
          clear help hsu
          generalize (ps.take i).sum = sm at *
          go_wp2_with fail
          go_round
          case rel => exact ⟨i + 1, by go_num, by omega, by rw [HSU.out]; simp⟩
          case measure => simp [intOf]; omega
        · obtain rfl : i = (intsOf ps).length := by omega
          have htk : ps.take (intsOf ps).length = ps := by rw [HIL.out, ← HPL.out]; exact List.take_length
          rw [htk]
          clear htk
          by_cases hmany : 2000 < ps.sum
          · have q0 : decide ((2000 : Int) < ((ps.sum : Nat) : Int)) = true := by simp; omega
            clear hmany
            go_wp2_with fail
            go_ret3
            exact ⟨_, _, _, _, _, _, _, rfl, HB3.out, .inl ⟨by decide, rfl, rfl, fun _ _ _ => rfl⟩⟩
          · have q0 : decide ((2000 : Int) < ((ps.sum : Nat) : Int)) = false := by simp; omega
            have k0 := HX3.out.cell 0
            have hmk1 := fun W => make_rows W P' (by omega)
            go_upto_region 13 with fail
            clear hmk1 k0
            have hmn := madeNils wc P' 33
            have hb4 : Below wc.heap.size wc (wc.alloc (.cells (madeCells #[.slice none 0 0] P') 33)) := (Below.refl _ _).alloc (Nat.le_refl _) _
            have hbw := HB3.out.size
            generalize wc.alloc (.cells (madeCells #[.slice none 0 0] P') 33) = w4 at *
            have HMN := Lib.hid hmn
            have HX4 := Lib.hid (HX3.out.below hb4 HX3.out.lt)
            have HB4 := Lib.hid (below_up HB3.out hb4 HB3.out.size)
            generalize wc.heap.size = bh at *
            have k0 := HX4.out.cell 0
            have hmk2 := fun W => make_ints W P' (by omega)
            clear hmn hb4
            go_upto_region 15 with fail
            clear hmk2 k0
            have hmi := madeInts w4 P'
            have hb5 : Below w4.heap.size w4 (w4.alloc (.cells (madeCells #[.int .i64 0] P') 3)) := (Below.refl _ _).alloc (Nat.le_refl _) _
            have hbw4 := HB4.out.size
            generalize w4.alloc (.cells (madeCells #[.int .i64 0] P') 3) = w5 at *
            have HX5 := Lib.hid (HX4.out.below hb5 HX4.out.lt)
            have HB5 := Lib.hid (below_up HB4.out hb5 HB4.out.size)
            have hinv0 : RoInv fs P' R' M' w w5 w.heap.size bh w4.heap.size (.slice none 0 0) (.slice none 0 0) [] [] (fun _ => .slice none 0 0) := by
              refine ⟨⟨HX5.out, HMN.out.below hb5 HMN.out.lt, ?_, Rows.nils _ _ _ _ _, World.ownsRow_nil _ _ _ _, World.ownsRow_nil _ _ _ _, NE.nil _, Nat.le_refl _, hbw, hbw4, HB5.out⟩, RightG.nil _ _ _ _, fun _ => Nat.zero_le _, (fun _ h => by cases h)⟩
              rw [replicate_map] at hmi
              exact hmi
            have HI0 := Lib.hid hinv0
            have hbh4 : bh < w4.heap.size := HMN.out.lt
            generalize w4.heap.size = bs at *
            clear hmi hb5 hinv0 HX3 HX4 HMN
            go_wp2_with fail
            go_loopw [15, 16, 17, 18, 19, 20, 21, 54] (fun gv lv _ _ _ _ _ iv wr => ∃ (i : Nat) (g lf : List (Nat × Nat)) (V : Nat → Value), iv = .int .i64 i ∧ i ≤ fs.length ∧ RoInv fs P' R' M' w wr w.heap.size bh bs gv lv g lf V ∧ g.length + lf.length = (ps.take i).sum ∧ ∀ t, t < fs.length → cnt g t + cnt lf t = if t < i then pOf ps t else 0) (fun _ _ _ _ _ _ _ iv _ => fs.length - (intOf iv).toNat)
            case atStart => exact ⟨0, [], [], _, rfl, Nat.zero_le _, HI0.out, by simp, fun t ht => by simp [cnt]⟩
            case round =>
              obtain ⟨i, g, lf, V, rfl, hi, hinv, hlen, hcnt⟩ := hrel
              by_cases hlt : i < fs.length
              · obtain ⟨b, off, cap', hv, hcap, hb, hel⟩ := HF.out.at (by omega)
                cases hv
                obtain ⟨bp, op, cpp, hvp, hcpp, hbp, help⟩ := SliceAt.at HP.out (by rw [HIL.out]; omega)
                cases hvp
                obtain ⟨e0, e1⟩ := hel i hlt
                have c0 := (below_cell hinv.below hb).trans e0
                have c1 := (below_cell hinv.below hb).trans e1
                have hips : i < ps.length := by rw [HPL.out]; exact hlt
                have hiil : i < (intsOf ps).length := by rw [HIL.out]; exact hlt
                have e2 : w.cell? ⟨bp, op + i, none⟩ = some (.int .i64 (pOf ps i : Nat)) := by
                  have := ints_cell help i ((ps[i] : Nat) : Int) (by simp [intsOf, hips])
                  rw [this]
                  simp [pOf, hips]
                have hpi : pOf ps i ≤ 60 := pOf_le HP60.out i
                have hst1 := HST.out (i + 1)
                rw [HSS.out i hips, show ps[i] = pOf ps i by simp [pOf, hips]] at hst1
                have hss1 := HSS.out i hips
                rw [show ps[i] = pOf ps i by simp [pOf, hips]] at hss1
                obtain ⟨x, hxx⟩ : ∃ x, x = fs[i] := ⟨_, rfl⟩
                rw [← hxx] at c0 c1
                have hxo : x.ok := by rw [hxx]; exact HOK.out _ (List.getElem_mem hlt)
                have HXX := Lib.hid (show ∃ h : i < fs.length, x = fs[i] from ⟨hlt, hxx⟩)
                have hbr : b < wr.heap.size := Nat.lt_of_lt_of_le hb hinv.below.size
                have hbpr : bp < wr.heap.size := Nat.lt_of_lt_of_le hbp hinv.below.size
                clear hel help e0 e1 hxx
                go_upto_region 18 with fail
                obtain ⟨bxx, bb⟩ := box1 wr #[.int .i64 (x.f : Nat), .int .i64 (x.n : Nat)] 76
                have HI5 := Lib.hid (hinv.below' bb)
                have hfb : FbInv (wr.alloc (.cells #[.int .i64 (x.f : Nat), .int .i64 (x.n : Nat)] 76)) wr.heap.size x P' V := ⟨bxx, fun p hp e => by have := ((hinv.rows.own p hp).lt _ e).2; omega⟩
                have HFB := Lib.hid hfb
                have c2 : (wr.alloc (.cells #[.int .i64 (x.f : Nat), .int .i64 (x.n : Nat)] 76)).cell? ⟨bp, op + i, none⟩ = some (.int .i64 (pOf ps i : Nat)) := (below_cell (HI5.out.below) hbp).trans e2
                have hkx := hinv.kx.lt
                have hkh := hinv.kh.lt
                have hks := Has.lt hinv.ks
                clear hinv bxx bb c0 c1 hfb e2
                generalize wr.alloc (.cells #[.int .i64 (x.f : Nat), .int .i64 (x.n : Nat)] 76) = wf at *
                generalize wr.heap.size = bf at *
                go_wp2_with fail
                clear c2
                have HLEN := Lib.hid hlen
                have HCNT := Lib.hid hcnt
                have HSS1 := Lib.hid hss1
                clear hlen hcnt hss1
                go_loopw [15, 16, 19, 20, 21, 63] (fun gv lv _ _ _ jv wx => ∃ (j : Nat) (g lf : List (Nat × Nat)) (V : Nat → Value), jv = .int .i64 j ∧ j ≤ pOf ps i ∧ RoInv fs P' R' M' w wx w.heap.size bh bs gv lv g lf V ∧ FbInv wx bf x P' V ∧ g.length + lf.length = (ps.take i).sum + j ∧ ∀ t, t < fs.length → cnt g t + cnt lf t = if t < i then pOf ps t else if t = i then j else 0) (fun _ _ _ _ _ jv _ => pOf ps i - (intOf jv).toNat)
                case atStart => exact ⟨0, g, lf, V, rfl, Nat.zero_le _, HI5.out, HFB.out, by rw [HLEN.out]; rfl, fun t ht => by
                  rw [HCNT.out t ht]
                  by_cases g1 : t < i
                  · rw [if_pos g1, if_pos g1]
                  · rw [if_neg g1, if_neg g1]; split <;> rfl⟩
                case round =>
                  clear HI5 HFB HLEN HCNT
                  obtain ⟨j, g, lf, V, rfl, hj, hinv, hfb, hlen, hcnt⟩ := hrel
                  by_cases hjl : j < pOf ps i
                  · have k0 := hinv.kx.cell 0
                    have HIJ := Lib.hid hinv
                    have HFJ := Lib.hid hfb
                    have HLEN := Lib.hid hlen
                    have HCNT := Lib.hid hcnt
                    clear hinv hfb hlen hcnt
                    go_upto_region 22 with fail
                    clear k0
                    go_loopw [19, 20, 21, 67] (fun bv _ _ qv wy => ∃ q : Nat, qv = .int .i64 q ∧ q ≤ P' ∧ Below wr.heap.size wr wy ∧ (bv = .int .i64 (-1) ∨ ∃ b : Nat, bv = .int .i64 b ∧ b < q ∧ fitsB fs g x R' M' b = true)) (fun _ _ _ qv _ => P' - (intOf qv).toNat)
                    case atStart => exact ⟨0, rfl, Nat.zero_le _, Below.refl _ _, .inl rfl⟩
                    case round =>
                      obtain ⟨q, rfl, hq, hby, hbv⟩ := hrel
                      by_cases hql : q < P'
                      · have hinv := HIJ.out.below' hby
                        have hff := HFJ.out.hf.below hby HFJ.out.hf.lt
                        have hload : loadN fs g (q + 1) ≤ 400 := Nat.le_trans (hinv.load _) hM
                        have hqr : q < ((List.range P').map fun p => ((loadN fs g (p + 1) : Nat) : Int)).length := by simpa using hql
                        have d0 := (hinv.ks.cells q hqr).1
                        simp only [List.getElem_map, List.getElem_range] at d0
                        have d1 := hff.cell 1
                        have d2 := hinv.kx.cell 2
                        have d3 := hinv.kh.cell q
                        have d3' : ((List.range P').map V).toArray[q]? = some (V q) := by simp [hql]
                        rw [d3'] at d3
                        obtain ⟨va, vc, hvq⟩ := owns_slice (hinv.rows.own q hql)
                        have hfq : FormsAt wr (V q) (hasL fs g (q + 1)) := form_slice (hinv.rows.own q hql)
                        rw [hvq] at d3 hfq
                        have hhl : (hasL fs g (q + 1)).length ≤ 1000000 := by
                          have h1 := hasL_length fs g (q + 1)
                          have h2 := HLEN.out
                          have h3 := HST.out i
                          omega
                        have hhok : ∀ y ∈ hasL fs g (q + 1), y.ok := fun y hy => by
                          obtain ⟨d, hd, rfl⟩ := List.mem_map.1 hy
                          obtain ⟨hd1, _⟩ := List.mem_filter.1 hd
                          obtain ⟨k, hk, rfl⟩ := List.getElem_of_mem hd1
                          have := (hinv.right k hk).f
                          rw [fOf_at this]
                          exact HOK.out _ (List.getElem_mem this)
                        have hcl : ClosAt wr bf w.heap.size x (P' : Nat) (M := (M' : Nat)) (R := (R' : Nat)) := ⟨hff, hinv.kx⟩
                        have HCT := Lib.hid (fun W (hW : Below wr.heap.size wr W) => contains_any (.slice va (hasL fs g (q + 1)).length vc) (hasL fs g (q + 1)) x (P' : Nat) R' (M' : Nat) bf w.heap.size hxo hhok hR hhl W (hfq.below hW) (hcl.below hW))
                        have hw1 := hff.lt
                        have hw2 := hinv.kx.lt
                        have hw3 := hinv.kh.lt
                        have hw4 := Has.lt hinv.ks
                        have HKS := Lib.hid (fun W (hW : Below wr.heap.size wr W) => (⟨(below_cell hW hw4).trans d0, (below_cell hW hw1).trans d1, (below_cell hW hw2).trans d2, (below_cell hW hw3).trans d3⟩ :
                          W.cell? ⟨bs, q, none⟩ = some (.int .i64 (loadN fs g (q + 1) : Nat)) ∧ W.cell? ⟨bf, 1, none⟩ = some (.int .i64 (x.n : Nat)) ∧ W.cell? ⟨w.heap.size, 2, none⟩ = some (.int .i64 (M' : Nat)) ∧ W.cell? ⟨bh, q, none⟩ = some (.slice va (hasL fs g (q + 1)).length vc)))
                        have hfd : fitsB fs g x R' M' q = (decide (loadN fs g (q + 1) + x.n ≤ M') && !((hasL fs g (q + 1)).any fun y => !apartB y x R')) := rfl
                        obtain ⟨x1, x2, x3⟩ := hxo
                        have s0 : IntKind.i64.wrap (((loadN fs g (q + 1) : Nat) : Int) + ((x.n : Nat) : Int)) = ((loadN fs g (q + 1) : Nat) : Int) + ((x.n : Nat) : Int) := IntWalk.i64_in _ (by omega)
                        have s4 : IntKind.i64.wrap (q : Int) = (q : Int) := IntWalk.i64_in _ (by omega)
                        have HBY := Lib.hid hby
                        have HBV := Lib.hid hbv
                        have HIY := Lib.hid hinv
                        have HLQ : ∀ b, b < P' → ∃ n : Nat, ((List.range P').map fun p => ((loadN fs g (p + 1) : Nat) : Int))[b]? = some (n : Int) ∧ wr.cell? ⟨bs, b, none⟩ = some (.int .i64 (n : Nat)) := fun b hb => ⟨loadN fs g (b + 1), by simp [hb], by
                          have hbr : b < ((List.range P').map fun p => ((loadN fs g (p + 1) : Nat) : Int)).length := by simpa using hb
                          have := (hinv.ks.cells b hbr).1
                          simpa using this⟩
                        have HLQ2 := Lib.hid HLQ
                        clear hinv hff hfq hhok hcl d3' hby hbv HLQ
                        generalize hld : loadN fs g (q + 1) = ld at *
                        generalize hhs : hasL fs g (q + 1) = hs at *
                        have HFD := Lib.hid hfd
                        clear hfd hld hhs
                        go_upto_region 24 with fail
                        go_cut [21] (fun u wx => u = .bool (fitsB fs g x R' M' q) ∧ Below wr.heap.size wr wx)
                        case first =>
                          by_cases hm : ld + x.n ≤ M'
                          · have q1 : decide (((ld : Nat) : Int) + ((x.n : Nat) : Int) ≤ ((M' : Nat) : Int)) = true := by simp; omega
                            have hm2 : decide (ld + x.n ≤ M') = true := decide_eq_true hm
                            clear hm
                            go_region_held3 (fun W => W.cell? ⟨bs, q, none⟩ = some (.int .i64 (ld : Nat)) ∧ W.cell? ⟨bf, 1, none⟩ = some (.int .i64 (x.n : Nat)) ∧ W.cell? ⟨w.heap.size, 2, none⟩ = some (.int .i64 (M' : Nat)) ∧ W.cell? ⟨bh, q, none⟩ = some (.slice va hs.length vc))
                              (first | exact HKS.out _ hB | exact HKS.out _ (Below.refl _ _).drew)
                              (first | (go_at_call 49; refine (HCT.out _ (Below.refl _ _).drew).mono ?_; rintro e w' ⟨rfl, hb⟩; have hB := below_up' (Below.refl wr.heap.size wr).drew hb))
                            go_wp2
                            go_meet
                            exact ⟨by rw [HFD.out, hm2]; rfl, hB⟩
                          · have q1 : decide (((ld : Nat) : Int) + ((x.n : Nat) : Int) ≤ ((M' : Nat) : Int)) = false := by simp; omega
                            have hm2 : decide (ld + x.n ≤ M') = false := decide_eq_false hm
                            clear hm
                            go_quiet (fail)
                            go_wp2
                            go_meet
                            exact ⟨by rw [HFD.out, hm2]; rfl, drewN_below (Below.refl _ _) _⟩
                        case rest =>
                          obtain ⟨rfl, hbw⟩ := hcut
                          have HBW := Lib.hid (below_up' HBY.out hbw)
                          have hq6 : q ≤ 60 := by omega
                          cases hfv : fitsB fs g x R' M' q with
                          | false =>
                            clear hfv hbw d0 d1 d2 d3
                            go_upto_region 25 with fail
                            go_quiet (fail)
                            go_wp2
                            go_roundw
                            case rel => exact ⟨q + 1, by go_num, by omega, drewN_below HBW.out _, HBV.out.imp id fun ⟨b, h1, h2, h3⟩ => ⟨b, h1, by omega, h3⟩⟩
                            case measure => simp [intOf]; omega
                          | true =>
                            have HFV := Lib.hid hfv
                            clear hfv
                            rcases HBV.out with rfl | ⟨b, rfl, hbq, hfb⟩
                            · clear hbw d0 d1 d2 d3
                              go_upto_region 25 with fail
                              go_quiet (fail)
                              go_wp2
                              go_roundw
                              case rel => exact ⟨q + 1, by go_num, by omega, drewN_below HBW.out _, .inr ⟨q, rfl, by omega, HFV.out⟩⟩
                              case measure => simp [intOf]; omega
                            · obtain ⟨n, _, hn⟩ := HLQ2.out b (by omega)
                              have e0 := (below_cell hbw hw4).trans d0
                              have e1 := (below_cell hbw hw4).trans hn
                              have hbP : b < P' := by omega
                              have sb : IntKind.i64.wrap (b : Int) = (b : Int) := IntWalk.i64_in _ (by omega)
                              have HFB2 := Lib.hid hfb
                              clear hbw d0 d1 d2 d3 hn hfb
                              by_cases hlt2 : ld < n
                              · have q2 : decide (((ld : Nat) : Int) < ((n : Nat) : Int)) = true := by simp; omega
                                have hb0 : (0 : Int) ≤ (b : Int) := by omega
                                go_upto_region 25 with fail
                                go_quiet (fail)
                                go_wp2
                                go_roundw
                                case rel => exact ⟨q + 1, by go_num, by omega, drewN_below HBW.out _, .inr ⟨q, rfl, by omega, HFV.out⟩⟩
                                case measure => simp [intOf]; omega
                              · have q2 : decide (((ld : Nat) : Int) < ((n : Nat) : Int)) = false := by simp; omega
                                have hb0 : (0 : Int) ≤ (b : Int) := by omega
                                go_upto_region 25 with fail
                                go_quiet (fail)
                                go_wp2
                                go_roundw
                                case rel => exact ⟨q + 1, by go_num, by omega, drewN_below HBW.out _, .inr ⟨b, rfl, by omega, HFB2.out⟩⟩
                                case measure => simp [intOf]; omega
                      · obtain rfl : P' = q := by omega
                        have hinv := HIJ.out.below' hby
                        have hfb : FbInv wr bf x P' V := ⟨HFJ.out.hf.below hby HFJ.out.hf.lt, HFJ.out.nb⟩
                        have hll : lf.length ≤ 2000 ∧ g.length ≤ 2000 := by
                          have h2 := HLEN.out
                          constructor <;> omega
                        obtain ⟨hll, hgl⟩ := hll
                        have hBw := hinv.below.size
                        have HIY := Lib.hid hinv
                        have HFY := Lib.hid hfb
                        rcases hbv with rfl | ⟨b, rfl, hbq, hfit⟩
                        · have hlo := hinv.lown
                          clear hinv hfb hby
                          go_wp2_with (at_builtin; go_must (refine append_two rfl _ _ 52 rfl w.heap.size 60 (.agg #[.int .i64 0, .int .i64 0]) 2 16 Tryd.underlying52 infoDuty rfl (by decide) w wr _ _ _ rfl hlo _ rfl [.int .i64 (i : Nat), .int .i64 0] rfl rfl rfl (by simp [Value.oneCell']) (by omega) (by omega) hBw HIY.out.below ?_); intro v' w6 ho hb6 hg6 hf6 hv6)
                          have hnew := HIY.out.toRoM.addLeft ho hb6 hg6 hf6
                          have HNEW := Lib.hid (show RoInv fs P' R' M' w w6 w.heap.size bh bs _ v' g (lf ++ [(i, 0)]) V from ⟨hnew, HIY.out.right, HIY.out.load, fun d hd => by
                            rw [List.mem_append, List.mem_singleton] at hd
                            rcases hd with hd | rfl
                            · exact HIY.out.lff d hd
                            · exact hlt⟩)
                          have HFN := Lib.hid (show FbInv w6 bf x P' V from ⟨HFY.out.hf.kept_own HIY.out.lown (by decide) hg6, HFY.out.nb⟩)
                          clear ho hb6 hg6 hf6 hnew hlo
                          go_roundw
                          case rel => exact ⟨j + 1, g, lf ++ [(i, 0)], V, by go_num, by omega, HNEW.out, HFN.out, by have := HLEN.out; simp; omega, fun t ht => by
                            rw [cnt_snoc, ← Nat.add_assoc, HCNT.out t ht]
                            by_cases g1 : t < i
                            · rw [if_pos g1, if_pos g1, if_neg (by omega), Nat.add_zero]
                            · rw [if_neg g1, if_neg g1]
                              by_cases g2 : t = i
                              · rw [if_pos g2, if_pos g2, if_pos g2.symm]
                              · rw [if_neg g2, if_neg g2, if_neg (fun e => g2 e.symm), Nat.add_zero]⟩
                          case measure => simp [intOf]; omega
                        · have hbP : b < P' := by omega
                          have hfx : fOf fs i = x := by obtain ⟨h1, h2⟩ := HXX.out; rw [fOf_at h1, h2]
                          obtain ⟨va, vc, hvb⟩ := owns_slice (hinv.rows.own b hbP)
                          have d3 := hinv.kh.cell b
                          rw [show ((List.range P').map V).toArray[b]? = some (V b) by simp [hbP], hvb] at d3
                          have d4 := hinv.kh.fz b
                          have d0 := hfb.hf.cell 0
                          have d1 := hfb.hf.cell 1
                          have hw1 := hfb.hf.lt
                          have hw3 := hinv.kh.lt
                          have hn1 : (V b).ownBlock ≠ some bh := own_ne_has (hinv.rows.own b hbP) hinv.kh (by decide)
                          have hn2 := hfb.nb b hbP
                          have hhl : (hasL fs g (b + 1)).length ≤ 2000 := Nat.le_trans (hasL_length _ _ _) hgl
                          have HKS := Lib.hid (fun W (hW : Below wr.heap.size wr W) => (⟨(below_frozen hW hw3).trans d4, (below_cell hW hw1).trans d0, (below_cell hW hw1).trans d1⟩ :
                            W.frozen? ⟨bh, b, none⟩ = false ∧ W.cell? ⟨bf, 0, none⟩ = some (.int .i64 (x.f : Nat)) ∧ W.cell? ⟨bf, 1, none⟩ = some (.int .i64 (x.n : Nat))))
                          have HOWN := Lib.hid (fun W (hW : Below wr.heap.size wr W) => owns_below (hinv.rows.own b hbP) hW)
                          rw [hvb] at HOWN hn1 hn2
                          have HKG := Lib.hid (fun W w6 (hW : Below wr.heap.size wr W) (hg : W.grownBy w6 (Value.slice va (hasL fs g (b + 1)).length vc).ownBlock) => (⟨(hg.frozen_far ⟨bh, b, none⟩ (Nat.lt_of_lt_of_le hw3 hW.size) (Ne.symm hn1)).trans ((below_frozen hW hw3).trans d4),
                            (hg.cell_far ⟨bh, b, none⟩ (Nat.lt_of_lt_of_le hw3 hW.size) (Ne.symm hn1)).trans ((below_cell hW hw3).trans d3)⟩ :
                            w6.frozen? ⟨bh, b, none⟩ = false ∧ w6.cell? ⟨bh, b, none⟩ = some (.slice va (hasL fs g (b + 1)).length vc)))
                          have hbal : Below wr.heap.size wr (wr.drew.alloc (.cells #[.int .i64 (x.f : Nat), .int .i64 (x.n : Nat)] 76)) := (Below.refl _ _).drew.alloc (by simp) _
                          have d5 := (below_cell hbal hw3).trans d3
                          have HBAL := Lib.hid hbal
                          clear hbal
                          obtain ⟨i0, hi0, hz0, hz1, hz2⟩ := info_parts infoForm
                          have HVB := Lib.hid hvb
                          have HFX := Lib.hid hfx
                          have HFIT := Lib.hid hfit
                          have hb0 : (0 : Int) ≤ (b : Int) := by omega
                          have sb : IntKind.i64.wrap (b : Int) = (b : Int) := IntWalk.i64_in _ (by omega)
                          clear hinv hfb hby hvb hfx hn1 hn2 hfit
                          go_upto_region 30 with fail
                          go_cut [13] (fun u wx => u = .slice (some ⟨bh, 0, none⟩) P' P' ∧ ∃ v', RoM fs P' R' M' w wx w.heap.size bh bs u15 u16 (g ++ [(i, b + 1)]) g g lf (updV V b v') ∧ FbInv wx bf x P' (updV V b v'))
                          case first =>
                            go_region_law ((refine step_append_lies _ (by rfl) _ _ _ (by rfl) w.heap.size 76 i0 (.agg #[.int .i64 0, .int .i64 0]) 2 16 Tryd.underlying33 hi0 hz0 hz1 hz2 rfl (by omega) _ _ _ (by rfl) (HOWN.out _ HBAL.out) ⟨wr.heap.size, 0, none⟩ 1 1 [.int .i64 (x.f : Nat), .int .i64 (x.n : Nat)] (by rfl) rfl (World.news_of_block (heap_alloc_new _ _)) (by simp [Value.oneCell']) (by omega) (by unfold maxLen; omega) (by omega) (by simp; omega) (wr.heap.size + 1) (by simp) ?_; intro g' c' w6 hown1 hgrow hat hlt'; have z1 := (HKG.out _ w6 HBAL.out hgrow).1; have z2 := (HKG.out _ w6 HBAL.out hgrow).2))
                            all_goals go_wp2
                            all_goals go_meet
                            all_goals
                              obtain ⟨v', rfl, hm, hfb⟩ := addRow_all HIY.out.toRoM HFY.out HFX.out hbP HVB.out HBAL.out hown1 hgrow hat
                              exact ⟨rfl, _, hm, hfb⟩
                          case rest =>
                            obtain ⟨rfl, v', hm, hfb⟩ := hcut
                            have hbr : b < ((List.range P').map fun p => ((loadN fs g (p + 1) : Nat) : Int)).length := by simpa using hbP
                            obtain ⟨e0, e1⟩ := hm.ks.cells b hbr
                            simp only [List.getElem_map, List.getElem_range] at e0
                            have e2 := hfb.hf.cell 1
                            have hload : loadN fs g (b + 1) ≤ 400 := Nat.le_trans (HIY.out.load _) hM
                            obtain ⟨x1, x2, x3⟩ := hxo
                            have s0 : IntKind.i64.wrap (((loadN fs g (b + 1) : Nat) : Int) + ((x.n : Nat) : Int)) = ((loadN fs g (b + 1) : Nat) : Int) + ((x.n : Nat) : Int) := IntWalk.i64_in _ (by omega)
                            have hm2 := hm.addSlots (i := i) hbP (u := ((loadN fs g (b + 1) : Nat) : Int) + ((x.n : Nat) : Int)) (by rw [HFX.out]) (has_ne hm.ks hm.kx (by decide)) (has_ne hm.ks hm.kh (by decide))
                            have hfb2 : FbInv (wc.setCell ⟨bs, b, none⟩ (.int .i64 (((loadN fs g (b + 1) : Nat) : Int) + ((x.n : Nat) : Int)))) bf x P' (updV V b v') := ⟨hfb.hf.set_other _ _ (has_ne hfb.hf hm.ks (by decide)), hfb.nb⟩
                            have HM2 := Lib.hid hm2
                            have HFB2 := Lib.hid hfb2
                            clear hm hfb hm2 hfb2 d0 d1 d3 d4 d5
                            generalize loadN fs g (b + 1) = ld at *
                            go_upto_region 31 with fail
                            go_cut [14] (fun u wx => u = .slice (some ⟨bs, 0, none⟩) P' P' ∧ RoM fs P' R' M' w wx w.heap.size bh bs u15 u16 (g ++ [(i, b + 1)]) (g ++ [(i, b + 1)]) g lf (updV V b v') ∧ FbInv wx bf x P' (updV V b v'))
                            case first =>
                              go_region
                              all_goals go_wp2
                              all_goals go_meet
                              all_goals exact ⟨rfl, HM2.out.below' (Below.refl _ _).drew, ⟨HFB2.out.hf.below (Below.refl _ _).drew HFB2.out.hf.lt, HFB2.out.nb⟩⟩
                            case rest =>
                              obtain ⟨rfl, hm3, hfb3⟩ := hcut
                              have hgo := hm3.gown
                              have hB3 := hm3.below.size
                              have HM3 := Lib.hid hm3
                              have HFB3 := Lib.hid hfb3
                              clear hm3 hfb3 e0 e1 e2
                              go_wp2_with (at_builtin; go_must (refine append_two rfl _ _ 52 rfl w.heap.size 60 (.agg #[.int .i64 0, .int .i64 0]) 2 16 Tryd.underlying52 infoDuty rfl (by decide) w wc _ _ _ rfl hgo _ rfl [.int .i64 (i : Nat), .int .i64 ((b : Int) + 1)] rfl rfl rfl (by simp [Value.oneCell']) (by omega) (by omega) hB3 HM3.out.below ?_); intro v6 w6 ho hb6 hg6 hf6 hv6)
                              have hnew := HM3.out.addGiven (i := i) (q := b + 1) (by simpa using ho) hb6 hg6 hf6
                              have HNEW := Lib.hid (show RoInv fs P' R' M' w w6 w.heap.size bh bs v6 _ (g ++ [(i, b + 1)]) lf (updV V b v') from ⟨hnew, HIY.out.right.snoc (by
                                  obtain ⟨h1, h2⟩ := HXX.out
                                  have := HFIT.out
                                  rw [h2] at this
                                  exact fitsB_ok h1 hbP this), fun p => by
                                  rw [loadN_snoc]
                                  by_cases e : b + 1 = p
                                  · rw [if_pos e, ← e, HFX.out]
                                    have := HFIT.out
                                    unfold fitsB at this
                                    rw [Bool.and_eq_true, decide_eq_true_eq] at this
                                    exact this.1
                                  · rw [if_neg e]
                                    exact HIY.out.load p, HIY.out.lff⟩)
                              have HFN := Lib.hid (show FbInv w6 bf x P' (updV V b v') from ⟨HFB3.out.hf.kept_own HM3.out.gown (by decide) hg6, HFB3.out.nb⟩)
                              clear ho hb6 hg6 hf6 hnew hgo
                              go_roundw
                              case rel => exact ⟨j + 1, g ++ [(i, b + 1)], lf, _, by go_num, by omega, HNEW.out, HFN.out, by have := HLEN.out; simp; omega, fun t ht => by
                                have hc := HCNT.out t ht
                                rw [cnt_snoc]
                                by_cases g1 : t < i
                                · rw [if_pos g1] at hc ⊢
                                  rw [if_neg (by omega)]
                                  omega
                                · rw [if_neg g1] at hc ⊢
                                  by_cases g2 : t = i
                                  · rw [if_pos g2] at hc ⊢
                                    rw [if_pos g2.symm]
                                    omega
                                  · rw [if_neg g2] at hc ⊢
                                    rw [if_neg (fun e => g2 e.symm)]
                                    omega⟩
                              case measure => simp [intOf]; omega
                  · obtain rfl : j = pOf ps i := by omega
                    have HI6 := Lib.hid hinv
                    have HCNT := Lib.hid hcnt
                    clear hinv hcnt hfb
                    go_wp2_with fail
                    go_roundw
                    case rel => exact ⟨i + 1, g, lf, V, by go_num, by omega, HI6.out, by rw [hlen, HSS1.out], fun t ht => by
                      rw [HCNT.out t ht]
                      by_cases g1 : t < i
                      · rw [if_pos g1, if_pos (by omega)]
                      · rw [if_neg g1]
                        by_cases g2 : t = i
                        · rw [if_pos g2, if_pos (by omega), g2]
                        · rw [if_neg g2, if_neg (by omega)]⟩
                    case measure => simp [intOf]; omega
              · obtain rfl : i = fs.length := by omega
                have HI6 := Lib.hid hinv
                have HCNT := Lib.hid hcnt
                have hst := HST.out fs.length
                obtain ⟨ga, gc, hgv⟩ := owns_slice hinv.gown
                obtain ⟨la, lc, hlv⟩ := owns_slice hinv.lown
                clear hinv hcnt
                subst hgv hlv
                go_wp2_with fail
                go_ret3
                exact ⟨_, _, _, _, _, _, _, rfl, HI6.out.below, .inr ⟨rfl, fs, ps, g, lf, P', R', M', rfl, rfl, rfl, hP, hR, hM, HFE.out, rfl, hl60, HOK.out, rfl, HPL.out, HP60.out, by omega, rfl, rfl, duty_slice HI6.out.gown, duty_slice HI6.out.lown, HI6.out.right, HI6.out.lff, fun t ht => by rw [HCNT.out t ht, if_pos ht]⟩⟩
    · have hq0 : (code == 0) = false := by simpa using hc0
      have hq1 : (code != 0) = true := by simpa using hc0
      have HC0 := Lib.hid hc0
      clear hc0
      go_wp2_with fail
      go_ret3
      refine ⟨_, _, _, _, _, _, _, rfl, HB3.out, .inl ⟨HC0.out, rfl, rfl, fun z1 z2 z3 => ?_⟩⟩
      have := HCO.out
      rw [HC1.out, HC2.out, HC3.out, z1, z2, z3, orI3, if_pos rfl, if_pos rfl] at this
      exact absurd this.symm HC0.out

end Go.Proofs.YtfoehmieklldkaaDoor
