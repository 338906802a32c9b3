/- The walk of read: a ratio out of two numerals. -/
import Derived.Test.YtfoehmieklldkaaDoorRatA
import Derived.Test.YtfoehmieklldkaaDoorGrows
namespace Go.Proofs.YtfoehmieklldkaaDoor
open Go.RowKit

structure RatOk (s t : List UInt8) : Prop where
  ls : s.length ≤ 20000
  lt : t.length ≤ 20000
  ns : numB s = true
  nt : numB t = true
  pos : 0 < decV t
  cop : Nat.Coprime (decV s) (decV t)
def RdPost (s t : List UInt8) (w : World) (e : Ending) (w' : World) : Prop :=
  ∃ a1 l1 c1 a2 l2 c2 code, e = .returned (.tuple #[.agg #[.slice a1 l1 c1, .slice a2 l2 c2], .int .i64 code]) ∧ Below w.heap.size w w' ∧
    ((code ≠ 0 ∧ ¬ RatOk s t) ∨ (code = 0 ∧ RatOk s t ∧ NatAt w' (.slice a1 l1 c1) (decV s) 2300 ∧ NatAt w' (.slice a2 l2 c2) (decV t) 2300))
/-- the numeral 0 -/
theorem num_zero {t : List UInt8} (h : numB t = true) (h0 : decV t = 0) : t = [48] := by
  obtain ⟨h1, h2, h3⟩ := numB_iff.1 h
  have := digits_decV t h1 h2 h3
  rw [h0, decDigits_small (by omega)] at this
  exact this.symm
theorem numE_zero {l : List UInt8} : numE l = 0 ↔ numB l = true := by
  unfold numE
  by_cases h : numB l = true <;> simp [h]

theorem ints2_drew (w : World) (a b : Int) (t : TypeId) : SliceAt 1 intR (w.alloc (.cells #[.int .i64 a, .int .i64 b] t)).drew (.slice (some ⟨w.heap.size, 0, none⟩) 2 2) [a, b] :=
  SliceAt.stable intR_stable (ints2_at w a b t) (Below.refl _ _).drew
theorem new_drew (w : World) (cs : Array Value) (t : TypeId) : Has (w.alloc (.cells cs t)).drew w.heap.size cs t := Has.new w cs t
/-- a ratio of two numbers in a new block -/
def OutAt (n d : Nat) (w : World) (u : Value) (wx : World) : Prop :=
  ∃ B a1 l1 c1 a2 l2 c2, u = .pointer (some ⟨B, 0, none⟩) ∧ Has wx B #[.slice a1 l1 c1, .slice a2 l2 c2] 82 ∧ NatAt wx (.slice a1 l1 c1) n 2300 ∧ NatAt wx (.slice a2 l2 c2) d 2300 ∧ Below w.heap.size w wx

set_option maxRecDepth 100000 in
set_option maxHeartbeats 4000000 in
theorem read_any (s t : List UInt8) (w : World) (hE : Env w) :
    Calls Tryd.prog 48 #[.agg #[.string (bs s), .string (bs t)]] w (RdPost s t w) := by
  have hbx := box2 w #[.string (bs s), .string (bs t)] #[.slice none 0 0, .slice none 0 0] 44 82
  have hss : (bs s).size = s.length := bs_size s
  have hts : (bs t).size = t.length := bs_size t
  have hsd : (bs s).data.toList = s := bs_data s
  have htd : (bs t).data.toList = t := bs_data t
  have HCS := Lib.hid (fun W h => checkDigits_any (bs s) W h)
  have HCT := Lib.hid (fun W h => checkDigits_any (bs t) W h)
  have HRS := Lib.hid (fun W h1 h2 => readNat_any s 2300 W h1 h2 (by omega) (by omega))
  have HRT := Lib.hid (fun W h1 h2 => readNat_any t 2300 W h1 h2 (by omega) (by omega))
  rw [hsd] at HCS
  rw [htd] at HCT
  have HTL : Hid ((bs t).toList = t) := Lib.hid (by rw [Lib.toList_data, htd])
  generalize bs s = zs at *
  generalize bs t = zt at *
  have HSS := Lib.hid hss
  have HTS := Lib.hid hts
  have HE := Lib.hid hE
  clear hss hts hsd htd hE
  go_enter Tryd.func48, Tryd.ntmps48
  go_upto_region 1 with fail
  generalize (w.alloc (.cells #[.string zs, .string zt] 44)).alloc (.cells #[.slice none 0 0, .slice none 0 0] 82) = w2 at *
  obtain ⟨hx, hy, hbl⟩ := hbx
  have HX := Lib.hid hx
  have HY := Lib.hid hy
  have HB2 := Lib.hid hbl
  have k0 := hx.cell 0
  have k1 := hx.cell 1
  have g0 := hy.cell 0
  have g1 := hy.cell 1
  have f0 := hy.fz 0
  have f1 := hy.fz 1
  clear hx hy hbl
  by_cases hx2 : 20000 < zs.size
  · have r1 : decide ((20000 : Int) < (zs.size : Int)) = true := by simp; omega
    have hno : ¬ RatOk s t := fun h => by have := h.ls; have := HSS.out; omega
    have HNO := Lib.hid hno
    clear hno hx2
    go_wp2_with fail
    refine bodyPost_ret (results_cell_tmp_row rfl _ _ (w.heap.size + 1) _ _ (0, 0) _ rfl (has_set2 HY.out) Tryd.underlying82 rfl infoRatio) rfl ?_
    exact ⟨_, _, _, _, _, _, _, rfl, below_set2 HB2.out (by omega), .inl ⟨by decide, HNO.out⟩⟩
  · have r1 : decide ((20000 : Int) < (zs.size : Int)) = false := by simp; omega
    by_cases hy2 : 20000 < zt.size
    · have r2 : decide ((20000 : Int) < (zt.size : Int)) = true := by simp; omega
      have hno : ¬ RatOk s t := fun h => by have := h.lt; have := HTS.out; omega
      have HNO := Lib.hid hno
      clear hno hx2 hy2
      go_wp2_with fail
      refine bodyPost_ret (results_cell_tmp_row rfl _ _ (w.heap.size + 1) _ _ (0, 0) _ rfl (has_set2 HY.out) Tryd.underlying82 rfl infoRatio) rfl ?_
      exact ⟨_, _, _, _, _, _, _, rfl, below_set2 HB2.out (by omega), .inl ⟨by decide, HNO.out⟩⟩
    · have r2 : decide ((20000 : Int) < (zt.size : Int)) = false := by simp; omega
      have hls : s.length ≤ 20000 := by have := HSS.out; omega
      have hlt : t.length ≤ 20000 := by have := HTS.out; omega
      have hzs : zs.size ≤ 1000000 := by omega
      have hzt : zt.size ≤ 1000000 := by omega
      obtain ⟨es, hes⟩ : ∃ es, es = numE s := ⟨_, rfl⟩
      obtain ⟨et, het⟩ : ∃ et, et = numE t := ⟨_, rfl⟩
      rw [← hes] at HCS
      rw [← het] at HCT
      have HES := Lib.hid hes
      have HET := Lib.hid het
      have HKS := Lib.hid (fun W (hW : Below w2.heap.size w2 W) => has_cells HX.out hW)
      clear hx2 hy2 hes het
      go_upto_region 3 with fail
      clear r1 r2
      go_cut [4] (fun u wx => u = .int .i64 (orI [es, et]) ∧ Below w2.heap.size w2 wx)
      case first =>
        go_region_held3 (fun W => W.cell? ⟨w.heap.size, 0, none⟩ = some (.string zs) ∧ W.cell? ⟨w.heap.size, 1, none⟩ = some (.string zt))
          (first | exact HKS.out _ hB | exact HKS.out _ ((Below.refl w2.heap.size w2).alloc (Nat.le_refl _) _).drew | exact HKS.out _ (Below.refl _ _).drew)
          (first
            | (go_at_call 30; have hg := hn2; refine (or_any _ [es, et] _ (ints2_drew _ _ _ _) (by simp)).mono ?_; rintro e w' ⟨rfl, rfl⟩; have hB := ((Below.refl w2.heap.size w2).alloc (Nat.le_refl _) (.cells #[.int .i64 es, .int .i64 et] 27)).drew)
            | (go_at_call 70; have hg := hn1; refine (HCT.out _ hzt).mono ?_; rintro e w' ⟨rfl, rfl⟩; have hn2 := True.intro)
            | (go_at_call 70; refine (HCS.out _ hzs).mono ?_; rintro e w' ⟨rfl, rfl⟩; have hB := (Below.refl w2.heap.size w2).drew; have hn1 := True.intro))
        go_wp2
        go_meet
        exact ⟨rfl, hB⟩
      case rest =>
        obtain ⟨rfl, hb3⟩ := hcut
        have HB3 := Lib.hid hb3
        have hyc := HY.out.below hb3 HY.out.lt
        have HYC := Lib.hid hyc
        have hwb := below_up HB2.out hb3 HB2.out.size
        have HWB := Lib.hid hwb
        clear g0 g1 f0 f1
        have g0 := hyc.cell 0
        have g1 := hyc.cell 1
        have f0 := hyc.fz 0
        have f1 := hyc.fz 1
        have k0 := (HKS.out _ hb3).1
        have k1 := (HKS.out _ hb3).2
        clear hb3 hyc hwb
        by_cases hc0 : orI [es, et] = 0
        · rw [hc0]
          have hes0 : es = 0 := by
            rw [orI2] at hc0
            by_cases g : es = 0
            · exact g
            · rw [if_neg g] at hc0; exact hc0
          have het0 : et = 0 := by
            rw [orI2, if_pos hes0] at hc0
            exact hc0
          have hns := numE_zero.1 (HES.out.symm.trans hes0)
          have hnt := numE_zero.1 (HET.out.symm.trans het0)
          have HNS := Lib.hid hns
          have HNT := Lib.hid hnt
          clear hc0 hes0 het0 hns hnt
          by_cases h48 : t = [48]
          · have r1 : (zt.toList == [48]) = true := by rw [HTL.out, h48]; rfl
            have hno : ¬ RatOk s t := fun h => by
              have h1 := h.pos
              rw [h48] at h1
              simp [decV, digN] at h1
            have HNO := Lib.hid hno
            clear h48 hno
            go_wp2_with fail
            refine bodyPost_ret (results_cell_tmp_row rfl _ _ (w.heap.size + 1) _ _ (0, 0) _ rfl (has_set2 HYC.out) Tryd.underlying82 rfl infoRatio) rfl ?_
            exact ⟨_, _, _, _, _, _, _, rfl, below_set2 HWB.out (by omega), .inl ⟨by decide, HNO.out⟩⟩
          · have r1 : (zt.toList == [48]) = false := by rw [HTL.out]; simpa using h48
            have hpos : 0 < decV t := by
              by_cases h0 : decV t = 0
              · exact absurd (num_zero HNT.out h0) h48
              · omega
            have HPOS := Lib.hid hpos
            have HRS2 := Lib.hid (fun W => HRS.out W (numB_iff.1 HNS.out).1 (by omega))
            have HRT2 := Lib.hid (fun W => HRT.out W (numB_iff.1 HNT.out).1 (by omega))
            have HKC := Lib.hid (fun W (hW : Below wc.heap.size wc W) => (⟨(below_cell hW (Nat.lt_of_lt_of_le HX.out.lt HB3.out.size)).trans k0, (below_cell hW (Nat.lt_of_lt_of_le HX.out.lt HB3.out.size)).trans k1⟩ : W.cell? ⟨w.heap.size, 0, none⟩ = some (.string zs) ∧ W.cell? ⟨w.heap.size, 1, none⟩ = some (.string zt)))
            clear h48 hpos
            go_upto_region 8 with fail
            clear r1
            go_cut [5] (OutAt (decV s) (decV t) wc)
            case first =>
              go_region_held3 (fun W => W.cell? ⟨w.heap.size, 0, none⟩ = some (.string zs) ∧ W.cell? ⟨w.heap.size, 1, none⟩ = some (.string zt))
                (first | exact HKC.out _ hB | exact HKC.out _ (hB.alloc hB.size _) | exact HKC.out _ (Below.refl _ _).drew | exact HKC.out _ ((Below.refl wc.heap.size wc).alloc (Nat.le_refl _) _).drew | exact HKC.out _ (below_set2 hB hle) | exact HKC.out _ (below_set2 (hB.alloc hB.size _) hB.size) | exact HKC.out _ ((below_set2 hB hle).alloc (by simp) _))
                (first
                  | (go_at_call 71; have hg := hn1; refine (HRT2.out _).mono ?_; rintro e w' ⟨a2, l2, c2, rfl, hm2, hb2⟩; have hn2 := True.intro; have hm1 := hm1.below (by first | exact hb2 | exact ((Below.refl _ _).alloc (Nat.le_refl _) _).trans (hb2.mono (by simp))); (first | (have hh := (Has.new _ #[.slice none 0 0, .slice none 0 0] 82).below hb2 (by simp); have hle := hB.size; have o0 := hh.cell 0; have o1 := hh.cell 1; have o2 := hh.fz 0; have o3 := hh.fz 1; have HH := Lib.hid hh; clear hh; have hB := below_up' (hB.alloc hB.size _) hb2) | (have hh := HH1.out.below hb2 HH1.out.lt; have hle := Nat.le_refl wc.heap.size; have o0 := hh.cell 0; have o1 := hh.cell 1; have o2 := hh.fz 0; have o3 := hh.fz 1; have HH := Lib.hid hh; clear hh; have hB := below_up' hB hb2) | (have hB := below_up' hB hb2)))
                  | (go_at_call 71; refine (HRS2.out _).mono ?_; rintro e w' ⟨a1, l1, c1, rfl, hm1, hb1⟩; have hn1 := True.intro; (first | (have hh := (new_drew wc #[.slice none 0 0, .slice none 0 0] 82).below hb1 (by simp); have HH1 := Lib.hid hh; clear hh; have hB := below_up' (((Below.refl wc.heap.size wc).alloc (Nat.le_refl _) _).drew) hb1) | (have hB := below_up' (Below.refl wc.heap.size wc).drew hb1))))
              all_goals go_wp2
              all_goals go_meet
              all_goals first
                | exact ⟨_, _, _, _, _, _, _, rfl, Has.new _ _ _, hm1.below ((Below.refl _ _).alloc (Nat.le_refl _) _), hm2.below ((Below.refl _ _).alloc (Nat.le_refl _) _), hB.alloc hB.size _⟩
                | (have h := store2 HH.out hm1 hm2 hB hle; exact ⟨_, _, _, _, _, _, _, rfl, has_set2 HH.out, h.1, h.2.1, h.2.2⟩)
            case rest =>
              obtain ⟨B5, a1, l1, c1, a2, l2, c2, rfl, hO, hn1, hn2, hb4⟩ := hcut
              have HN1 := Lib.hid hn1
              have HN2 := Lib.hid hn2
              have HO := Lib.hid hO
              have hyd := HYC.out.below hb4 HYC.out.lt
              have HYD := Lib.hid hyd
              have HWD := Lib.hid (below_up HWB.out hb4 HWB.out.size)
              clear g0 g1 f0 f1 k0 k1
              have o0 := hO.cell 0
              have o1 := hO.cell 1
              have HDI := Lib.hid (divisor_any _ _ (decV s) (decV t) 2300 wc hn1 hn2 (by omega))
              clear hO hn1 hn2 hb4 hyd HKC HRS2 HRT2
              go_wp2_with fail
              refine HDI.out.mono ?_
              rintro e we ⟨a3, l3, c3, rfl, hn3, hb5⟩
              have HN3 := Lib.hid hn3
              have HB5 := Lib.hid hb5
              have hone : NatAt (we.alloc (.cells #[.int .i64 1] 3)) (.slice (some ⟨we.heap.size, 0, none⟩) 1 1) 1 2300 := by
                have h1 : IntsB (we.alloc (.cells #[.int .i64 1] 3)) we.heap.size [1] := Has.new _ _ _
                refine ⟨[1], h1.slice (cap := 1) (by simp), fun d hd => ?_, fun _ => by simp, rfl, by simp⟩
                rw [List.mem_singleton] at hd
                subst hd
                exact ⟨by omega, by omega⟩
              have HCMP := Lib.hid (compare_any _ _ (Nat.gcd (decV s) (decV t)) 1 2300 _ (hn3.below ((Below.refl _ _).alloc (Nat.le_refl _) _)) hone (by omega))
              have hyf := (HYD.out.below hb5 HYD.out.lt).alloc (.cells #[.int .i64 1] 3)
              have HYF := Lib.hid hyf
              have hof := (HO.out.below hb5 HO.out.lt).alloc (.cells #[.int .i64 1] 3)
              have HOF := Lib.hid hof
              have HWF := Lib.hid ((below_up HWD.out hb5 HWD.out.size).alloc (Nat.le_trans HWD.out.size hb5.size) (.cells #[.int .i64 1] 3))
              have HN1F := Lib.hid ((HN1.out.below hb5).below ((Below.refl _ _).alloc (Nat.le_refl _) (.cells #[.int .i64 1] 3)))
              have HN2F := Lib.hid ((HN2.out.below hb5).below ((Below.refl _ _).alloc (Nat.le_refl _) (.cells #[.int .i64 1] 3)))
              clear hn3 hone o0 o1 hyf hof
              by_cases hcop : Nat.gcd (decV s) (decV t) = 1
              · have hc1 : cmpN (Nat.gcd (decV s) (decV t)) 1 = 0 := by rw [hcop]; rfl
                rw [hc1] at HCMP
                have hok : RatOk s t := ⟨hls, hlt, HNS.out, HNT.out, HPOS.out, hcop⟩
                have HOK := Lib.hid hok
                clear hcop hc1 hok
                clear hb5
                go_wp2_with (go_at_call 64; refine HCMP.out.mono ?_; rintro e wg ⟨rfl, qg, rfl⟩; have y0 := (HYF.out.drewN qg).cell 0; have y1 := (HYF.out.drewN qg).cell 1; have y2 := (HYF.out.drewN qg).fz 0; have y3 := (HYF.out.drewN qg).fz 1; have p0 := (HOF.out.drewN qg).cell 0; have p1 := (HOF.out.drewN qg).cell 1)
                have hst := store2 (HYF.out.drewN qg) (HN1F.out.drewN qg) (HN2F.out.drewN qg) (drewN_below HWF.out qg) (by omega)
                refine bodyPost_ret (results_cell_tmp_row rfl _ _ (w.heap.size + 1) _ _ (0, 0) _ rfl (has_set2 (HYF.out.drewN qg)) Tryd.underlying82 rfl infoRatio) rfl ?_
                exact ⟨_, _, _, _, _, _, _, rfl, hst.2.2, .inr ⟨rfl, HOK.out, hst.1, hst.2.1⟩⟩
              · have hc1 : cmpN (Nat.gcd (decV s) (decV t)) 1 ≠ 0 := by
                  unfold cmpN
                  by_cases g1 : Nat.gcd (decV s) (decV t) < 1
                  · rw [if_pos g1]; decide
                  · rw [if_neg g1, if_pos (by omega)]; decide
                obtain ⟨cn, hcn⟩ : ∃ cn, cn = cmpN (Nat.gcd (decV s) (decV t)) 1 := ⟨_, rfl⟩
                rw [← hcn] at hc1 HCMP
                have q0 : (cn == 0) = false := by simpa using hc1
                have q1 : (cn != 0) = true := by simpa using hc1
                have hno : ¬ RatOk s t := fun h => hcop h.cop
                have HNO := Lib.hid hno
                clear hcop hc1 hcn hno hb5
                go_wp2_with (go_at_call 64; refine HCMP.out.mono ?_; rintro e wg ⟨rfl, qg, rfl⟩; have y0 := (HYF.out.drewN qg).cell 0; have y1 := (HYF.out.drewN qg).cell 1; have y2 := (HYF.out.drewN qg).fz 0; have y3 := (HYF.out.drewN qg).fz 1)
                refine bodyPost_ret (results_cell_tmp_row rfl _ _ (w.heap.size + 1) _ _ (0, 0) _ rfl (has_set2 (HYF.out.drewN qg)) Tryd.underlying82 rfl infoRatio) rfl ?_
                exact ⟨_, _, _, _, _, _, _, rfl, below_set2 (drewN_below HWF.out qg) (by omega), .inl ⟨by decide, HNO.out⟩⟩
        · have q0 : (orI [es, et] == 0) = false := by simpa using hc0
          have q1 : (orI [es, et] != 0) = true := by simpa using hc0
          have hno : ¬ RatOk s t := fun h => by
            refine hc0 ?_
            rw [orI2, if_pos (HES.out.trans (numE_zero.2 h.ns))]
            exact HET.out.trans (numE_zero.2 h.nt)
          have HNO := Lib.hid (And.intro hc0 hno)
          generalize orI [es, et] = code at *
          clear hc0 hno
          go_wp2_with fail
          refine bodyPost_ret (results_cell_tmp_row rfl _ _ (w.heap.size + 1) _ _ (0, 0) _ rfl (has_set2 HYC.out) Tryd.underlying82 rfl infoRatio) rfl ?_
          exact ⟨_, _, _, _, _, _, _, rfl, below_set2 HWB.out (by omega), .inl HNO.out⟩

end Go.Proofs.YtfoehmieklldkaaDoor
