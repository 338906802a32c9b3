/- The walk of know.Differ. -/
import Derived.Test.YtogfekjopelfbaaDoorKmTell
namespace Go.Proofs.YtogfekjopelfbaaDoor
open Go.RowKit

def DiffPost (a b : ByteArray) (w : World) (e : Ending) (w' : World) : Prop :=
  ∃ oa n oc code, e = .returned (.tuple #[.slice oa n oc, .int .i64 code]) ∧ Below w.heap.size w w' ∧ ((code ≠ 0 ∧ n = 0) ∨
    (code = 0 ∧ bodyE a = 0 ∧ bodyE b = 0 ∧ ∃ es, n = es.length ∧ Mends (linesB a) (linesB b) es ∧ SliceAt 3 edR w' (.slice oa n oc) es))

set_option maxRecDepth 100000 in
set_option maxHeartbeats 1000000 in
theorem Differ_no (a b : ByteArray) (w : World) (hE : EnvM w) (hno : ¬ (bodyE a = 0 ∧ bodyE b = 0)) :
    Calls Tryd.prog 5 #[.string a, .string b] w (DiffPost a b w) := by
  have HNO := Lib.hid hno
  have HE := Lib.hid hE
  clear hno hE
  go_enter Tryd.func5, Tryd.ntmps5
  go_wp2_with fail
  refine (checkBody_any a w HE.out).mono ?_
  rintro e w1 ⟨rfl, hb1⟩
  go_wp2_with fail
  refine (checkBody_any b w1 (HE.out.below hb1)).mono ?_
  rintro e w2 ⟨rfl, hb2⟩
  have HB2 := Lib.hid (below_up hb1 hb2 hb1.size)
  clear hb1 hb2
  go_wp2_with fail
  refine (or_any _ [bodyE a, bodyE b] _ (ints2_at w2 _ _ _) (by simp)).mono ?_
  rintro e w3 ⟨rfl, rfl⟩
  have ho := orI2 (bodyE a) (bodyE b)
  have hb3 : Below w.heap.size w (w2.alloc (.cells #[.int .i64 (bodyE a), .int .i64 (bodyE b)] 24)) := HB2.out.alloc HB2.out.size _
  generalize w2.alloc (.cells #[.int .i64 (bodyE a), .int .i64 (bodyE b)] 24) = w3 at *
  have hc : orI [bodyE a, bodyE b] ≠ 0 := by
    rw [ho]
    split
    · rename_i g
      exact fun q => HNO.out ⟨g, q⟩
    · rename_i g; exact g
  clear ho
  generalize orI [bodyE a, bodyE b] = c at *
  have hq0 : (c == 0) = false := by simpa using hc
  have hq1 : (c != 0) = true := by simpa using hc
  have HC := Lib.hid hc
  clear hc
  go_wp2_with fail
  go_ret2
  exact ⟨_, _, _, _, rfl, hb3, .inl ⟨HC.out, rfl⟩⟩

/-- what lies at the head of a round, and through it -/
structure DI (x y : List ByteArray) (w7 wr : World) (i j : Nat) (ov : Value) (acc : List EdV) : Prop where
  tb : TB wr w7.heap.size (w7.heap.size + 1) (w7.heap.size + 1 + 1) w7.heap.size i j ov acc
  below : Below w7.heap.size w7 wr
  inv : MInv x y i j (acc.map EdV.d)
theorem DI.drew {x y : List ByteArray} {w7 wr : World} {i j : Nat} {ov : Value} {acc : List EdV} (h : DI x y w7 wr i j ov acc) (n : Nat) : DI x y w7 (wr.drewN n) i j ov acc :=
  ⟨h.tb.below (drewN_below (Below.refl _ _) n), drewN_below h.below n, h.inv⟩
/-- what is known of the first k places -/
def KI (x y : List ByteArray) (w7 wr : World) (k : Nat) : Prop := ∃ i j ov acc, DI x y w7 wr i j ov acc ∧ i ≤ k ∧ (x = y → i = k)

set_option maxRecDepth 100000 in
set_option maxHeartbeats 8000000 in
theorem Differ_ok (a b : ByteArray) (w : World) (hE : EnvM w) (ha : bodyE a = 0) (hb : bodyE b = 0) :
    Calls Tryd.prog 5 #[.string a, .string b] w (DiffPost a b w) := by
  obtain ⟨ha1, ha2⟩ := bodyE_ok ha
  obtain ⟨hb1, hb2⟩ := bodyE_ok hb
  have hca := checkBody_any a w hE
  have hcb := fun w1 hw => checkBody_any b w1 hw
  rw [ha] at hca
  rw [hb] at hcb
  have HA := Lib.hid ha
  have HB := Lib.hid hb
  have HCA := Lib.hid hca
  have HCB := Lib.hid hcb
  have HE := Lib.hid hE
  clear ha hb hca hcb hE
  go_enter Tryd.func5, Tryd.ntmps5
  go_wp2_with fail
  refine HCA.out.mono ?_
  rintro e w1 ⟨rfl, hb1'⟩
  go_wp2_with fail
  refine (HCB.out w1 (HE.out.below hb1')).mono ?_
  rintro e w2 ⟨rfl, hb2'⟩
  have HB2 := Lib.hid (below_up hb1' hb2' hb1'.size)
  clear hb1' hb2'
  go_wp2_with fail
  refine (or_any _ [0, 0] _ (ints2_at w2 _ _ _) (by simp)).mono ?_
  rintro e w3 ⟨rfl, rfl⟩
  have ho : orI [0, 0] = 0 := by rw [orI2, if_pos rfl]
  rw [ho]
  have hb3 : Below w.heap.size w (w2.alloc (.cells #[.int .i64 0, .int .i64 0] 24)) := HB2.out.alloc HB2.out.size _
  generalize w2.alloc (.cells #[.int .i64 0, .int .i64 0] 24) = w3 at *
  have HB3 := Lib.hid hb3
  clear ho hb3
  go_wp2_with fail
  refine (lines_any a w3 (by omega) (HE.out.below HB3.out)).mono ?_
  rintro e w4 ⟨xb, xc, rfl, hx, hb4, _, _⟩
  have HB4 := Lib.hid (below_up HB3.out hb4 HB3.out.size)
  have HX := Lib.hid hx
  clear hx hb4
  go_wp2_with fail
  refine (lines_any b w4 (by omega) (HE.out.below HB4.out)).mono ?_
  rintro e w5 ⟨yb, yc, rfl, hy, hb5, hyb5, hyc5⟩
  have HX5 := Lib.hid (SliceAt.stable strR_stable HX.out hb5)
  have HB5 := Lib.hid (below_up HB4.out hb5 HB4.out.size)
  have HY := Lib.hid hy
  clear hy hb5
  have hbx5 := (Below.refl w5.heap.size w5).alloc (Nat.le_refl _) (.cells #[.slice (some ⟨yb, 0, none⟩) (linesB b).length yc] 30)
  have hy5 := Has.new w5 #[.slice (some ⟨yb, 0, none⟩) (linesB b).length yc] 30
  have HXL := Lib.hid (linesB_ok a)
  have HYL := Lib.hid (linesB_ok b)
  generalize hxq : linesB a = x at *
  generalize hyq : linesB b = y at *
  have HXQ := Lib.hid hxq
  have HYQ := Lib.hid hyq
  clear hxq hyq
  have cy := hy5.cell 0
  have HY6 := Lib.hid hy5
  have HBX5 := Lib.hid hbx5
  clear hbx5 hy5
  go_upto_region 5 with fail
  generalize w5.alloc (.cells #[.slice (some ⟨yb, 0, none⟩) y.length yc] 30) = w6 at *
  go_wp2_with fail
  refine (common_any _ _ x y w6 (SliceAt.stable strR_stable HX5.out HBX5.out) (SliceAt.stable strR_stable HY.out HBX5.out) ha2 hb2).mono ?_
  rintro e w7 ⟨BL, BB, rfl, hT, hb7⟩
  have HB7 := Lib.hid (below_up (HBX5.out.trans (hb7.mono HBX5.out.size)) (Below.refl _ _) (by have := hb7.size; have := HBX5.out.size; omega))
  have HX7 := Lib.hid (SliceAt.stable strR_stable (SliceAt.stable strR_stable HX5.out HBX5.out) hb7)
  have HY7 := Lib.hid (SliceAt.stable strR_stable (SliceAt.stable strR_stable HY.out HBX5.out) hb7)
  have HC7 := Lib.hid (show w7.cell? ⟨w5.heap.size, 0, none⟩ = some (.slice (some ⟨yb, 0, none⟩) y.length yc) from (below_cell hb7 HY6.out.lt).trans cy)
  have hby : w5.heap.size < w7.heap.size := Nat.lt_of_lt_of_le HY6.out.lt hb7.size
  have HT7 := Lib.hid hT
  have HB57 := Lib.hid (HBX5.out.trans (hb7.mono HBX5.out.size))
  clear hb7 hT cy
  have hd0 : DI x y w7 (((w7.alloc (.cells #[.slice none 0 0] 23)).alloc (.cells #[.int .i64 0] 3)).alloc (.cells #[.int .i64 0] 3)) 0 0 (.slice none 0 0) [] := by
    have h1 := Has.new w7 #[.slice none 0 0] 23
    have h2 := Has.new (w7.alloc (.cells #[.slice none 0 0] 23)) #[.int .i64 0] 3
    have h3 := Has.new ((w7.alloc (.cells #[.slice none 0 0] 23)).alloc (.cells #[.int .i64 0] 3)) #[.int .i64 0] 3
    simp only [World.size_alloc] at h2 h3
    refine ⟨⟨h2.alloc _, h3, (h1.alloc _).alloc _, Eds.nil _ _, by omega, by omega, Nat.le_refl _, by omega⟩, (((Below.refl _ _).alloc (Nat.le_refl _) _).alloc (by simp) _).alloc (by simp; omega) _, MInv.start x y⟩
  have HD0 := Lib.hid hd0
  clear hd0
  go_upto_block 0 with fail
  generalize (((w7.alloc (.cells #[.slice none 0 0] 23)).alloc (.cells #[.int .i64 0] 3)).alloc (.cells #[.int .i64 0] 3)) = w8 at *
  go_cut [] (fun wx => KI x y w7 wx x.length ∨ (x ≠ y ∧ ∃ k, KI x y w7 wx k ∧ k ≤ x.length))
  case first =>
    go_wp2_with fail
    go_loopw [14] (fun kv wr => ∃ k : Nat, kv = .int .i64 k ∧ k ≤ x.length ∧ KI x y w7 wr k) (fun kv _ => x.length - (intOf kv).toNat)
    case atStart => exact ⟨0, rfl, Nat.zero_le _, 0, 0, _, _, HD0.out, Nat.le_refl _, fun _ => rfl⟩
    case round =>
      obtain ⟨k, rfl, hk, i, j, ov, acc, hI, hik, hxy⟩ := hrel
      have HI := Lib.hid hI
      have HXY := Lib.hid hxy
      clear hI hxy
      by_cases hlt : k < x.length
      · have c1 := HI.out.tb.ci.cell 0
        have c2 := HI.out.tb.cj.cell 0
        have c3 := (below_cell HI.out.below hby).trans HC7.out
        have hix := HI.out.inv.ix
        have hjy := HI.out.inv.jy
        obtain ⟨l1, t1, _⟩ := HT7.out.cell (i := i) (j := j) (Nat.zero_le _) hix hjy
        have l1' := (below_cell HI.out.below HT7.out.lst.lt).trans l1
        have t1' := (below_cell HI.out.below (Has.lt (HT7.out.row i (Nat.zero_le _) hix))).trans t1
        have b1 := tab_le x y i j
        have q1 : decide (i ≤ x.length) = true := by simpa using hix
        have q2 : decide (j ≤ y.length) = true := by simpa using hjy
        have hdiag : x = y → tabT x y i j = x.length - k := fun e => by
          have e1 := HXY.out e
          have e2 := (HI.out.inv.same e).2
          subst e
          rw [← e2, tab_diag, e1]
        have HDG := Lib.hid hdiag
        generalize htv : tabT x y i j = tv at *
        have HTV := Lib.hid htv
        clear l1 t1 hdiag htv
        by_cases h0 : tv = 0
        · subst h0
          have z0 : (((0 : Nat) : Int) == 0) = true := by simp
          go_upto_region 14 with fail
          go_quiet (fail)
          go_wp2_with fail
          go_meet
          refine .inr ⟨fun e => ?_, k, ⟨_, _, _, _, HI.out.drew _, hik, HXY.out⟩, by omega⟩
          have := HDG.out e
          omega
        · have z0 : ((tv : Int) == 0) = false := by simp; omega
          have z1 : (tv == 0) = false := by simpa using h0
          go_upto_region 14 with fail
          go_quiet (fail)
          have HI2 := Lib.hid (HI.out.drew nq)
          go_upto_block 2 with fail
          generalize wr.drewN nq = w9 at *
          obtain ⟨bx, ox, cx, hvx, hcx, hbbx, hex⟩ := HX7.out.at (by omega)
          cases hvx
          have d3 := (below_cell HI2.out.below hby).trans HC7.out
          have d4 := (below_cell HI2.out.below hbbx).trans (strs_cell hex k x[k] (List.getElem?_eq_getElem hlt))
          rw [Nat.zero_add] at d4
          obtain ⟨xk, hxk⟩ : ∃ xk, xk = x[k] := ⟨_, rfl⟩
          rw [← hxk] at d4
          have HXK := Lib.hid hxk
          clear hxk hex
          go_cut [16] (fun lv wx => ∃ l : Nat, lv = .int .i64 l ∧ j ≤ l ∧ l ≤ y.length ∧ (∀ h : l < y.length, y[l] = xk) ∧ (∀ h : j < y.length, y[j] = xk → l = j) ∧ DI x y w7 wx i j ov acc)
          case first =>
            go_wp2_with fail
            go_loopw [16] (fun lv wx => ∃ l : Nat, lv = .int .i64 l ∧ j ≤ l ∧ l ≤ y.length ∧ (∀ h : j < y.length, y[j] = xk → l = j) ∧ DI x y w7 wx i j ov acc) (fun lv _ => y.length - (intOf lv).toNat)
            case atStart => exact ⟨j, rfl, Nat.le_refl _, hjy, fun _ _ => rfl, HI2.out⟩
            case round =>
              obtain ⟨l, rfl, hl1, hl2, hl3, hIx⟩ := hrel
              have HIX := Lib.hid hIx
              have HL3 := Lib.hid hl3
              clear hIx hl3 d3 d4
              have d5 := (below_cell HIX.out.below hby).trans HC7.out
              have d6 : wr.cell? ⟨xb, k, none⟩ = some (.string xk) := by
                obtain ⟨bx', ox', cx', hvx, _, hbbx', hex⟩ := HX7.out.at (by omega)
                cases hvx
                rw [HXK.out]
                have h := (below_cell HIX.out.below hbbx').trans (strs_cell hex k x[k] (List.getElem?_eq_getElem hlt))
                rwa [Nat.zero_add] at h
              by_cases hll : l < y.length
              · obtain ⟨bv, ov', cv, hvy, hcy, hbby, hey⟩ := HY7.out.at (by omega)
                cases hvy
                have d7 := (below_cell HIX.out.below hbby).trans (strs_cell hey l y[l] (List.getElem?_eq_getElem hll))
                rw [Nat.zero_add] at d7
                have q3 : decide (l < y.length) = true := by simpa using hll
                obtain ⟨yl, hyl⟩ : ∃ yl, yl = y[l] := ⟨_, rfl⟩
                rw [← hyl] at d7
                have HYL2 := Lib.hid hyl
                have u3 : IntKind.i64.wrap ((l : Int) + 1) = (l : Int) + 1 := IntWalk.i64_in _ (by omega)
                clear hyl hey
                by_cases he : yl = xk
                · have z2 : (yl.toList == xk.toList) = true := by rw [he]; simp
                  have z3 : (!(yl.toList == xk.toList)) = false := by rw [z2]; rfl
                  have HEQ := Lib.hid he
                  clear he
                  go_upto_region 17 with fail
                  go_quiet (fail)
                  go_wp2_with fail
                  go_meet
                  exact ⟨l, rfl, hl1, hl2, fun h => by rw [← HYL2.out]; exact HEQ.out, HL3.out, HIX.out.drew _⟩
                · have z2 : (yl.toList == xk.toList) = false := by
                    rw [beq_eq_false_iff_ne, Lib.toList_data, Lib.toList_data]
                    exact fun q => he (bytes_ext q)
                  have z3 : (!(yl.toList == xk.toList)) = true := by rw [z2]; rfl
                  have HNE := Lib.hid he
                  clear he
                  go_upto_region 17 with fail
                  go_quiet (fail)
                  go_wp2_with fail
                  go_roundw
                  case rel => exact ⟨l + 1, by go_num, by omega, by omega, fun h q => by
                    have e := HL3.out h q
                    subst e
                    exact absurd (HYL2.out.trans q) HNE.out, HIX.out.drew _⟩
                  case measure => simp [intOf]; omega
              · obtain rfl : l = y.length := by omega
                have q3 : decide (y.length < y.length) = false := by simp
                go_upto_region 17 with fail
                go_quiet (fail)
                go_wp2_with fail
                go_meet
                exact ⟨_, rfl, hl1, Nat.le_refl _, fun h => absurd h (Nat.lt_irrefl _), HL3.out, HIX.out.drew _⟩
          case rest =>
            obtain ⟨l, rfl, hl1, hl2, hl4, hl3, hIx⟩ := hcut
            have HIX := Lib.hid hIx
            have HL3 := Lib.hid hl3
            have HL4 := Lib.hid hl4
            clear hIx hl3 hl4 d3 d4
            have d5 := (below_cell HIX.out.below hby).trans HC7.out
            have HSAME := Lib.hid (show x = y → l < y.length ∧ tabT x y (k + 1) (l + 1) + 1 = tv from fun e => by
              have e1 := HXY.out e
              have e2 := (HIX.out.inv.same e).2
              have e3 := HDG.out e
              have hjl : j < y.length := by rw [← e]; omega
              have e4 := HL3.out hjl (by
                rw [HXK.out]
                subst e
                congr 1
                omega)
              refine ⟨by omega, ?_⟩
              rw [e3]
              subst e
              rw [show l + 1 = k + 1 by omega, tab_diag]
              omega)
            have s1 : IntKind.i64.wrap ((k : Int) + 1) = (k : Int) + 1 := IntWalk.i64_in _ (by omega)
            have s2 : IntKind.i64.wrap ((l : Int) + 1) = (l : Int) + 1 := IntWalk.i64_in _ (by omega)
            have s3 : (0 : Int) ≤ (k : Int) + 1 := by omega
            have s4 : (0 : Int) ≤ (l : Int) + 1 := by omega
            have s5 : ((k : Int) + 1).toNat = k + 1 := by omega
            have s6 : ((l : Int) + 1).toNat = l + 1 := by omega
            have hsm := HIX.out.tb.gi
            by_cases hll : l < y.length
            · have q5 : decide (l < y.length) = true := by simpa using hll
              obtain ⟨l2, t2, _⟩ := HT7.out.cell (i := k + 1) (j := l + 1) (Nat.zero_le _) (by omega) (by omega)
              have l2' := (below_cell HIX.out.below HT7.out.lst.lt).trans l2
              have t2' := (below_cell HIX.out.below (Has.lt (HT7.out.row (k + 1) (Nat.zero_le _) (by omega)))).trans t2
              have b2 := tab_le x y (k + 1) (l + 1)
              generalize htw : tabT x y (k + 1) (l + 1) = tw at *
              have s7 : IntKind.i64.wrap ((tw : Int) + 1) = (tw : Int) + 1 := IntWalk.i64_in _ (by omega)
              clear l2 t2 htw
              by_cases hc : tw + 1 = tv
              · have z5 : ((tw : Int) + 1 == (tv : Int)) = true := by simp; omega
                have HEQ := Lib.hid (HL4.out hll)
                have HLEN := Lib.hid HIX.out.inv.ok.len
                by_cases hg : i < k ∨ j < l
                · have HG := Lib.hid hg
                  have hne : x ≠ y := fun e => by
                    have e1 := HXY.out e
                    have e2 := (HIX.out.inv.same e).2
                    have e4 := HL3.out (by omega) (by
                      rw [HXK.out]
                      subst e
                      congr 1
                      omega)
                    omega
                  have HNE := Lib.hid hne
                  clear hg hne
                  obtain ⟨bv, ov', cv, hvy, hcy, hbby, hey⟩ := HY7.out.at (by omega)
                  cases hvy
                  have hel : ∀ i (h : i < y.length), ∃ cs, ElemAt wc yb 0 1 i cs ∧ strR wc cs y[i] := fun i h => by
                    obtain ⟨cs, ⟨e1, e2⟩, e3⟩ := hey i h
                    exact ⟨cs, ⟨e1, fun t ht => (below_cell HIX.out.below hbby).trans (e2 t ht)⟩, e3⟩
                  have hcall := tell_emit w7.heap.size (w7.heap.size + 1) (w7.heap.size + 1 + 1) w7.heap.size w5.heap.size yb 0 yc i j k l ov acc y wc HIX.out.tb HIX.out.below.size d5 (Nat.lt_of_lt_of_le hbby HIX.out.below.size) hcy hel hik hl1 (by omega) hl2 (by omega) HG.out (by have := HLEN.out; simp at this; omega) hby
                  have HCALL := Lib.hid hcall
                  clear hey hel hcall hcy
                  go_wp2_with fail
                  refine HCALL.out.mono ?_
                  rintro e wz ⟨rfl, hbz, hsz, ovz, accz, hTz, hmz⟩
                  have HTZ := Lib.hid hTz
                  have HMZ := Lib.hid hmz
                  have HBZ := Lib.hid (HIX.out.below.trans hbz)
                  clear hTz hmz hbz
                  go_wp2_with fail
                  go_roundw
                  case rel => exact ⟨k + 1, by go_num, by omega, k + 1, l + 1, ovz, accz, ⟨HTZ.out, HBZ.out, by rw [HMZ.out]; exact HIX.out.inv.emit hik hl1 hlt hll (by rw [HEQ.out, HXK.out]) HG.out HNE.out⟩, Nat.le_refl _, fun _ => rfl⟩
                  case measure => simp [intOf]; omega
                · obtain rfl : i = k := by omega
                  obtain rfl : j = l := by omega
                  have hcall := tell_skip w7.heap.size (w7.heap.size + 1) (w7.heap.size + 1 + 1) w7.heap.size w5.heap.size i j ov acc wc HIX.out.tb HIX.out.below.size (by omega) (by omega)
                  have HCALL := Lib.hid hcall
                  clear hcall hg
                  go_wp2_with fail
                  refine HCALL.out.mono ?_
                  rintro e wz ⟨rfl, hbz, hsz, ovz, accz, hTz, hmz⟩
                  have HTZ := Lib.hid hTz
                  have HMZ := Lib.hid hmz
                  have HBZ := Lib.hid (HIX.out.below.trans hbz)
                  clear hTz hmz hbz
                  go_wp2_with fail
                  go_roundw
                  case rel => exact ⟨i + 1, by go_num, by omega, i + 1, j + 1, ovz, accz, ⟨HTZ.out, HBZ.out, by rw [HMZ.out]; exact HIX.out.inv.skip hlt hll (by rw [HEQ.out, HXK.out])⟩, Nat.le_refl _, fun _ => rfl⟩
                  case measure => simp [intOf]; omega
              · have z5 : ((tw : Int) + 1 == (tv : Int)) = false := by simp; omega
                have HC := Lib.hid hc
                clear hc
                go_wp2_with fail
                go_roundw
                case rel => exact ⟨k + 1, by go_num, by omega, i, j, ov, acc, HIX.out, by omega, fun e => absurd (HSAME.out e).2 HC.out⟩
                case measure => simp [intOf]; omega
            · have q5 : decide (l < y.length) = false := by simpa using hll
              have HLL := Lib.hid hll
              clear hll
              go_wp2_with fail
              go_roundw
              case rel => exact ⟨k + 1, by go_num, by omega, i, j, ov, acc, HIX.out, by omega, fun e => absurd (HSAME.out e).1 HLL.out⟩
              case measure => simp [intOf]; omega
      · obtain rfl : k = x.length := by omega
        go_wp2_with fail
        go_meet
        exact .inl ⟨_, _, _, _, HI.out, hik, HXY.out⟩
  case rest =>
    have hcut' : ∃ i j ov acc, DI x y w7 wc i j ov acc ∧ (x = y → i = x.length) := by
      rcases hcut with ⟨i, j, ov, acc, h1, _, h3⟩ | ⟨hne, k, ⟨i, j, ov, acc, h1, _, _⟩, _⟩
      · exact ⟨i, j, ov, acc, h1, h3⟩
      · exact ⟨i, j, ov, acc, h1, fun e => absurd e hne⟩
    obtain ⟨i, j, ov, acc, hI, hxy⟩ := hcut'
    have HI := Lib.hid hI
    have HXY := Lib.hid hxy
    have d5 := (below_cell HI.out.below hby).trans HC7.out
    have hix := HI.out.inv.ix
    have hjy := HI.out.inv.jy
    have HLEN := Lib.hid HI.out.inv.ok.len
    clear hI hxy hcut HD0
    by_cases hg : i < x.length ∨ j < y.length
    · have HG := Lib.hid hg
      have HNE := Lib.hid (show x ≠ y from fun e => by
        have e1 := HXY.out e
        have e2 := (HI.out.inv.same e).2
        subst e
        omega)
      have hcall : Calls Tryd.prog 12 #[.int .i64 (x.length : Nat), .int .i64 (y.length : Nat), .pointer (some ⟨w7.heap.size + 1, 0, none⟩), .pointer (some ⟨w7.heap.size + 1 + 1, 0, none⟩), .pointer (some ⟨w7.heap.size, 0, none⟩), .pointer (some ⟨w5.heap.size, 0, none⟩)] wc
          (TellPost w7.heap.size (w7.heap.size + 1) (w7.heap.size + 1 + 1) w7.heap.size (x.length + 1) (y.length + 1) (acc.map EdV.d ++ [edOf y i j x.length y.length]) wc) := by
        by_cases hy0 : y.length = 0
        · exact tell_emit w7.heap.size (w7.heap.size + 1) (w7.heap.size + 1 + 1) w7.heap.size w5.heap.size yb 0 yc i j x.length y.length ov acc y wc HI.out.tb HI.out.below.size d5 (by have := HI.out.below.size; omega) hyc5 (fun i h => by omega) hix hjy (by omega) (Nat.le_refl _) (by omega) HG.out (by have := HLEN.out; simp at this; omega) hby
        · obtain ⟨bv, ov', cv, hvy, hcy, hbby, hey⟩ := HY7.out.at (by omega)
          cases hvy
          have hel : ∀ i (h : i < y.length), ∃ cs, ElemAt wc yb 0 1 i cs ∧ strR wc cs y[i] := fun i h => by
            obtain ⟨cs, ⟨e1, e2⟩, e3⟩ := hey i h
            exact ⟨cs, ⟨e1, fun t ht => (below_cell HI.out.below hbby).trans (e2 t ht)⟩, e3⟩
          exact tell_emit w7.heap.size (w7.heap.size + 1) (w7.heap.size + 1 + 1) w7.heap.size w5.heap.size yb 0 yc i j x.length y.length ov acc y wc HI.out.tb HI.out.below.size d5 (Nat.lt_of_lt_of_le hbby HI.out.below.size) hcy hel hix hjy (by omega) (Nat.le_refl _) (by omega) HG.out (by have := HLEN.out; simp at this; omega) hby
      have HCALL := Lib.hid hcall
      clear hcall hg
      go_wp2_with fail
      refine HCALL.out.mono ?_
      rintro e wz ⟨rfl, hbz, hsz, ovz, accz, hTz, hmz⟩
      have k1 := hTz.co.cell 0
      have HE := Lib.hid hTz.got
      obtain ⟨oz, cz, rfl⟩ := owns_slice hTz.got.own
      have HMZ := Lib.hid hmz
      have HBZ := Lib.hid (below_up HB5.out (HB57.out.trans ((HI.out.below.trans hbz).mono (by omega))) HB5.out.size)
      clear hTz hmz hbz
      go_wp2_with fail
      go_ret2
      have hsl := HE.out.slice
      have hm := HI.out.inv.last HG.out HNE.out
      rw [← HMZ.out] at hm
      exact ⟨_, _, _, _, rfl, HBZ.out, .inr ⟨rfl, HA.out, HB.out, accz.map EdV.d, by simp, by rw [HXQ.out, HYQ.out]; exact hm, hsl⟩⟩
    · obtain rfl : i = x.length := by omega
      obtain rfl : j = y.length := by omega
      have hcall := tell_skip w7.heap.size (w7.heap.size + 1) (w7.heap.size + 1 + 1) w7.heap.size w5.heap.size x.length y.length ov acc wc HI.out.tb HI.out.below.size (by omega) (by omega)
      have HCALL := Lib.hid hcall
      clear hcall hg
      go_wp2_with fail
      refine HCALL.out.mono ?_
      rintro e wz ⟨rfl, hbz, hsz, ovz, accz, hTz, hmz⟩
      have k1 := hTz.co.cell 0
      have HE := Lib.hid hTz.got
      obtain ⟨oz, cz, rfl⟩ := owns_slice hTz.got.own
      have HMZ := Lib.hid hmz
      have HBZ := Lib.hid (below_up HB5.out (HB57.out.trans ((HI.out.below.trans hbz).mono (by omega))) HB5.out.size)
      clear hTz hmz hbz
      go_wp2_with fail
      go_ret2
      have hsl := HE.out.slice
      have hm := HI.out.inv.done
      rw [← HMZ.out] at hm
      exact ⟨_, _, _, _, rfl, HBZ.out, .inr ⟨rfl, HA.out, HB.out, accz.map EdV.d, by simp, by rw [HXQ.out, HYQ.out]; exact hm, hsl⟩⟩

end Go.Proofs.YtogfekjopelfbaaDoor
