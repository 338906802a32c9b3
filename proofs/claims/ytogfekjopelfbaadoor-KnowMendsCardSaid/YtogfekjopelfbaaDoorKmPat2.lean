/- The walk of know.Patch, at edits that mend. -/
import Derived.Test.YtogfekjopelfbaaDoorKmPatch
namespace Go.Proofs.YtogfekjopelfbaaDoor
open Go.RowKit

theorem mem_flat_len : ∀ (L : List ByteArray) (s : ByteArray), s ∈ L → s.size ≤ (L.map (·.data.toList)).flatten.length
  | [], _, h => by cases h
  | p :: L, s, h => by
    simp only [List.map_cons, List.flatten_cons, List.length_append]
    rcases List.mem_cons.1 h with rfl | h
    · exact Nat.le_add_right _ _
    · have := mem_flat_len L s h
      omega
def sizesOf (L : List ByteArray) : Nat := (L.map (·.data.toList)).flatten.length
theorem sizes_snoc (L : List ByteArray) (i : Nat) (h : i < L.length) : sizesOf (L.take (i + 1)) = sizesOf (L.take i) + L[i].size := by
  unfold sizesOf
  rw [List.take_succ_eq_append_getElem h, List.map_append, List.flatten_append, List.length_append, List.map_cons, List.map_nil, List.flatten_cons, List.flatten_nil, List.append_nil]
  rfl
theorem sizes_le (L : List ByteArray) (i : Nat) : sizesOf (L.take i) ≤ sizesOf L := by
  unfold sizesOf
  conv => rhs; rw [← List.take_append_drop i L]
  rw [List.map_append, List.flatten_append, List.length_append]
  omega
theorem suffix_line {p : List UInt8} (h : IsLine p) : Lib.hasSuffix p [10] = true := by
  obtain ⟨q, rfl, _⟩ := h
  unfold Lib.hasSuffix
  rw [List.isSuffixOf_iff_suffix]
  exact ⟨q, rfl⟩
theorem init_get {L : List ByteArray} (h : ∀ p ∈ L.dropLast, IsLine p.data.toList) (i : Nat) (hi : i + 1 < L.length) : IsLine (L[i]'(by omega)).data.toList := by
  refine h _ ?_
  rw [List.dropLast_eq_take]
  exact List.mem_take_iff_getElem.2 ⟨i, by omega, rfl⟩

theorem join_any0 (v : Value) (xs : List ByteArray) (w : World) (h : SliceAt 1 strR w v xs) (hN : xs.length ≤ 100000) (hS : sizesOf xs ≤ 1000000) (b : ByteArray) (hb : (xs.map (·.data.toList)).flatten = b.data.toList) :
    Calls Tryd.prog 16 #[v, .string ⟨#[]⟩] w fun e w' => e = .returned (.string b) ∧ Below w.heap.size w w' := by
  rcases h with ⟨a, cap, rfl, rfl⟩ | ⟨bk, off, cap, rfl, hcap, hbk, h⟩
  · refine (Tryd.strings_Join_none a cap ⟨#[]⟩ w).mono ?_
    rintro e w' ⟨rfl, rfl⟩
    refine ⟨?_, Below.refl _ _⟩
    congr 2
    exact bytes_ext hb
  · refine (Tryd.strings_Join bk off cap xs ⟨#[]⟩ w (strs_cell h) hbk (by omega) hcap ?_).mono ?_
    · have e : (Lib.join (xs.map (·.data.toList)) (ByteArray.mk #[]).data.toList) = (xs.map (·.data.toList)).flatten := join_flat _
      rw [e]
      unfold sizesOf at hS
      omega
    · rintro e w' ⟨rfl, hb2⟩
      refine ⟨?_, hb2⟩
      congr 2
      refine bytes_ext ?_
      rw [← hb]
      exact join_flat _

set_option maxRecDepth 100000 in
set_option maxHeartbeats 8000000 in
theorem Patch_ok (a b : ByteArray) (v : Value) (es : List Ed) (w : World) (hE : EnvM w) (hv : SliceAt 3 edR w v es) (ha : bodyE a = 0) (hb : bodyE b = 0) (hM : Mends (linesB a) (linesB b) es) :
    Calls Tryd.prog 6 #[.string a, v] w fun e w' => e = .returned (.tuple #[.string b, .int .i64 0]) ∧ Below w.heap.size w w' := by
  obtain ⟨va, vc, rfl⟩ := hv.len
  obtain ⟨ha1, ha2⟩ := bodyE_ok ha
  obtain ⟨hb1, hb2⟩ := bodyE_ok hb
  have hca := checkBody_any a w hE
  rw [ha] at hca
  have HYL := Lib.hid (linesB_ok b)
  have hll := fun w1 hw => lines_any a w1 (by omega) hw
  have hel := hM.ok.len
  have HM := Lib.hid hM
  have HCA := Lib.hid hca
  have HLL := Lib.hid hll
  have HV := Lib.hid hv
  have HE := Lib.hid hE
  unfold LinesPost at HLL
  clear ha hb hca hll hv hM hE
  generalize linesB a = x at *
  generalize linesB b = y at *
  have hyl : (y.map (·.data.toList)).flatten.length = b.size := by rw [HYL.out.flat]; rfl
  have HSZ := Lib.hid (show sizesOf y = b.size from hyl)
  have HMN := Lib.hid (fun k => made_mono x es k)
  have hml : (madeOf x es).1.length ≤ y.length := by
    have := congrArg List.length HM.out.text
    rw [List.length_append] at this
    omega
  clear hyl
  go_enter Tryd.func6, Tryd.ntmps6
  go_wp2_with fail
  refine HCA.out.mono ?_
  rintro e w1 ⟨rfl, hb1'⟩
  go_wp2_with fail
  refine (HLL.out w1 (HE.out.below hb1')).mono ?_
  rintro e w2 ⟨xb, xc, rfl, hx, hb2', hxb, hxc⟩
  have HB2 := Lib.hid (below_up hb1' hb2' hb1'.size)
  have HX := Lib.hid hx
  clear hb1' hb2' hx
  go_wp2_with fail
  go_loopw [8, 9, 26] (fun ov av iv wr => ∃ i : Nat, iv = .int .i64 i ∧ i ≤ es.length ∧ av = .int .i64 (endOf (es.take i) : Nat) ∧ wr.ownsRow w2.heap.size 9 1 ov (madeOf x (es.take i)).1.length ((madeOf x (es.take i)).1.map Value.string) ∧ Below w2.heap.size w2 wr) (fun _ _ iv _ => es.length - (intOf iv).toNat)
  case atStart => exact ⟨0, rfl, Nat.zero_le _, rfl, World.ownsRow_nil _ _ _ _, Below.refl _ _⟩
  case round =>
    obtain ⟨i, rfl, hi, rfl, hown, hbel⟩ := hrel
    obtain ⟨oa, oc, rfl⟩ := owns_slice hown
    have HOWN := Lib.hid hown
    have HBEL := Lib.hid hbel
    clear hown hbel
    by_cases hlt : i < es.length
    · obtain ⟨be, oe, cap', hvv, hcap, hbe, hee⟩ := HV.out.at (by omega)
      cases hvv
      obtain ⟨cs, ⟨hcl, hcc⟩, vi, rfl, hvi⟩ := hee i hlt
      have hbw : be < w2.heap.size := Nat.lt_of_lt_of_le hbe HB2.out.size
      have e0 := (below_cell HBEL.out hbw).trans ((below_cell HB2.out hbe).trans (hcc 0 (by simp)))
      have e1 := (below_cell HBEL.out hbw).trans ((below_cell HB2.out hbe).trans (hcc 1 (by simp)))
      have e2 := (below_cell HBEL.out hbw).trans ((below_cell HB2.out hbe).trans (hcc 2 (by simp)))
      simp only [List.getElem_cons_zero, List.getElem_cons_succ, Nat.add_zero] at e0 e1 e2
      obtain ⟨ia, ic, rfl⟩ := hvi.len
      have HVI2 := Lib.hid (SliceAt.stable strR_stable hvi HB2.out)
      have HVI := Lib.hid (SliceAt.stable strR_stable (SliceAt.stable strR_stable hvi HB2.out) HBEL.out)
      have hok := HM.out.ok i hlt
      have hst := made_step (x := x) hlt
      have HADD := Lib.hid (HM.out.adds es[i] (List.getElem_mem hlt))
      have hmm := HMN.out (i + 1)
      have hmi := HMN.out i
      generalize hed : es[i] = d at *
      have HED := Lib.hid hed
      have HOK := Lib.hid hok
      have HST := Lib.hid hst
      have hpos := hok.hi
      have hend : endOf (es.take i) ≤ d.pos := by
        by_cases g : es.take i = []
        · rw [g, endOf_nil]; exact Nat.zero_le _
        · exact Nat.le_of_lt (hok.lo g)
      have hm1 := congrArg List.length hst.1
      simp only [List.length_append, List.length_take, List.length_drop] at hm1
      clear hcc hcl hvi hee hok hst hed
      have hbx := box1 wr #[.int .i64 (d.pos : Nat), .int .i64 (d.cut : Nat), .slice ia d.add.length ic] 38
      go_upto_if 32 with fail
      generalize wr.alloc (.cells #[.int .i64 (d.pos : Nat), .int .i64 (d.cut : Nat), .slice ia d.add.length ic] 38) = w3 at *
      obtain ⟨hx3, hb3⟩ := hbx
      have HX3 := Lib.hid hx3
      have HB3 := Lib.hid hb3
      have HB23 := Lib.hid (below_up HBEL.out hb3 HBEL.out.size)
      clear hx3 hb3 e0 e1 e2
      go_cut [12] (fun u wx => wx = w3 ∧ Ahead w3 d u)
      case first =>
        by_cases h0 : i = 0
        · subst h0
          have q0 : decide (0 < 0) = false := by simp
          go_wp2_with fail
          go_meet
          exact ⟨rfl, .inl rfl⟩
        · obtain ⟨i', rfl⟩ : ∃ i', i = i' + 1 := ⟨i - 1, by omega⟩
          have q0 : decide (0 < i' + 1) = true := by simp
          have s1 : IntKind.i64.wrap (((i' + 1 : Nat) : Int) - 1) = (i' : Int) := by rw [IntWalk.i64_in _ (by omega)]; omega
          have hah : Ahead w3 d (.pointer (some ⟨be, oe + i' * 3, none⟩)) := by
            obtain ⟨be', oe', cap', hvv, hcap', hbe', hee'⟩ := HV.out.at (by omega)
            cases hvv
            obtain ⟨cs, ⟨hcl, hcc⟩, vj, rfl, _⟩ := hee' i' (by omega)
            have g0 := (below_cell HB23.out hbw).trans ((below_cell HB2.out hbe).trans (hcc 0 (by simp)))
            have g1 := (below_cell HB23.out hbw).trans ((below_cell HB2.out hbe).trans (hcc 1 (by simp)))
            simp only [List.getElem_cons_zero, List.getElem_cons_succ, Nat.add_zero] at g0 g1
            have hlo := HOK.out.lo (fun q => by have := congrArg List.length q; rw [List.length_take] at this; simp only [List.length_nil] at this; omega)
            rw [List.take_succ_eq_append_getElem (by omega : i' < es.length), endOf_snoc] at hlo
            exact .inr ⟨be, oe + i' * 3, _, _, rfl, g0, g1, hlo, Nat.lt_of_lt_of_le hbw HB23.out.size⟩
          have HAH := Lib.hid hah
          clear hah
          go_wp2_with fail
          go_meet
          exact ⟨rfl, HAH.out⟩
      case rest =>
        obtain ⟨rfl, hah⟩ := hcut
        have k0 := HX3.out.cell 0
        have k1 := HX3.out.cell 1
        have k2 := HX3.out.cell 2
        have hyb := fun s hs => mem_flat_len y s (HADD.out s hs)
        have hcall := checkEdit_ok d (.slice ia d.add.length ic) u12 x.length wc (SliceAt.stable strR_stable HVI.out HB3.out) hah hpos (by omega) HOK.out.some (fun s hs => HYL.out.each s (HADD.out s hs)) (by omega) (fun s hs => by
          have := hyb s hs
          have h2 := HSZ.out
          unfold sizesOf at h2
          omega)
        have HCALL := Lib.hid hcall
        clear hyb hcall hah
        go_wp2_with fail
        refine HCALL.out.mono ?_
        rintro e w4 ⟨rfl, hb4⟩
        have HX4 := Lib.hid (HX3.out.below hb4 HX3.out.lt)
        have HB24 := Lib.hid (below_up HB23.out hb4 HB23.out.size)
        have HO4 := Lib.hid (owns_below (owns_below HOWN.out HB3.out) hb4)
        have HV4 := Lib.hid (SliceAt.stable strR_stable (SliceAt.stable strR_stable HVI.out HB3.out) hb4)
        have hz4 := HB24.out.size
        have k0 := HX4.out.cell 0
        have k1 := HX4.out.cell 1
        have k2 := HX4.out.cell 2
        have HS1 := Lib.hid (strs_cut (i := endOf (es.take i)) (j := d.pos) (SliceAt.stable strR_stable HX.out HB24.out) (Nat.lt_of_lt_of_le hxb HB24.out.size) hxc hend (by omega))
        have hl1 : ((x.drop (endOf (es.take i))).take (d.pos - endOf (es.take i))).length = d.pos - endOf (es.take i) := by simp; omega
        have HL1 := Lib.hid hl1
        have hst1 := HST.out.1
        have hst2 := HST.out.2
        rw [hst1] at hmm
        simp only [List.length_append, hl1] at hmm
        clear hb4 hm1 hl1
        have HST1 := Lib.hid hst1
        have HST2 := Lib.hid hst2
        clear hst1 hst2
        generalize hat : endOf (es.take i) = at_ at *
        generalize hmd : (madeOf x (es.take i)).1 = mk at *
        have hat1 : (0 : Int) ≤ (at_ : Int) := by omega
        have hat2 : (at_ : Int) ≤ (d.pos : Int) := by omega
        have hat3 : (d.pos : Int) ≤ (xc : Int) := by omega
        have u1 : IntKind.i64.wrap ((d.pos : Int) + (d.cut : Int)) = (d.pos : Int) + (d.cut : Int) := IntWalk.i64_in _ (by omega)
        clear hat hmd
        go_upto_region 17 with (at_builtin; go_must (refine append_strs rfl _ _ rfl w2.heap.size w2 w4 (.slice oa mk.length oc) mk.length _ rfl HO4.out _ _ _ _ HL1.out rfl HS1.out (by omega) hz4 HB24.out ?_); intro v5 w5 ho5 hb5 hg5)
        have hz5 : w4.heap.size ≤ w5.heap.size := hg5.size
        have HX5 := Lib.hid (HX4.out.kept_own HO4.out (by decide) hg5)
        have HV5 := Lib.hid (SliceAt.stable strR_stable HVI2.out hb5)
        obtain ⟨a5, c5, rfl⟩ := owns_slice ho5
        have j0 := HX5.out.cell 0
        have j1 := HX5.out.cell 1
        have j2 := HX5.out.cell 2
        have HO5 := Lib.hid ho5
        have HB5 := Lib.hid hb5
        clear k0 k1 k2 ho5 hb5 hg5
        clear HS1
        generalize (if xc = at_ then some (⟨xb, 0, none⟩ : Addr) else some ⟨xb, at_, none⟩) = ax at *
        go_wp2_with (at_builtin; go_must (refine append_strs rfl _ _ rfl w2.heap.size w2 w5 (.slice a5 (mk.length + (d.pos - at_)) c5) _ _ rfl HO5.out _ _ _ _ rfl rfl HV5.out (by omega) (by omega) HB5.out ?_); intro v6 w6 ho6 hb6 hg6; obtain ⟨a6, c6, rfl⟩ := owns_slice ho6; have HO6 := Lib.hid ho6; have HB6 := Lib.hid hb6; have HX6 := Lib.hid (HX5.out.kept_own HO5.out (by decide) hg6); have m0 := HX6.out.cell 0; have m1 := HX6.out.cell 1; clear ho6 hb6 hg6)
        go_roundw
        case rel =>
          have h6 := HO6.out
          rw [List.append_assoc, ← List.map_append, ← List.map_append, ← List.append_assoc, ← HST1.out] at h6
          have hl6 : mk.length + (d.pos - at_) + d.add.length = (madeOf x (es.take (i + 1))).1.length := by rw [HST1.out]; simp only [List.length_append, HL1.out]
          rw [hl6] at h6
          exact ⟨i + 1, by go_num, by omega, by rw [HST2.out]; go_num, by rw [hl6]; exact h6, HB6.out⟩
        case measure => simp [intOf]; omega
    · obtain rfl : i = es.length := by omega
      have ho := HOWN.out
      have htx := HM.out.text
      rw [List.take_length] at ho
      have hel2 : endOf es ≤ x.length := by
        rcases List.eq_nil_or_concat es with e | ⟨l, z, e⟩
        · rw [e, endOf_nil]; exact Nat.zero_le _
        · have := (HM.out.ok l.length (by rw [e]; simp)).hi
          rw [e, List.concat_eq_append, endOf_snoc]
          have e2 : es[l.length]'(by rw [e]; simp) = z := by simp [e]
          rw [e2] at this
          exact this
      have HS1 := Lib.hid (strs_cut (i := endOf es) (j := x.length) (SliceAt.stable strR_stable HX.out HBEL.out) (Nat.lt_of_lt_of_le hxb HBEL.out.size) hxc hel2 (Nat.le_refl _))
      have hl1 : ((x.drop (endOf es)).take (x.length - endOf es)).length = x.length - endOf es := by simp
      have hd1 : (x.drop (endOf es)).take (x.length - endOf es) = x.drop (endOf es) := List.take_of_length_le (by simp)
      rw [hd1] at HS1 hl1
      have hyl2 := congrArg List.length htx
      rw [List.length_append, hl1] at hyl2
      have HL1 := Lib.hid hl1
      have HTX := Lib.hid htx
      have HO := Lib.hid ho
      have HYQ := Lib.hid hyl2
      rw [List.take_length]
      rw [List.take_length] at HOWN
      clear ho htx hl1 hd1
      generalize hmd : (madeOf x es).1 = mk at *
      generalize hat : endOf es = at_ at *
      have hat1 : (0 : Int) ≤ (at_ : Int) := by omega
      have hat2 : (at_ : Int) ≤ (x.length : Int) := by omega
      have hat3 : (x.length : Int) ≤ (xc : Int) := by omega
      have hzw := HBEL.out.size
      clear hmd hat
      go_upto_region 21 with (at_builtin; go_must (refine append_strs rfl _ _ rfl w2.heap.size w2 wr (.slice oa mk.length oc) mk.length _ rfl HO.out _ _ _ _ HL1.out rfl HS1.out (by omega) hzw HBEL.out ?_); intro v5 w5 ho5 hb5 hg5; obtain ⟨a5, c5, rfl⟩ := owns_slice ho5)
      rw [← List.map_append, HTX.out, HYQ.out] at ho5
      have hsl := slice_of_owns1 (R := strR) Value.string ho5 (fun _ _ => rfl)
      have HSL := Lib.hid hsl
      have HB5 := Lib.hid (below_up HB2.out (hb5) HB2.out.size)
      have HINIT := Lib.hid (fun i hi => init_get HYL.out.init i hi)
      have HFL := Lib.hid HYL.out.flat
      have hsy := HSZ.out
      clear ho5 hb5 hg5 HS1 hsl
      generalize (if xc = at_ then some (⟨xb, 0, none⟩ : Addr) else some ⟨xb, at_, none⟩) = ax at *
      go_wp2_with fail
      go_loop [14, 69, 15, 16] (fun sv iv _ _ => ∃ i : Nat, iv = .int .i64 i ∧ i ≤ y.length ∧ sv = .int .i64 (sizesOf (y.take i) : Nat)) (fun _ iv _ _ => y.length - (intOf iv).toNat)
      case atStart => exact ⟨0, rfl, Nat.zero_le _, rfl⟩
      case round =>
        obtain ⟨i, rfl, hi, rfl⟩ := hrel
        by_cases hlt2 : i < y.length
        · obtain ⟨bo, oo, cap', hvo, hcapo, hbo, heo⟩ := SliceAt.at HSL.out (by omega)
          cases hvo
          have c0 := strs_cell heo i y[i] (List.getElem?_eq_getElem hlt2)
          have hsn := sizes_snoc y i hlt2
          have hsl2 := sizes_le y (i + 1)
          have HSN := Lib.hid hsn
          have HSUF := Lib.hid (show i + 1 < y.length → Lib.hasSuffix y[i].data.toList [10] = true from fun h => suffix_line (HINIT.out i h))
          have hss : y[i].size ≤ 20000 := by omega
          have hsz2 : sizesOf (y.take i) ≤ 20000 := by omega
          generalize y[i] = s at *
          generalize sizesOf (y.take i) = sz at *
          have s1 : IntKind.i64.wrap ((y.length : Int) - 1) = (y.length : Int) - 1 := IntWalk.i64_in _ (by omega)
          have s2 : IntKind.i64.wrap ((sz : Int) + (s.size : Int)) = (sz : Int) + (s.size : Int) := IntWalk.i64_in _ (by omega)
          clear hsn heo
          by_cases hl : i + 1 < y.length
          · have q1 : decide ((i : Int) < (y.length : Int) - 1) = true := by simp; omega
            have hsf := Tryd.strings_HasSuffix s ⟨#[10]⟩ w5 (by omega)
            rw [show Lib.hasSuffix s.data.toList (ByteArray.mk #[10]).data.toList = true from HSUF.out hl] at hsf
            have HSF := Lib.hid hsf
            clear hsf
            go_wp2_with fail
            refine HSF.out.mono ?_
            rintro e w' ⟨rfl, rfl⟩
            go_wp2_with fail
            go_round
            case rel => exact ⟨i + 1, by go_num, by omega, by rw [HSN.out]; go_num⟩
            case measure => simp [intOf]; omega
          · have q1 : decide ((i : Int) < (y.length : Int) - 1) = false := by simp; omega
            go_wp2_with fail
            go_round
            case rel => exact ⟨i + 1, by go_num, by omega, by rw [HSN.out]; go_num⟩
            case measure => simp [intOf]; omega
        · obtain rfl : i = y.length := by omega
          rw [List.take_length]
          have q1 : decide ((20000 : Int) < ((sizesOf y : Nat) : Int)) = false := by simp; omega
          have q2 : decide ((2000 : Int) < (y.length : Int)) = false := by simp; omega
          have hj := join_any0 _ y w5 HSL.out (by omega) (by omega) b HFL.out
          have HJ := Lib.hid hj
          clear hj hsy
          generalize sizesOf y = sz at *
          go_wp2_with fail
          refine HJ.out.mono ?_
          rintro e w' ⟨rfl, hb6⟩
          have HB6 := Lib.hid (below_up HB5.out hb6 HB5.out.size)
          clear hb6
          go_wp2_with fail
          go_ret2
          exact ⟨rfl, HB6.out⟩

end Go.Proofs.YtogfekjopelfbaaDoor
