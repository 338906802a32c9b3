/- The walk of a policy's levelOf. -/
import Derived.Test.YtllcgcnebofdoaaGreatDoorQCkRuns
namespace Go.Proofs.YtllcgcnebofdoaaGreatDoor
open Go.RowKit

def valR (_ : World) (cs : List Value) (x : ValD) : Prop := cs = [.int .i64 x.1, .int .i64 x.2.1, .string x.2.2]
theorem valR_stable : Stable valR := fun _ _ _ _ h _ => h
def Vals (w : World) (v : Value) (l : List ValD) : Prop := SliceAt 3 valR w v l
theorem Vals.below {w w' : World} {v : Value} {l : List ValD} (h : Vals w v l) (hb : Below w.heap.size w w') : Vals w' v l := SliceAt.stable valR_stable h hb
theorem Vals.at {w : World} {v : Value} {l : List ValD} (h : Vals w v l) (hl : 0 < l.length) : ∃ b off cap, v = .slice (some ⟨b, off, none⟩) l.length cap ∧ b < w.heap.size ∧
    ∀ i (hi : i < l.length), w.cell? ⟨b, off + i * 3, none⟩ = some (.int .i64 l[i].1) ∧ w.cell? ⟨b, off + i * 3 + 1, none⟩ = some (.int .i64 l[i].2.1) ∧ w.cell? ⟨b, off + i * 3 + 2, none⟩ = some (.string l[i].2.2) := by
  obtain ⟨b, off, cap, hv, hc, hb, hel⟩ := SliceAt.at h hl
  refine ⟨b, off, cap, hv, hb, fun i hi => ?_⟩
  obtain ⟨cs, ⟨_, h2⟩, hr⟩ := hel i hi
  cases hr
  exact ⟨h2 0 (by simp), h2 1 (by simp), h2 2 (by simp)⟩
set_option maxRecDepth 100000 in
set_option maxHeartbeats 4000000 in
theorem tst_show (t : TstD) (prio : Int) (vals : List ValD) (Pb Vb : Nat) (vv : Value) (w : World) (hf : -1 ≤ t.fld) (hl : vals.length ≤ 1000000) (hP : Has w Pb #[.int .i64 prio] 3) (hV : Has w Vb #[vv] 41) (h : Vals w vv vals) :
    Calls Tryz.prog 78 #[.agg #[.int .i64 t.fld, .int .i64 t.kind, .int .i64 t.num, .string t.text], .pointer (some ⟨Pb, 0, none⟩), .pointer (some ⟨Vb, 0, none⟩)] w fun e w' => e = .returned (.bool (!tstB prio vals t)) ∧ Below w.heap.size w w' := by
  obtain ⟨va, vc, rfl⟩ := SliceAt.len h
  obtain ⟨x1, x2⟩ := box1 w #[.int .i64 t.fld, .int .i64 t.kind, .int .i64 t.num, .string t.text] 144
  obtain ⟨y1, y2⟩ := box1 (w.alloc (.cells #[.int .i64 t.fld, .int .i64 t.kind, .int .i64 t.num, .string t.text] 144)) #[.int .i64 0, .int .i64 0, .string ⟨#[]⟩] 142
  have hz : (w.alloc (.cells #[.int .i64 t.fld, .int .i64 t.kind, .int .i64 t.num, .string t.text] 144)).heap.size = w.heap.size + 1 := by simp
  rw [hz] at y1
  have HB := Lib.hid (below_up x2 y2 x2.size)
  have HX := Lib.hid (x1.below y2 x1.lt)
  have HY := Lib.hid y1
  have HPP := Lib.hid (hP.below HB.out hP.lt)
  have HVV := Lib.hid (hV.below HB.out hV.lt)
  have HL := Lib.hid (h.below HB.out)
  have HTB := Lib.hid (show tstB prio vals t = decide ((if t.fld = -1 then ((2, prio, ⟨#[]⟩) : ValD) else if t.fld < (vals.length : Int) then vals.getD t.fld.toNat (0, 0, ⟨#[]⟩) else (0, 0, ⟨#[]⟩)) = (t.kind, t.num, t.text)) from rfl)
  clear x1 x2 y1 y2 hz hP hV h
  generalize tstB prio vals t = tb at *
  obtain ⟨fld, kind, num, text⟩ := t
  simp only at *
  go_enter Tryz.func78, Tryz.ntmps78
  go_upto_region 2 with fail
  generalize (w.alloc (.cells #[.int .i64 fld, .int .i64 kind, .int .i64 num, .string text] 144)).alloc (.cells #[.int .i64 0, .int .i64 0, .string ⟨#[]⟩] 142) = w2 at *
  have x0 := HX.out.cell 0
  have x1 := HX.out.cell 1
  have x2 := HX.out.cell 2
  have x3 := HX.out.cell 3
  have y0 := HY.out.cell 0
  have y1 := HY.out.cell 1
  have y2 := HY.out.cell 2
  have z0 := HY.out.fz 0
  have z1 := HY.out.fz 1
  have z2 := HY.out.fz 2
  have hXY : w.heap.size ≠ w.heap.size + 1 := by omega
  have hYX : w.heap.size + 1 ≠ w.heap.size := by omega
  have hSw : w.heap.size ≤ w.heap.size + 1 := by omega
  have HBW := HB
  clear HB
  by_cases h1 : fld = -1
  · subst h1
    rw [if_pos rfl] at HTB
    have p0 := HPP.out.cell 0
    clear HPP HVV HL hf
    go_upto_region 6 with fail
    have HXZ := Lib.hid (show Has (((w2.setCell ⟨w.heap.size + 1, 0, none⟩ (.int .i64 2)).setCell ⟨w.heap.size + 1, 1, none⟩ (.int .i64 prio)).setCell ⟨w.heap.size + 1, 2, none⟩ (.string ⟨#[]⟩)) w.heap.size _ 144 from ((HX.out.set_other 0 _ hXY).set_other 1 _ hXY).set_other 2 _ hXY)
    have HYZ := Lib.hid (show Has (((w2.setCell ⟨w.heap.size + 1, 0, none⟩ (.int .i64 2)).setCell ⟨w.heap.size + 1, 1, none⟩ (.int .i64 prio)).setCell ⟨w.heap.size + 1, 2, none⟩ (.string ⟨#[]⟩)) (w.heap.size + 1) #[.int .i64 2, .int .i64 prio, .string ⟨#[]⟩] 142 from ((HY.out.set 0 (.int .i64 2)).set 1 (.int .i64 prio)).set 2 (.string ⟨#[]⟩))
    have HBZ := Lib.hid (show Below w.heap.size w (((w2.setCell ⟨w.heap.size + 1, 0, none⟩ (.int .i64 2)).setCell ⟨w.heap.size + 1, 1, none⟩ (.int .i64 prio)).setCell ⟨w.heap.size + 1, 2, none⟩ (.string ⟨#[]⟩)) from ((HBW.out.setCell (p := ⟨w.heap.size + 1, 0, none⟩) hSw _).setCell (p := ⟨w.heap.size + 1, 1, none⟩) hSw _).setCell (p := ⟨w.heap.size + 1, 2, none⟩) hSw _)
    clear x0 x1 x2 x3 y0 y1 y2 z0 z1 z2 HX HY HBW
    generalize ((w2.setCell ⟨w.heap.size + 1, 0, none⟩ (.int .i64 2)).setCell ⟨w.heap.size + 1, 1, none⟩ (.int .i64 prio)).setCell ⟨w.heap.size + 1, 2, none⟩ (.string ⟨#[]⟩) = w4 at *
    have x1 := HXZ.out.cell 1
    have x2 := HXZ.out.cell 2
    have x3 := HXZ.out.cell 3
    obtain ⟨a1, ha1⟩ : ∃ x : Int, x = 2 := ⟨_, rfl⟩
    obtain ⟨a2, ha2⟩ : ∃ x : Int, x = prio := ⟨_, rfl⟩
    obtain ⟨a3, ha3⟩ : ∃ x : ByteArray, x = ⟨#[]⟩ := ⟨_, rfl⟩
    have hy0 := HYZ.out.cell 0
    have hy1 := HYZ.out.cell 1
    have hy2 := HYZ.out.cell 2
    have HT2 := Lib.hid (show tb = decide (((a1, a2, a3) : ValD) = (kind, num, text)) by rw [HTB.out, ha1, ha2, ha3])
    clear HTB
    have HTB := HT2
    clear HT2
    have y0 : w4.cell? ⟨w.heap.size + 1, 0, none⟩ = some (.int .i64 a1) := by rw [ha1]; exact hy0
    have y1 : w4.cell? ⟨w.heap.size + 1, 1, none⟩ = some (.int .i64 a2) := by rw [ha2]; exact hy1
    have y2 : w4.cell? ⟨w.heap.size + 1, 2, none⟩ = some (.string a3) := by rw [ha3]; exact hy2
    clear ha1 ha2 ha3 hy0 hy1 hy2
    by_cases e1 : a1 = kind
    · by_cases e2 : a2 = num
      · by_cases e3 : a3 = text
        · have HT := Lib.hid (show tb = true by rw [HTB.out, e1, e2, e3]; simp)
          subst e1 e2 e3
          clear HTB
          go_wp2_with fail
          all_goals go_ret
          all_goals exact ⟨by rw [HT.out]; rfl, HBZ.out⟩
        · have HT := Lib.hid (show tb = false by rw [HTB.out]; simp [e3])
          have q9 : (a3.toList == text.toList) = false := by
            rw [ByteArray.toList_eq, ByteArray.toList_eq]
            rw [Bool.eq_false_iff]
            intro g
            exact e3 (by
              cases a3; cases text
              congr 1
              exact Array.toList_inj.1 (beq_iff_eq.1 g))
          subst e1 e2
          clear HTB e3
          go_wp2_with fail
          all_goals go_ret
          all_goals exact ⟨by rw [HT.out]; rfl, HBZ.out⟩
      · have HT := Lib.hid (show tb = false by rw [HTB.out]; simp [e2])
        subst e1
        clear HTB
        go_wp2_with fail
        all_goals go_ret
        all_goals exact ⟨by rw [HT.out]; rfl, HBZ.out⟩
    · have HT := Lib.hid (show tb = false by rw [HTB.out]; simp [e1])
      clear HTB
      go_wp2_with fail
      all_goals go_ret
      all_goals exact ⟨by rw [HT.out]; rfl, HBZ.out⟩
  · have q1 : (fld == -1) = false := by simpa using h1
    have q2 : decide (fld = -1) = false := decide_eq_false h1
    rw [if_neg h1] at HTB
    have v0 := HVV.out.cell 0
    by_cases h2 : fld < (vals.length : Int)
    · have q3 : decide (fld < (vals.length : Int)) = true := decide_eq_true h2
      rw [if_pos h2] at HTB
      obtain ⟨m, rfl⟩ := Int.eq_ofNat_of_zero_le (by omega : 0 ≤ fld)
      have hm : m < vals.length := by omega
      obtain ⟨b, of', cap', hv, hb, hel⟩ := Vals.at HL.out (by omega)
      cases hv
      obtain ⟨c0, c1, c2⟩ := hel m hm
      have hg : vals.getD ((m : Nat) : Int).toNat (0, 0, ⟨#[]⟩) = vals[m] := by
        rw [show ((m : Nat) : Int).toNat = m from rfl]
        simp [List.getD, hm]
      rw [hg] at HTB
      have wm : IntKind.i64.wrap (m : Int) = (m : Int) := IntWalk.i64_in _ (by omega)
      clear hel hg HPP HVV HL hf
      generalize vals[m] = u at *
      obtain ⟨u1, u2, u3⟩ := u
      simp only at c0 c1 c2
      go_upto_region 6 with fail
      have HXZ := Lib.hid (show Has (((w2.setCell ⟨w.heap.size + 1, 0, none⟩ (.int .i64 u1)).setCell ⟨w.heap.size + 1, 1, none⟩ (.int .i64 u2)).setCell ⟨w.heap.size + 1, 2, none⟩ (.string u3)) w.heap.size _ 144 from ((HX.out.set_other 0 _ hXY).set_other 1 _ hXY).set_other 2 _ hXY)
      have HYZ := Lib.hid (show Has (((w2.setCell ⟨w.heap.size + 1, 0, none⟩ (.int .i64 u1)).setCell ⟨w.heap.size + 1, 1, none⟩ (.int .i64 u2)).setCell ⟨w.heap.size + 1, 2, none⟩ (.string u3)) (w.heap.size + 1) #[.int .i64 u1, .int .i64 u2, .string u3] 142 from ((HY.out.set 0 (.int .i64 u1)).set 1 (.int .i64 u2)).set 2 (.string u3))
      have HBZ := Lib.hid (show Below w.heap.size w (((w2.setCell ⟨w.heap.size + 1, 0, none⟩ (.int .i64 u1)).setCell ⟨w.heap.size + 1, 1, none⟩ (.int .i64 u2)).setCell ⟨w.heap.size + 1, 2, none⟩ (.string u3)) from ((HBW.out.setCell (p := ⟨w.heap.size + 1, 0, none⟩) hSw _).setCell (p := ⟨w.heap.size + 1, 1, none⟩) hSw _).setCell (p := ⟨w.heap.size + 1, 2, none⟩) hSw _)
      clear x0 x1 x2 x3 y0 y1 y2 z0 z1 z2 HX HY HBW
      generalize ((w2.setCell ⟨w.heap.size + 1, 0, none⟩ (.int .i64 u1)).setCell ⟨w.heap.size + 1, 1, none⟩ (.int .i64 u2)).setCell ⟨w.heap.size + 1, 2, none⟩ (.string u3) = w4 at *
      have x1 := HXZ.out.cell 1
      have x2 := HXZ.out.cell 2
      have x3 := HXZ.out.cell 3
      obtain ⟨a1, ha1⟩ : ∃ x : Int, x = u1 := ⟨_, rfl⟩
      obtain ⟨a2, ha2⟩ : ∃ x : Int, x = u2 := ⟨_, rfl⟩
      obtain ⟨a3, ha3⟩ : ∃ x : ByteArray, x = u3 := ⟨_, rfl⟩
      have hy0 := HYZ.out.cell 0
      have hy1 := HYZ.out.cell 1
      have hy2 := HYZ.out.cell 2
      have HT2 := Lib.hid (show tb = decide (((a1, a2, a3) : ValD) = (kind, num, text)) by rw [HTB.out, ha1, ha2, ha3])
      clear HTB
      have HTB := HT2
      clear HT2
      have y0 : w4.cell? ⟨w.heap.size + 1, 0, none⟩ = some (.int .i64 a1) := by rw [ha1]; exact hy0
      have y1 : w4.cell? ⟨w.heap.size + 1, 1, none⟩ = some (.int .i64 a2) := by rw [ha2]; exact hy1
      have y2 : w4.cell? ⟨w.heap.size + 1, 2, none⟩ = some (.string a3) := by rw [ha3]; exact hy2
      clear ha1 ha2 ha3 hy0 hy1 hy2
      by_cases e1 : a1 = kind
      · by_cases e2 : a2 = num
        · by_cases e3 : a3 = text
          · have HT := Lib.hid (show tb = true by rw [HTB.out, e1, e2, e3]; simp)
            subst e1 e2 e3
            clear HTB
            go_wp2_with fail
            all_goals go_ret
            all_goals exact ⟨by rw [HT.out]; rfl, HBZ.out⟩
          · have HT := Lib.hid (show tb = false by rw [HTB.out]; simp [e3])
            have q9 : (a3.toList == text.toList) = false := by
              rw [ByteArray.toList_eq, ByteArray.toList_eq]
              rw [Bool.eq_false_iff]
              intro g
              exact e3 (by
                cases a3; cases text
                congr 1
                exact Array.toList_inj.1 (beq_iff_eq.1 g))
            subst e1 e2
            clear HTB e3
            go_wp2_with fail
            all_goals go_ret
            all_goals exact ⟨by rw [HT.out]; rfl, HBZ.out⟩
        · have HT := Lib.hid (show tb = false by rw [HTB.out]; simp [e2])
          subst e1
          clear HTB
          go_wp2_with fail
          all_goals go_ret
          all_goals exact ⟨by rw [HT.out]; rfl, HBZ.out⟩
      · have HT := Lib.hid (show tb = false by rw [HTB.out]; simp [e1])
        clear HTB
        go_wp2_with fail
        all_goals go_ret
        all_goals exact ⟨by rw [HT.out]; rfl, HBZ.out⟩
    · have q3 : decide (fld < (vals.length : Int)) = false := decide_eq_false h2
      rw [if_neg h2] at HTB
      clear HPP HVV HL hf
      go_upto_region 6 with fail
      have HXZ := HX
      have HYZ := HY
      have HBZ := HBW
      clear x0 x1 x2 x3 y0 y1 y2 z0 z1 z2 HX HY HBW
      have x1 := HXZ.out.cell 1
      have x2 := HXZ.out.cell 2
      have x3 := HXZ.out.cell 3
      obtain ⟨a1, ha1⟩ : ∃ x : Int, x = 0 := ⟨_, rfl⟩
      obtain ⟨a2, ha2⟩ : ∃ x : Int, x = 0 := ⟨_, rfl⟩
      obtain ⟨a3, ha3⟩ : ∃ x : ByteArray, x = ⟨#[]⟩ := ⟨_, rfl⟩
      have hy0 := HYZ.out.cell 0
      have hy1 := HYZ.out.cell 1
      have hy2 := HYZ.out.cell 2
      have HT2 := Lib.hid (show tb = decide (((a1, a2, a3) : ValD) = (kind, num, text)) by rw [HTB.out, ha1, ha2, ha3])
      clear HTB
      have HTB := HT2
      clear HT2
      have y0 : w2.cell? ⟨w.heap.size + 1, 0, none⟩ = some (.int .i64 a1) := by rw [ha1]; exact hy0
      have y1 : w2.cell? ⟨w.heap.size + 1, 1, none⟩ = some (.int .i64 a2) := by rw [ha2]; exact hy1
      have y2 : w2.cell? ⟨w.heap.size + 1, 2, none⟩ = some (.string a3) := by rw [ha3]; exact hy2
      clear ha1 ha2 ha3 hy0 hy1 hy2
      by_cases e1 : a1 = kind
      · by_cases e2 : a2 = num
        · by_cases e3 : a3 = text
          · have HT := Lib.hid (show tb = true by rw [HTB.out, e1, e2, e3]; simp)
            subst e1 e2 e3
            clear HTB
            go_wp2_with fail
            all_goals go_ret
            all_goals exact ⟨by rw [HT.out]; rfl, HBZ.out⟩
          · have HT := Lib.hid (show tb = false by rw [HTB.out]; simp [e3])
            have q9 : (a3.toList == text.toList) = false := by
              rw [ByteArray.toList_eq, ByteArray.toList_eq]
              rw [Bool.eq_false_iff]
              intro g
              exact e3 (by
                cases a3; cases text
                congr 1
                exact Array.toList_inj.1 (beq_iff_eq.1 g))
            subst e1 e2
            clear HTB e3
            go_wp2_with fail
            all_goals go_ret
            all_goals exact ⟨by rw [HT.out]; rfl, HBZ.out⟩
        · have HT := Lib.hid (show tb = false by rw [HTB.out]; simp [e2])
          subst e1
          clear HTB
          go_wp2_with fail
          all_goals go_ret
          all_goals exact ⟨by rw [HT.out]; rfl, HBZ.out⟩
      · have HT := Lib.hid (show tb = false by rw [HTB.out]; simp [e1])
        clear HTB
        go_wp2_with fail
        all_goals go_ret
        all_goals exact ⟨by rw [HT.out]; rfl, HBZ.out⟩

set_option maxRecDepth 100000 in
set_option maxHeartbeats 2000000 in
theorem idxTst_any (prio : Int) (vals : List ValD) (ts : List TstD) (Pb Vb : Nat) (v vv : Value) (w : World) (hf : ∀ t ∈ ts, -1 ≤ t.fld) (hl : vals.length ≤ 1000000) (hP : Has w Pb #[.int .i64 prio] 3) (hV : Has w Vb #[vv] 41) (h : Vals w vv vals) (ht : Tsts w v ts) (htl : ts.length ≤ 1000000) :
    Calls Tryz.prog 103 #[v, .func (.func 78) #[] #[.pointer (some ⟨Pb, 0, none⟩), .pointer (some ⟨Vb, 0, none⟩)]] w fun e w' => (∃ k : Int, e = .returned (.int .i64 k) ∧ decide (0 ≤ k) = !ts.all (tstB prio vals)) ∧ Below w.heap.size w w' := by
  obtain ⟨a, cap, rfl⟩ := SliceAt.len ht
  have HP := Lib.hid hP
  have HV := Lib.hid hV
  have HL := Lib.hid h
  have HT := Lib.hid ht
  have HF := Lib.hid hf
  clear hP hV h ht hf
  go_enter Tryz.func103, Tryz.ntmps103
  go_wp2_with fail
  go_loopw [8] (fun iv wr => ∃ i : Nat, iv = .int .i64 ((i : Nat) : Int) ∧ i ≤ ts.length ∧ (ts.take i).all (tstB prio vals) = true ∧ Below w.heap.size w wr) (fun iv _ => ts.length - (intOf iv).toNat)
  case atStart => exact ⟨0, rfl, Nat.zero_le _, by rw [List.take_zero]; rfl, Below.refl _ _⟩
  case round =>
    obtain ⟨i, rfl, hi, hno, hB⟩ := hrel
    have HN := Lib.hid hno
    have HB := Lib.hid hB
    clear hno hB
    by_cases hlt : i < ts.length
    · obtain ⟨b, of', cap', hv, hb, hel⟩ := Tsts.at HT.out (by omega)
      cases hv
      obtain ⟨⟨e0, e1, e2, e3⟩, -⟩ := hel i hlt
      have c0 := (below_cell HB.out hb).trans e0
      have c1 := (below_cell HB.out hb).trans e1
      have c2 := (below_cell HB.out hb).trans e2
      have c3 := (below_cell HB.out hb).trans e3
      have HC := Lib.hid (tst_show ts[i] prio vals Pb Vb vv wr (HF.out _ (List.getElem_mem hlt)) hl (HP.out.below HB.out HP.out.lt) (HV.out.below HB.out HV.out.lt) (HL.out.below HB.out))
      have HM := Lib.hid (show tstB prio vals ts[i] = false → ts.all (tstB prio vals) = false from fun e => by
        rw [List.all_eq_false]
        exact ⟨_, List.getElem_mem hlt, by rw [e]; decide⟩)
      have HX := Lib.hid (show tstB prio vals ts[i] = true → (ts.take (i + 1)).all (tstB prio vals) = true from fun e => by
        rw [List.take_succ_eq_append_getElem hlt, List.all_append, HN.out]
        simpa using e)
      clear e0 e1 e2 e3 hel
      generalize tstB prio vals ts[i] = bb at *
      generalize ts[i] = t at *
      obtain ⟨t1, t2, t3, t4⟩ := t
      simp only at c0 c1 c2 c3 HC
      go_wp2_with fail
      refine HC.out.mono ?_
      rintro e w3 ⟨rfl, hb3⟩
      have HB3 := Lib.hid (below_up HB.out hb3 HB.out.size)
      clear hb3 HC c0 c1 c2 c3
      cases bb with
      | false =>
        have HY := Lib.hid (HM.out rfl)
        clear HM HX
        go_wp2_with fail
        go_ret
        exact ⟨⟨_, rfl, by rw [HY.out]; simp⟩, HB3.out⟩
      | true =>
        have HY := Lib.hid (HX.out rfl)
        clear HM HX
        go_wp2_with fail
        go_roundw
        case rel => exact ⟨i + 1, by go_num, hlt, HY.out, HB3.out⟩
        case measure => simp [intOf]; omega
    · obtain rfl : i = ts.length := by omega
      have hf := HN.out
      rw [List.take_length] at hf
      have HF2 := Lib.hid hf
      clear hf
      go_wp2_with fail
      go_ret
      exact ⟨⟨_, rfl, by rw [HF2.out]; decide⟩, HB.out⟩
set_option maxRecDepth 100000 in
set_option maxHeartbeats 2000000 in
theorem lev_show (prio : Int) (vals : List ValD) (l : LevD) (Pb Vb : Nat) (vt vg vv : Value) (w : World) (hf : ∀ t ∈ l.tests, -1 ≤ t.fld) (hl : vals.length ≤ 1000000) (hP : Has w Pb #[.int .i64 prio] 3) (hV : Has w Vb #[vv] 41) (h : Vals w vv vals) (ht : Tsts w vt l.tests) (hg : Tgts w vg l.tgts) (htl : l.tests.length ≤ 1000000) :
    Calls Tryz.prog 76 #[.agg #[.string l.name, vt, vg], .pointer (some ⟨Pb, 0, none⟩), .pointer (some ⟨Vb, 0, none⟩)] w fun e w' => e = .returned (.bool (levB prio vals l)) ∧ Below w.heap.size w w' := by
  obtain ⟨ta, tc, rfl⟩ := SliceAt.len ht
  obtain ⟨ga, gc, rfl⟩ := SliceAt.len hg
  obtain ⟨x1, x2⟩ := box1 w #[.string l.name, .slice ta l.tests.length tc, .slice ga l.tgts.length gc] 106
  have HC := Lib.hid (idxTst_any prio vals l.tests Pb Vb (.slice ta l.tests.length tc) vv _ hf hl (hP.below x2 hP.lt) (hV.below x2 hV.lt) (h.below x2) (ht.below x2) htl)
  have HB := Lib.hid x2
  have k1 := x1.cell 1
  clear x1 x2 hP hV h ht hg
  unfold levB
  generalize l.tests.all (tstB prio vals) = bb at *
  go_enter Tryz.func76, Tryz.ntmps76
  go_upto_region 1 with fail
  generalize w.alloc (.cells #[.string l.name, .slice ta l.tests.length tc, .slice ga l.tgts.length gc] 106) = w2 at *
  have HCF := Lib.hid (show Calls Tryz.prog 77 #[.slice ta l.tests.length tc, .func (.func 78) #[] #[.pointer (some ⟨Pb, 0, none⟩), .pointer (some ⟨Vb, 0, none⟩)]] w2 (fun e w' => e = .returned (.bool (!bb)) ∧ Below w2.heap.size w2 w') from by
    clear k1 HB
    go_enter Tryz.func77, Tryz.ntmps77
    go_wp2_with fail
    refine HC.out.mono ?_
    rintro e w3 ⟨⟨k, rfl, hk⟩, hb⟩
    have HK := Lib.hid hk
    clear hk
    go_wp2_with fail
    go_ret
    exact ⟨by rw [← HK.out]; rfl, hb⟩)
  clear HC
  go_wp2_with fail
  refine HCF.out.mono ?_
  rintro e w3 ⟨rfl, hb⟩
  have HB3 := Lib.hid (below_up HB.out hb HB.out.size)
  clear hb
  cases bb with
  | false =>
    go_wp2_with fail
    go_ret
    exact ⟨rfl, HB3.out⟩
  | true =>
    go_wp2_with fail
    go_ret
    exact ⟨rfl, HB3.out⟩
set_option maxRecDepth 100000 in
set_option maxHeartbeats 2000000 in
theorem idxLev_any (p : PolD) (prio : Int) (vals : List ValD) (Pb Vb : Nat) (v vv : Value) (w : World) (hO : PolOk p) (hl : vals.length ≤ 1000000) (hP : Has w Pb #[.int .i64 prio] 3) (hV : Has w Vb #[vv] 41) (h : Vals w vv vals) (hs : Levs w v p.levs) :
    Calls Tryz.prog 75 #[v, .func (.func 76) #[] #[.pointer (some ⟨Pb, 0, none⟩), .pointer (some ⟨Vb, 0, none⟩)]] w fun e w' => e = .returned (.int .i64 (levOf p prio vals)) ∧ Below w.heap.size w w' := by
  obtain ⟨a, cap, rfl⟩ := SliceAt.len hs
  have HP := Lib.hid hP
  have HV := Lib.hid hV
  have HL := Lib.hid h
  have HS := Lib.hid hs
  have hl20 : p.levs.length ≤ 20 := hO.few
  have HO := Lib.hid hO
  clear hP hV h hs hO
  go_enter Tryz.func75, Tryz.ntmps75
  go_wp2_with fail
  go_loopw [8] (fun iv wr => ∃ i : Nat, iv = .int .i64 ((i : Nat) : Int) ∧ i ≤ p.levs.length ∧ levFrom prio vals i (p.levs.drop i) = levOf p prio vals ∧ Below w.heap.size w wr) (fun iv _ => p.levs.length - (intOf iv).toNat)
  case atStart => exact ⟨0, rfl, Nat.zero_le _, by rw [List.drop_zero]; rfl, Below.refl _ _⟩
  case round =>
    obtain ⟨i, rfl, hi, hno, hB⟩ := hrel
    have HN := Lib.hid hno
    have HB := Lib.hid hB
    clear hno hB
    by_cases hlt : i < p.levs.length
    · obtain ⟨b, of', cap', hv, hb, hel⟩ := Levs.at HS.out (by omega)
      cases hv
      obtain ⟨vt, vg, ⟨e0, e1, e2⟩, hsz, ht, hg⟩ := hel i hlt
      obtain ⟨ta, tc, rfl⟩ := SliceAt.len ht
      obtain ⟨ga, gc, rfl⟩ := SliceAt.len hg
      have c0 := (below_cell HB.out hb).trans e0
      have c1 := (below_cell HB.out hb).trans e1
      have c2 := (below_cell HB.out hb).trans e2
      have hlo := (HO.out.levs.each _ (List.getElem_mem hlt)).2
      have HC := Lib.hid (lev_show prio vals p.levs[i] Pb Vb _ _ vv wr (fun t htm => (hlo.tests.mem htm).fld.1) hl (HP.out.below HB.out HP.out.lt) (HV.out.below HB.out HV.out.lt) (HL.out.below HB.out) (ht.below HB.out) (hg.below HB.out) (by have := hlo.few; omega))
      have HD := Lib.hid (show levFrom prio vals i (p.levs.drop i) = if levB prio vals p.levs[i] then (i : Int) else levFrom prio vals (i + 1) (p.levs.drop (i + 1)) from by rw [List.drop_eq_getElem_cons hlt]; rfl)
      rw [HN.out] at HD
      clear e0 e1 e2 hel hsz ht hg hlo
      generalize levB prio vals p.levs[i] = bb at *
      generalize p.levs[i] = x at *
      obtain ⟨nm', ts, gs⟩ := x
      simp only at c0 c1 c2 HC
      go_wp2_with fail
      refine HC.out.mono ?_
      rintro e w3 ⟨rfl, hb3⟩
      have HB3 := Lib.hid (below_up HB.out hb3 HB.out.size)
      clear hb3 HC c0 c1 c2
      cases bb with
      | true =>
        rw [if_pos rfl] at HD
        go_wp2_with fail
        go_ret
        exact ⟨by rw [HD.out]; rfl, HB3.out⟩
      | false =>
        rw [if_neg (by decide)] at HD
        go_wp2_with fail
        go_roundw
        case rel => exact ⟨i + 1, by go_num, hlt, HD.out.symm, HB3.out⟩
        case measure => simp [intOf]; omega
    · obtain rfl : i = p.levs.length := by omega
      have hf := HN.out
      rw [List.drop_length] at hf
      have HF2 := Lib.hid (show levOf p prio vals = -1 from hf.symm)
      clear hf
      go_wp2_with fail
      go_ret
      exact ⟨by rw [HF2.out]; rfl, HB.out⟩
set_option maxRecDepth 100000 in
set_option maxHeartbeats 2000000 in
theorem levelOf_any (p : PolD) (prio : Int) (vals : List ValD) (vp vl vv : Value) (w : World) (hP : PolAt w vp vl p) (hO : PolOk p) (h : Vals w vv vals) (hl : vals.length ≤ 1000000) :
    Calls Tryz.prog 46 #[.agg #[vp, vl], .int .i64 prio, vv] w fun e w' => e = .returned (.int .i64 (levOf p prio vals)) ∧ Below w.heap.size w w' := by
  obtain ⟨pa, pc, rfl⟩ := SliceAt.len hP.pauses
  obtain ⟨la, lc, rfl⟩ := SliceAt.len hP.levs
  obtain ⟨va, vc, rfl⟩ := SliceAt.len h
  obtain ⟨x1, x2⟩ := box1 w #[.slice pa p.pauses.length pc, .slice la p.levs.length lc] 25
  obtain ⟨y1, y2⟩ := box1 (w.alloc (.cells #[.slice pa p.pauses.length pc, .slice la p.levs.length lc] 25)) #[.int .i64 prio] 3
  obtain ⟨z1, z2⟩ := box1 ((w.alloc (.cells #[.slice pa p.pauses.length pc, .slice la p.levs.length lc] 25)).alloc (.cells #[.int .i64 prio] 3)) #[.slice va vals.length vc] 41
  have hz1 : (w.alloc (.cells #[.slice pa p.pauses.length pc, .slice la p.levs.length lc] 25)).heap.size = w.heap.size + 1 := by simp
  have hz2 : ((w.alloc (.cells #[.slice pa p.pauses.length pc, .slice la p.levs.length lc] 25)).alloc (.cells #[.int .i64 prio] 3)).heap.size = w.heap.size + 1 + 1 := by simp
  rw [hz1] at y1
  rw [hz2] at z1
  have hb2 := below_up x2 y2 x2.size
  have hb3 := below_up hb2 z2 hb2.size
  have X1 := (x1.below y2 x1.lt).below z2 (x1.below y2 x1.lt).lt
  have Y1 := y1.below z2 y1.lt
  have HC := Lib.hid (idxLev_any p prio vals (w.heap.size + 1) (w.heap.size + 1 + 1) (.slice la p.levs.length lc) (.slice va vals.length vc) _ hO hl Y1 z1 (h.below hb3) (hP.levs.below hb3))
  have HB := Lib.hid hb3
  have k1 := X1.cell 1
  clear x1 x2 y1 y2 z1 z2 hz1 hz2 hb2 hb3 X1 Y1 hP hO h
  generalize levOf p prio vals = r at *
  go_enter Tryz.func46, Tryz.ntmps46
  go_upto_region 1 with fail
  generalize ((w.alloc (.cells #[.slice pa p.pauses.length pc, .slice la p.levs.length lc] 25)).alloc (.cells #[.int .i64 prio] 3)).alloc (.cells #[.slice va vals.length vc] 41) = w3 at *
  go_wp2_with fail
  refine HC.out.mono ?_
  rintro e w4 ⟨rfl, hb⟩
  have HB3 := Lib.hid (below_up HB.out hb HB.out.size)
  clear hb
  go_wp2_with fail
  go_ret
  exact ⟨rfl, HB3.out⟩
end Go.Proofs.YtllcgcnebofdoaaGreatDoor
