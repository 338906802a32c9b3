/- The walks of level.checkLevel and level.CheckPolicy. -/
import Derived.Test.YtllcgcnebofdoaaGreatDoorQPoChk
import Derived.Test.YtllcgcnebofdoaaGreatDoorQPoTxt
namespace Go.Proofs.YtllcgcnebofdoaaGreatDoor
open Go.RowKit

def tstR (_ : World) (cs : List Value) (t : TstD) : Prop := cs = [.int .i64 t.fld, .int .i64 t.kind, .int .i64 t.num, .string t.text] ∧ t.text.size ≤ 9223372036854775807
theorem tstR_stable : Stable tstR := fun _ _ _ _ h _ => h
def Tsts (w : World) (v : Value) (l : List TstD) : Prop := SliceAt 4 tstR w v l
theorem Tsts.below {w w' : World} {v : Value} {l : List TstD} (h : Tsts w v l) (hb : Below w.heap.size w w') : Tsts w' v l := SliceAt.stable tstR_stable h hb
theorem Tsts.at {w : World} {v : Value} {l : List TstD} (h : Tsts w v l) (hl : 0 < l.length) : ∃ b off cap, v = .slice (some ⟨b, off, none⟩) l.length cap ∧ b < w.heap.size ∧
    ∀ i (hi : i < l.length), (w.cell? ⟨b, off + i * 4, none⟩ = some (.int .i64 l[i].fld) ∧ w.cell? ⟨b, off + i * 4 + 1, none⟩ = some (.int .i64 l[i].kind) ∧ w.cell? ⟨b, off + i * 4 + 2, none⟩ = some (.int .i64 l[i].num) ∧ w.cell? ⟨b, off + i * 4 + 3, none⟩ = some (.string l[i].text)) ∧ l[i].text.size ≤ 9223372036854775807 := by
  obtain ⟨b, off, cap, hv, hc, hb, hel⟩ := SliceAt.at h hl
  refine ⟨b, off, cap, hv, hb, fun i hi => ?_⟩
  obtain ⟨cs, ⟨_, h2⟩, hr, hsz⟩ := hel i hi
  cases hr
  exact ⟨⟨h2 0 (by simp), h2 1 (by simp), h2 2 (by simp), h2 3 (by simp)⟩, hsz⟩
def tgtR (_ : World) (cs : List Value) (t : TgtD) : Prop := cs = [.int .i64 t.1, .int .i64 t.2.1, .int .i64 t.2.2]
theorem tgtR_stable : Stable tgtR := fun _ _ _ _ h _ => h
def Tgts (w : World) (v : Value) (l : List TgtD) : Prop := SliceAt 3 tgtR w v l
theorem Tgts.below {w w' : World} {v : Value} {l : List TgtD} (h : Tgts w v l) (hb : Below w.heap.size w w') : Tgts w' v l := SliceAt.stable tgtR_stable h hb
theorem Tgts.at {w : World} {v : Value} {l : List TgtD} (h : Tgts w v l) (hl : 0 < l.length) : ∃ b off cap, v = .slice (some ⟨b, off, none⟩) l.length cap ∧ b < w.heap.size ∧ l.length ≤ cap ∧
    ∀ i (hi : i < l.length), w.cell? ⟨b, off + i * 3, none⟩ = some (.int .i64 l[i].1) ∧ w.cell? ⟨b, off + i * 3 + 1, none⟩ = some (.int .i64 l[i].2.1) ∧ w.cell? ⟨b, off + i * 3 + 2, none⟩ = some (.int .i64 l[i].2.2) := by
  obtain ⟨b, off, cap, hv, hc, hb, hel⟩ := SliceAt.at h hl
  refine ⟨b, off, cap, hv, hb, hc, fun i hi => ?_⟩
  obtain ⟨cs, ⟨_, h2⟩, hr⟩ := hel i hi
  cases hr
  exact ⟨h2 0 (by simp), h2 1 (by simp), h2 2 (by simp)⟩
def levR (w : World) (cs : List Value) (l : LevD) : Prop := ∃ vt vg, cs = [.string l.name, vt, vg] ∧ l.name.size ≤ 9223372036854775807 ∧ Tsts w vt l.tests ∧ Tgts w vg l.tgts
theorem levR_stable : Stable levR := fun _ _ _ _ ⟨vt, vg, h1, h2, h3, h4⟩ hb => ⟨vt, vg, h1, h2, h3.below hb, h4.below hb⟩
def Levs (w : World) (v : Value) (l : List LevD) : Prop := SliceAt 3 levR w v l
theorem Levs.below {w w' : World} {v : Value} {l : List LevD} (h : Levs w v l) (hb : Below w.heap.size w w') : Levs w' v l := SliceAt.stable levR_stable h hb
theorem Levs.at {w : World} {v : Value} {l : List LevD} (h : Levs w v l) (hl : 0 < l.length) : ∃ b off cap, v = .slice (some ⟨b, off, none⟩) l.length cap ∧ b < w.heap.size ∧
    ∀ i (hi : i < l.length), ∃ vt vg, (w.cell? ⟨b, off + i * 3, none⟩ = some (.string l[i].name) ∧ w.cell? ⟨b, off + i * 3 + 1, none⟩ = some vt ∧ w.cell? ⟨b, off + i * 3 + 2, none⟩ = some vg) ∧ l[i].name.size ≤ 9223372036854775807 ∧ Tsts w vt l[i].tests ∧ Tgts w vg l[i].tgts := by
  obtain ⟨b, off, cap, hv, hc, hb, hel⟩ := SliceAt.at h hl
  refine ⟨b, off, cap, hv, hb, fun i hi => ?_⟩
  obtain ⟨cs, ⟨_, h2⟩, vt, vg, hr, hsz, ht, hg⟩ := hel i hi
  cases hr
  exact ⟨vt, vg, ⟨h2 0 (by simp), h2 1 (by simp), h2 2 (by simp)⟩, hsz, ht, hg⟩
def Ints (w : World) (v : Value) (l : List Int) : Prop := SliceAt 1 intR w v l
theorem Ints.below {w w' : World} {v : Value} {l : List Int} (h : Ints w v l) (hb : Below w.heap.size w w') : Ints w' v l := SliceAt.stable (fun _ _ _ _ h _ => h) h hb
theorem Ints.at {w : World} {v : Value} {l : List Int} (h : Ints w v l) (hl : 0 < l.length) : ∃ b off cap, v = .slice (some ⟨b, off, none⟩) l.length cap ∧ b < w.heap.size ∧ l.length ≤ cap ∧
    ∀ i (hi : i < l.length), w.cell? ⟨b, off + i, none⟩ = some (.int .i64 l[i]) := by
  obtain ⟨b, off, cap, hv, hc, hb, hel⟩ := SliceAt.at h hl
  refine ⟨b, off, cap, hv, hb, hc, fun i hi => ?_⟩
  obtain ⟨cs, ⟨_, h2⟩, hr⟩ := hel i hi
  cases hr
  have := h2 0 (by simp)
  simpa using this

/-- the field of the test ahead -/
def prevF (L : List TstD) : Nat → Int
  | 0 => -2
  | j + 1 => (L.getD j ⟨0, 0, 0, ⟨#[]⟩⟩).fld
theorem prevF_next {L : List TstD} {i : Nat} (hi : i < L.length) : prevF L (i + 1) = L[i].fld := by
  rw [prevF]
  simp [List.getD, hi]
theorem tst_of {L : List TstD} (h : Lst TstOne TstRise L) {i : Nat} (hi : i < L.length) : TstOne L[i] ∧ prevF L i < L[i].fld := by
  refine ⟨h.each i hi, ?_⟩
  cases i with
  | zero =>
    have := (h.each 0 hi).fld.1
    show -2 < _
    omega
  | succ j =>
    rw [prevF_next (by omega)]
    exact h.order j hi
theorem tst_next {L : List TstD} {i : Nat} (h : Lst TstOne TstRise (L.take i)) (hi : i < L.length) (h1 : TstOne L[i] ∧ prevF L i < L[i].fld) : Lst TstOne TstRise (L.take (i + 1)) := by
  refine h.next hi h1.1 fun hp => ?_
  have h2 := h1.2
  obtain ⟨j, rfl⟩ : ∃ j, i = j + 1 := ⟨i - 1, by omega⟩
  rw [prevF_next (by omega)] at h2
  exact h2
structure LtInv (l : LevD) (vt vg : Value) (w wr : World) (i : Nat) : Prop where
  le : i ≤ l.tests.length
  fine : Lst TstOne TstRise (l.tests.take i)
  box : Has wr w.heap.size #[.string l.name, vt, vg] 106
  below : Below w.heap.size w wr
structure LgInv (l : LevD) (vt vg : Value) (w wr : World) (i : Nat) : Prop where
  le : i ≤ l.tgts.length
  fine : Lst TgtOne TgtRise (l.tgts.take i)
  box : Has wr w.heap.size #[.string l.name, vt, vg] 106
  below : Below w.heap.size w wr

set_option maxRecDepth 100000 in
set_option maxHeartbeats 8000000 in
theorem checkLevel_any (l : LevD) (vt vg : Value) (w : World) (ht : Tsts w vt l.tests) (hg : Tgts w vg l.tgts) :
    Calls Tryz.prog 42 #[.agg #[.string l.name, vt, vg]] w fun e w' => (∃ k, e = .returned (.int .i64 k) ∧ (k = 0 ↔ LevOk l)) ∧ Below w.heap.size w w' := by
  obtain ⟨ta, tc, rfl⟩ := SliceAt.len ht
  obtain ⟨ga, gc, rfl⟩ := SliceAt.len hg
  have HT := Lib.hid ht
  have HG := Lib.hid hg
  have HO1 := Lib.hid (show LevOk l → l.tests.length ≤ 8 from fun g => g.few)
  have HO2 := Lib.hid (show LevOk l → Lst TstOne TstRise l.tests from fun g => g.tests)
  have HO3 := Lib.hid (show LevOk l → Lst TgtOne TgtRise l.tgts from fun g => g.tgts)
  have HMK := Lib.hid (show l.tests.length ≤ 8 → Lst TstOne TstRise l.tests → Lst TgtOne TgtRise l.tgts → LevOk l from fun a b c => ⟨a, b, c⟩)
  have hbx := box1 w #[.string l.name, .slice ta l.tests.length tc, .slice ga l.tgts.length gc] 106
  have HX := Lib.hid hbx.1
  have HB := Lib.hid hbx.2
  clear ht hg hbx
  generalize LevOk l = T at *
  go_enter Tryz.func42, Tryz.ntmps42
  go_upto_region 1 with fail
  generalize w.alloc (.cells #[.string l.name, .slice ta l.tests.length tc, .slice ga l.tgts.length gc] 106) = w2 at *
  have k1 := HX.out.cell 1
  by_cases h8 : 8 < l.tests.length
  · have q : decide ((8 : Int) < (l.tests.length : Int)) = true := decide_eq_true (by omega)
    have H8 := Lib.hid h8
    clear h8
    go_wp2_with fail
    go_ret
    exact ⟨⟨_, rfl, ⟨fun g => absurd g (by decide), fun g => absurd (HO1.out g) (by have := H8.out; omega)⟩⟩, HB.out⟩
  have q : decide ((8 : Int) < (l.tests.length : Int)) = false := decide_eq_false (by omega)
  have hl8 : l.tests.length ≤ 8 := by omega
  have HI0 := Lib.hid (show LtInv l (.slice ta l.tests.length tc) (.slice ga l.tgts.length gc) w w2 0 from ⟨Nat.zero_le _, by rw [List.take_zero]; exact Lst.nil, HX.out, HB.out⟩)
  clear h8
  go_wp2_with fail
  go_loopw [3, 16] (fun bv iv wr => ∃ i : Nat, iv = .int .i64 ((i : Nat) : Int) ∧ bv = .int .i64 (prevF l.tests i) ∧ LtInv l (.slice ta l.tests.length tc) (.slice ga l.tgts.length gc) w wr i) (fun _ iv _ => l.tests.length - (intOf iv).toNat)
  case atStart => exact ⟨0, rfl, rfl, HI0.out⟩
  case round =>
    obtain ⟨i, rfl, rfl, hI⟩ := hrel
    have HI := Lib.hid hI
    have hi := hI.le
    clear hI HI0 k1 HX HB
    by_cases hlt : i < l.tests.length
    · obtain ⟨b, of', cap', hv, hb, hel⟩ := Tsts.at HT.out (by omega)
      cases hv
      obtain ⟨⟨e0, e1, e2, e3⟩, hsz⟩ := hel i hlt
      have c0 := (below_cell HI.out.below hb).trans e0
      have c1 := (below_cell HI.out.below hb).trans e1
      have c2 := (below_cell HI.out.below hb).trans e2
      have c3 := (below_cell HI.out.below hb).trans e3
      have HCT := Lib.hid (fun W => checkTest_any l.tests[i] (prevF l.tests i) W hsz)
      have HOF := Lib.hid (show T → TstOne l.tests[i] ∧ prevF l.tests i < l.tests[i].fld from fun g => tst_of (HO2.out g) hlt)
      have HNX := Lib.hid (show TstOne l.tests[i] ∧ prevF l.tests i < l.tests[i].fld → Lst TstOne TstRise (l.tests.take (i + 1)) from fun g => tst_next HI.out.fine hlt g)
      have hpn := prevF_next hlt
      generalize (TstOne l.tests[i] ∧ prevF l.tests i < l.tests[i].fld) = Q at *
      generalize l.tests[i] = t at *
      obtain ⟨x1, x2, x3, x4⟩ := t
      simp only at c0 c1 c2 c3 hpn HCT
      have HPN := Lib.hid hpn
      clear e0 e1 e2 e3 hel hsz hpn
      generalize prevF l.tests i = pf at *
      go_upto_region 7 with fail
      obtain ⟨bx, bbl⟩ := box1 wr #[.int .i64 x1, .int .i64 x2, .int .i64 x3, .string x4] 144
      have HB4 := Lib.hid (below_up HI.out.below bbl HI.out.below.size)
      have HX4 := Lib.hid (HI.out.box.below bbl HI.out.box.lt)
      have HP := Lib.hid bx
      clear bx bbl c0 c1 c2 c3
      generalize wr.alloc (.cells #[.int .i64 x1, .int .i64 x2, .int .i64 x3, .string x4] 144) = wb at *
      generalize wr.heap.size = D at *
      have m0 := HP.out.cell 0
      have m1 := HP.out.cell 1
      have m2 := HP.out.cell 2
      have m3 := HP.out.cell 3
      go_wp2_with fail
      refine (HCT.out wb).mono ?_
      rintro e w5 ⟨⟨k, rfl, hk⟩, hb5⟩
      have HK := Lib.hid hk
      have HB5 := Lib.hid (below_up HB4.out hb5 HB4.out.size)
      have HX5 := Lib.hid (HX4.out.below hb5 HX4.out.lt)
      have n0 : w5.cell? ⟨D, 0, none⟩ = some (.int .i64 x1) := (HP.out.below hb5 HP.out.lt).cell 0
      clear hk hb5 m0 m1 m2 m3 HP HCT
      by_cases hz : k = 0
      · subst hz
        have HNX2 := Lib.hid (HNX.out (HK.out.1 rfl))
        have HIN := Lib.hid (show LtInv l (.slice (some ⟨b, of', none⟩) l.tests.length tc) (.slice ga l.tgts.length gc) w w5 (i + 1) from ⟨hlt, HNX2.out, HX5.out, HB5.out⟩)
        clear HNX HK HOF HI
        go_wp2_with fail
        go_roundw
        case rel => exact ⟨i + 1, by go_num, by rw [HPN.out], HIN.out⟩
        case measure => simp [intOf]; omega
      · have q1 : (k == 0) = false := by simpa using hz
        have q2 : (k != 0) = true := by simpa using hz
        have HZ := Lib.hid hz
        clear hz
        go_wp2_with fail
        go_ret
        exact ⟨⟨_, rfl, ⟨fun g => absurd g HZ.out, fun g => HK.out.2 (HOF.out g)⟩⟩, HB5.out⟩
    · obtain rfl : i = l.tests.length := by omega
      have hfull := HI.out.fine
      rw [List.take_length] at hfull
      have HMK2 := Lib.hid (HMK.out hl8 hfull)
      have HI1 := Lib.hid (show LgInv l (.slice ta l.tests.length tc) (.slice ga l.tgts.length gc) w wr 0 from ⟨Nat.zero_le _, by rw [List.take_zero]; exact Lst.nil, HI.out.box, HI.out.below⟩)
      have k2 : wr.cell? ⟨w.heap.size, 2, none⟩ = some (.slice ga l.tgts.length gc) := HI.out.box.cell 2
      clear hfull HMK HI HO1 HO2 hlt
      go_wp2_with fail
      go_loopw [32] (fun iv wx => ∃ j : Nat, iv = .int .i64 ((j : Nat) : Int) ∧ LgInv l (.slice ta l.tests.length tc) (.slice ga l.tgts.length gc) w wx j) (fun iv _ => l.tgts.length - (intOf iv).toNat)
      case atStart => exact ⟨0, rfl, HI1.out⟩
      case round =>
        obtain ⟨j, rfl, hJ⟩ := hrel
        rename World => wx
        have HJ := Lib.hid hJ
        have hj := hJ.le
        have hj3 : j ≤ 3 := by
          have := tgt_few hJ.fine
          rw [List.length_take] at this
          omega
        clear hJ HI1 k2
        by_cases hlt : j < l.tgts.length
        · obtain ⟨b, of', cap', hv, hb, hcp, hel⟩ := Tgts.at HG.out (by omega)
          cases hv
          obtain ⟨e0, e1, e2⟩ := hel j hlt
          have c0 := (below_cell HJ.out.below hb).trans e0
          have c1 := (below_cell HJ.out.below hb).trans e1
          have c2 := (below_cell HJ.out.below hb).trans e2
          have HP := Lib.hid (fun hp : 0 < j => (below_cell HJ.out.below hb).trans (hel (j - 1) (by omega)).1)
          have HNX := Lib.hid (fun hx ho => Lst.next HJ.out.fine hlt hx ho)
          have HNO := Lib.hid (show T → TgtOne l.tgts[j] from fun g => (HO3.out g).each j hlt)
          have HNB := Lib.hid (show T → ∀ hp : 0 < j, TgtRise (l.tgts[j - 1]'(by omega)) l.tgts[j] from fun g hp => (HO3.out g).before hlt hp)
          clear e0 e1 e2 hel
          generalize l.tgts[j] = t at *
          obtain ⟨x1, x2, x3⟩ := t
          simp only at c0 c1 c2
          go_upto_region 15 with fail
          obtain ⟨bx, bbl⟩ := box1 wx #[.int .i64 x1, .int .i64 x2, .int .i64 x3] 72
          have HB4 := Lib.hid (below_up HJ.out.below bbl HJ.out.below.size)
          have HX4 := Lib.hid (HJ.out.box.below bbl HJ.out.box.lt)
          have m0 := bx.cell 0
          have m1 := bx.cell 1
          have m2 := bx.cell 2
          have kl := HX4.out.cell 2
          have HP4 := Lib.hid (fun hp : 0 < j => (below_cell bbl (Nat.lt_of_lt_of_le hb HJ.out.below.size)).trans (HP.out hp))
          have HBX := Lib.hid bx
          clear bx bbl c0 c1 c2 HP
          generalize wx.alloc (.cells #[.int .i64 x1, .int .i64 x2, .int .i64 x3] 72) = wb at *
          generalize wx.heap.size = D at *
          obtain ⟨b1, hb1⟩ : ∃ b, (decide ((1 : Int) ≤ x1) && decide (x1 ≤ 3)) = b := ⟨_, rfl⟩
          obtain ⟨b2, hb2⟩ : ∃ b, (decide ((0 : Int) ≤ x2) && decide (x2 ≤ 100000)) = b := ⟨_, rfl⟩
          obtain ⟨b3, hb3⟩ : ∃ b, (decide ((0 : Int) ≤ x3) && decide (x3 ≤ 19)) = b := ⟨_, rfl⟩
          obtain ⟨q, hq⟩ : ∃ q, (b1 && b2 && b3) = q := ⟨_, rfl⟩
          have HQ1 := Lib.hid (show q = true ↔ TgtOne (x1, x2, x3) by
            rw [← hq, ← hb1, ← hb2, ← hb3]
            unfold TgtOne
            simp [and_assoc])
          go_cut [52] (fun v wy => v = .bool (!q) ∧ wy = wb)
          case first =>
            clear HNX HNO HNB HP4 HQ1 kl
            cases b1 with
            | false =>
              go_wp2_with (go_at_call 27; refine (lwithin_any _ _ _ _).mono ?_; rw [hb1]; rintro e w' ⟨rfl, rfl⟩)
              go_meet
              exact ⟨by rw [← hq]; rfl, rfl⟩
            | true =>
              cases b2 with
              | false =>
                go_wp2_with (go_at_call 27; refine (lwithin_any _ _ _ _).mono ?_; (first | rw [hb1] | rw [hb2]); rintro e w' ⟨rfl, rfl⟩)
                go_meet
                exact ⟨by rw [← hq]; rfl, rfl⟩
              | true =>
                cases b3 with
                | false =>
                  go_wp2_with (go_at_call 27; refine (lwithin_any _ _ _ _).mono ?_; (first | rw [hb1] | rw [hb2] | rw [hb3]); rintro e w' ⟨rfl, rfl⟩)
                  go_meet
                  exact ⟨by rw [← hq]; rfl, rfl⟩
                | true =>
                  go_wp2_with (go_at_call 27; refine (lwithin_any _ _ _ _).mono ?_; (first | rw [hb1] | rw [hb2] | rw [hb3]); rintro e w' ⟨rfl, rfl⟩)
                  go_meet
                  exact ⟨by rw [← hq]; rfl, rfl⟩
          case rest =>
            obtain ⟨rfl, rfl⟩ := hcut
            clear hb1 hb2 hb3 hq
            cases q with
            | false =>
              have HC := Lib.hid (show ¬ T from fun g => absurd (HQ1.out.2 (HNO.out g)) (by decide))
              clear HNX HNO HNB HP4 HQ1
              go_wp2_with fail
              go_ret
              exact ⟨⟨_, rfl, ⟨fun g => absurd g (by decide), fun g => absurd g HC.out⟩⟩, HB4.out⟩
            | true =>
              have HNX2 := Lib.hid (HNX.out (HQ1.out.1 rfl))
              clear HNX HNO HQ1
              go_upto_region 17 with fail
              go_cut [66] (fun v wy => v = .bool (decide (0 < j) && decide (x1 ≤ (l.tgts.getD (j - 1) (0, 0, 0)).1)) ∧ Below wc.heap.size wc wy)
              case first =>
                clear HNX2 HNB
                by_cases h0 : 0 < j
                · have r2 : decide ((0 : Int) < (j : Int)) = true := decide_eq_true (by omega)
                  have p0 := HP4.out h0
                  have r1 : IntKind.i64.wrap ((j : Int) - 1) = ((j - 1 : Nat) : Int) := by rw [IntWalk.i64_in _ (by omega)]; omega
                  have r3 : j - 1 < l.tgts.length := by omega
                  have HGD := Lib.hid (show l.tgts.getD (j - 1) (0, 0, 0) = l.tgts[j - 1] by simp [List.getD, r3])
                  clear HP4
                  generalize l.tgts[j - 1] = y at *
                  obtain ⟨y1, y2, y3⟩ := y
                  simp only at p0
                  go_quiet (fail)
                  go_wp2_with fail
                  go_meet
                  exact ⟨by rw [HGD.out, decide_eq_true h0]; rfl, drewN_below (Below.refl _ _) nq⟩
                · obtain rfl : j = 0 := by omega
                  clear HP4
                  go_quiet (fail)
                  go_wp2_with fail
                  go_meet
                  exact ⟨rfl, drewN_below (Below.refl _ _) nq⟩
              case rest =>
                obtain ⟨rfl, hbw⟩ := hcut
                rename World => wd
                have HBW := Lib.hid (below_up HB4.out hbw HB4.out.size)
                have HXW := Lib.hid (HX4.out.below hbw HX4.out.lt)
                have HQ := Lib.hid (show (decide (0 < j) && decide (x1 ≤ (l.tgts.getD (j - 1) (0, 0, 0)).1)) = false ↔ ∀ hp : 0 < j, TgtRise (l.tgts[j - 1]'(by omega)) (x1, x2, x3) from by
                  have e : ∀ hp : 0 < j, l.tgts.getD (j - 1) (0, 0, 0) = l.tgts[j - 1]'(by omega) := fun hp => by simp [List.getD, show j - 1 < l.tgts.length by omega]
                  constructor
                  · intro g hp
                    rw [decide_eq_true hp, Bool.true_and, e hp] at g
                    have := of_decide_eq_false g
                    show _ < x1
                    omega
                  · intro g
                    by_cases hp : 0 < j
                    · rw [decide_eq_true hp, Bool.true_and, e hp]
                      have : _ < x1 := g hp
                      exact decide_eq_false (by omega)
                    · rw [decide_eq_false hp, Bool.false_and])
                clear hbw m0 m1 m2 kl HP4 HBX
                generalize (decide (0 < j) && decide (x1 ≤ (l.tgts.getD (j - 1) (0, 0, 0)).1)) = q at *
                cases q with
                | true =>
                  go_wp2_with fail
                  go_ret
                  exact ⟨⟨_, rfl, ⟨fun g => absurd g (by decide), fun g => absurd (HQ.out.2 (HNB.out g)) (by decide)⟩⟩, HBW.out⟩
                | false =>
                  have HIN := Lib.hid (show LgInv l (.slice ta l.tests.length tc) (.slice (some ⟨b, of', none⟩) l.tgts.length gc) w wd (j + 1) from ⟨hlt, HNX2.out (HQ.out.1 rfl), HXW.out, HBW.out⟩)
                  clear HNX2 HQ HNB
                  go_wp2_with fail
                  go_roundw
                  case rel => exact ⟨j + 1, by go_num, HIN.out⟩
                  case measure => simp [intOf]; omega
        · obtain rfl : j = l.tgts.length := by omega
          have hfull := HJ.out.fine
          rw [List.take_length] at hfull
          have HMK3 := Lib.hid (HMK2.out hfull)
          clear hfull
          go_wp2_with fail
          go_ret
          exact ⟨⟨_, rfl, ⟨fun _ => HMK3.out, fun _ => rfl⟩⟩, HJ.out.below⟩
end Go.Proofs.YtllcgcnebofdoaaGreatDoor
