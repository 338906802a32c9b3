/- The walk of route.CheckSteps. -/
import Derived.Test.YtemikhnkjligdaaGreatDoorQRfIdx
namespace Go.Proofs.YtemikhnkjligdaaGreatDoor
open Go.RowKit

structure StInv (l : List StD) (w wr : World) (i : Nat) : Prop where
  le : i ≤ l.length
  fine : Lst StOne StRise (l.take i)
  below : Below w.heap.size w wr
set_option maxRecDepth 100000 in
set_option maxHeartbeats 4000000 in
theorem CheckSteps_any (l : List StD) (v : Value) (w : World) (h : Sts w v l) :
    Calls Tryz.prog 15 #[v] w fun e w' => (∃ k, e = .returned (.int .i64 k) ∧ (k = 0 ↔ StFine l)) ∧ Below w.heap.size w w' := by
  obtain ⟨a, cap, rfl⟩ := SliceAt.len h
  have H := Lib.hid h
  clear h
  go_enter Tryz.func15, Tryz.ntmps15
  by_cases hl : 8 < l.length
  · have q1 : decide ((8 : Int) < (l.length : Int)) = true := decide_eq_true (by omega)
    have HL := Lib.hid hl
    clear hl
    go_wp2_with fail
    go_ret
    exact ⟨⟨_, rfl, ⟨fun g => absurd g (by decide), fun g => absurd g.1 (by have := HL.out; omega)⟩⟩, Below.refl _ _⟩
  have q1 : decide ((8 : Int) < (l.length : Int)) = false := decide_eq_false (by omega)
  have hl8 : l.length ≤ 8 := by omega
  clear hl
  go_wp2_with fail
  go_loopw [10] (fun iv wr => ∃ i : Nat, iv = .int .i64 ((i : Nat) : Int) ∧ StInv l w wr i) (fun iv _ => l.length - (intOf iv).toNat)
  case atStart => exact ⟨0, rfl, Nat.zero_le _, by rw [List.take_zero]; exact Lst.nil, Below.refl _ _⟩
  case round =>
    obtain ⟨i, rfl, hI⟩ := hrel
    have HI := Lib.hid hI
    have hi := hI.le
    clear hI
    by_cases hlt : i < l.length
    · obtain ⟨b, of', cap', hv, hb, hel⟩ := Sts.at H.out (by omega)
      cases hv
      obtain ⟨e0, e1, e2⟩ := hel i hlt
      have c0 := (below_cell HI.out.below hb).trans e0
      have c1 := (below_cell HI.out.below hb).trans e1
      have c2 := (below_cell HI.out.below hb).trans e2
      have HP := Lib.hid (fun hp : 0 < i => (hel (i - 1) (by omega)))
      have HNX := Lib.hid (fun hx ho => Lst.next HI.out.fine hlt hx ho)
      have HNO := Lib.hid (show StFine l → StOne l[i] from fun g => g.2.each i hlt)
      have HNB := Lib.hid (show StFine l → ∀ hp : 0 < i, StRise (l[i - 1]'(by omega)) l[i] from fun g hp => g.2.before hlt hp)
      clear e0 e1 e2 hel
      generalize l[i] = s at *
      obtain ⟨x1, x2, x3⟩ := s
      simp only at c0 c1 c2
      go_upto_region 6 with fail
      obtain ⟨bx, bbl⟩ := box1 wr #[.int .i64 x1, .int .i64 x2, .bool x3] 85
      have HB4 := Lib.hid (below_up HI.out.below bbl HI.out.below.size)
      have HBX := Lib.hid bx
      have k0 := bx.cell 0
      have k1 := bx.cell 1
      generalize wr.alloc (.cells #[.int .i64 x1, .int .i64 x2, .bool x3] 85) = wb at *
      generalize wr.heap.size = B at *
      clear bx bbl c0 c1 c2
      by_cases g1 : (1 ≤ x1 ∧ x1 ≤ 3000000) ∧ 0 ≤ x2 ∧ x2 ≤ 9
      · have q2 : (decide ((1 : Int) ≤ x1) && decide (x1 ≤ 3000000)) = true := by simpa using g1.1
        have q3 : (decide ((0 : Int) ≤ x2) && decide (x2 ≤ 9)) = true := by simpa using g1.2
        go_upto_region 8 with (go_at_call 28; refine (rwithin_any _ _ _ _).mono ?_; rintro e w' ⟨rfl, rfl⟩)
        go_cut [37] (fun v wx => v = .bool (decide (0 < i) && decide (x1 ≤ (l.getD (i - 1) ⟨0, 0, false⟩).after)) ∧ Below wb.heap.size wb wx)
        case first =>
          clear q2 q3
          by_cases h0 : 0 < i
          · have r2 : decide ((0 : Int) < (i : Int)) = true := decide_eq_true (by omega)
            obtain ⟨p0, -, -⟩ := HP.out h0
            have p0 := (below_cell HB4.out hb).trans p0
            have r1 : IntKind.i64.wrap ((i : Int) - 1) = ((i - 1 : Nat) : Int) := by rw [IntWalk.i64_in _ (by omega)]; omega
            have r3 : i - 1 < l.length := by omega
            have HGD := Lib.hid (show l.getD (i - 1) ⟨0, 0, false⟩ = l[i - 1] by simp [List.getD, r3])
            clear HP HNX HNO HNB
            generalize l[i - 1] = y at *
            obtain ⟨y1, y2, y3⟩ := y
            simp only at p0
            go_quiet (fail)
            go_wp2_with fail
            go_meet
            exact ⟨by rw [HGD.out, decide_eq_true h0]; rfl, drewN_below (Below.refl _ _) nq⟩
          · obtain rfl : i = 0 := by omega
            clear HP HNX HNO HNB
            go_quiet (fail)
            go_wp2_with fail
            go_meet
            exact ⟨rfl, drewN_below (Below.refl _ _) nq⟩
        case rest =>
          obtain ⟨rfl, hbw⟩ := hcut
          have HBW := Lib.hid (below_up HB4.out hbw HB4.out.size)
          have HQ := Lib.hid (show (decide (0 < i) && decide (x1 ≤ (l.getD (i - 1) ⟨0, 0, false⟩).after)) = false ↔ ∀ hp : 0 < i, StRise (l[i - 1]'(by omega)) ⟨x1, x2, x3⟩ from by
            have e : ∀ hp : 0 < i, l.getD (i - 1) ⟨0, 0, false⟩ = l[i - 1]'(by omega) := fun hp => by simp [List.getD, show i - 1 < l.length by omega]
            constructor
            · intro g hp
              rw [decide_eq_true hp, Bool.true_and, e hp] at g
              have := of_decide_eq_false g
              show _ < x1
              omega
            · intro g
              by_cases hp : 0 < i
              · rw [decide_eq_true hp, Bool.true_and, e hp]
                have : _ < x1 := g hp
                exact decide_eq_false (by omega)
              · rw [decide_eq_false hp, Bool.false_and])
          clear hbw k0 k1 q2 q3
          generalize (decide (0 < i) && decide (x1 ≤ (l.getD (i - 1) ⟨0, 0, false⟩).after)) = q at *
          cases q with
          | true =>
            go_wp2_with fail
            go_ret
            exact ⟨⟨_, rfl, ⟨fun g => absurd g (by decide), fun g => absurd (HQ.out.2 (HNB.out g)) (by decide)⟩⟩, HBW.out⟩
          | false =>
            have HNX2 := Lib.hid (HNX.out ⟨g1.1, g1.2⟩ (HQ.out.1 rfl))
            clear HNX HP HNO HNB g1 HQ
            go_wp2_with fail
            go_roundw
            case rel => exact ⟨i + 1, by go_num, hlt, HNX2.out, HBW.out⟩
            case measure => simp [intOf]; omega
      · have HC := Lib.hid (show ¬ StFine l from fun g => g1 ⟨(HNO.out g).1, (HNO.out g).2⟩)
        clear HNX HP HNO HNB
        by_cases g2 : 1 ≤ x1 ∧ x1 ≤ 3000000
        · have q2 : (decide ((1 : Int) ≤ x1) && decide (x1 ≤ 3000000)) = true := by simpa using g2
          have q3 : (decide ((0 : Int) ≤ x2) && decide (x2 ≤ 9)) = false := by simp; omega
          clear g1 g2
          go_wp2_with (go_at_call 28; refine (rwithin_any _ _ _ _).mono ?_; rintro e w' ⟨rfl, rfl⟩)
          go_ret
          exact ⟨⟨_, rfl, ⟨fun g => absurd g (by decide), fun g => absurd g HC.out⟩⟩, HB4.out⟩
        · have q2 : (decide ((1 : Int) ≤ x1) && decide (x1 ≤ 3000000)) = false := by simp; omega
          clear g1 g2
          go_wp2_with (go_at_call 28; refine (rwithin_any _ _ _ _).mono ?_; rintro e w' ⟨rfl, rfl⟩)
          go_ret
          exact ⟨⟨_, rfl, ⟨fun g => absurd g (by decide), fun g => absurd g HC.out⟩⟩, HB4.out⟩
    · obtain rfl : i = l.length := by omega
      have hf := HI.out.fine
      rw [List.take_length] at hf
      have HF := Lib.hid (show StFine l from ⟨hl8, hf⟩)
      clear hf
      go_wp2_with fail
      go_ret
      exact ⟨⟨_, rfl, ⟨fun _ => HF.out, fun _ => rfl⟩⟩, HI.out.below⟩
end Go.Proofs.YtemikhnkjligdaaGreatDoor

/- The walks of route's checks of what is held. -/
namespace Go.Proofs.YtemikhnkjligdaaGreatDoor
open Go.RowKit

theorem pos_neg {ps : List PerD} {no k : Int} (h : PosIs ps no k) : k < 0 ↔ ¬ ∃ p ∈ ps, p.no = no := by
  rcases h with ⟨rfl, h⟩ | ⟨n, hn, rfl, h, _⟩
  · constructor
    · rintro _ ⟨p, hp, e⟩
      have := h p hp
      rw [e] at this
      simp at this
    · intro _; omega
  · constructor
    · intro g; omega
    · intro g
      exact absurd ⟨ps[n], List.getElem_mem hn, by simpa using h⟩ g
structure HdInv (ps : List PerD) (l : List HdD) (w wr : World) (i : Nat) : Prop where
  le : i ≤ l.length
  fine : Lst (HdOne ps) HdRise (l.take i)
  below : Below w.heap.size w wr
set_option maxRecDepth 100000 in
set_option maxHeartbeats 4000000 in
theorem checkHeld_any (ps : List PerD) (vp : Value) (l : List HdD) (v : Value) (w : World) (hp : Pers w vp ps) (hpl : ps.length ≤ 9223372036854775807) (h : Hds w v l) :
    Calls Tryz.prog 13 #[vp, v] w fun e w' => (∃ k, e = .returned (.int .i64 k) ∧ (k = 0 ↔ HdFine ps l)) ∧ Below w.heap.size w w' := by
  obtain ⟨a, cap, rfl⟩ := SliceAt.len h
  have H := Lib.hid h
  have HPS := Lib.hid hp
  have HPL := Lib.hid hpl
  clear h hp hpl
  go_enter Tryz.func13, Tryz.ntmps13
  by_cases hl : 400 < l.length
  · have q1 : decide ((400 : Int) < (l.length : Int)) = true := decide_eq_true (by omega)
    have HL := Lib.hid hl
    clear hl
    go_wp2_with fail
    go_ret
    exact ⟨⟨_, rfl, ⟨fun g => absurd g (by decide), fun g => absurd g.1 (by have := HL.out; omega)⟩⟩, Below.refl _ _⟩
  have q1 : decide ((400 : Int) < (l.length : Int)) = false := decide_eq_false (by omega)
  have hl8 : l.length ≤ 400 := by omega
  clear hl
  go_wp2_with fail
  go_loopw [12] (fun iv wr => ∃ i : Nat, iv = .int .i64 ((i : Nat) : Int) ∧ HdInv ps l w wr i) (fun iv _ => l.length - (intOf iv).toNat)
  case atStart => exact ⟨0, rfl, Nat.zero_le _, by rw [List.take_zero]; exact Lst.nil, Below.refl _ _⟩
  case round =>
    obtain ⟨i, rfl, hI⟩ := hrel
    have HI := Lib.hid hI
    have hi := hI.le
    clear hI
    by_cases hlt : i < l.length
    · obtain ⟨b, of', cap', hv, hb, hel⟩ := Hds.at H.out (by omega)
      cases hv
      obtain ⟨e0, e1, e2, e3⟩ := hel i hlt
      have c0 := (below_cell HI.out.below hb).trans e0
      have c1 := (below_cell HI.out.below hb).trans e1
      have c2 := (below_cell HI.out.below hb).trans e2
      have c3 := (below_cell HI.out.below hb).trans e3
      have HP := Lib.hid (fun hp : 0 < i => (hel (i - 1) (by omega)))
      have HNX := Lib.hid (fun hx ho => Lst.next HI.out.fine hlt hx ho)
      have HNO := Lib.hid (show HdFine ps l → HdOne ps l[i] from fun g => g.2.each i hlt)
      have HNB := Lib.hid (show HdFine ps l → ∀ hp : 0 < i, HdRise (l[i - 1]'(by omega)) l[i] from fun g hp => g.2.before hlt hp)
      clear e0 e1 e2 e3 hel
      generalize l[i] = s at *
      obtain ⟨x1, x2, x3, x4⟩ := s
      simp only at c0 c1 c2 c3
      go_upto_region 6 with fail
      obtain ⟨bx, bbl⟩ := box1 wr #[.int .i64 x1, .int .i64 x2, .int .i64 x3, .int .i64 x4] 33
      have HB4 := Lib.hid (below_up HI.out.below bbl HI.out.below.size)
      have HBX := Lib.hid bx
      have k0 := bx.cell 0
      have k1 := bx.cell 1
      have k2 := bx.cell 2
      have k3 := bx.cell 3
      generalize wr.alloc (.cells #[.int .i64 x1, .int .i64 x2, .int .i64 x3, .int .i64 x4] 33) = wb at *
      generalize wr.heap.size = B at *
      clear bx bbl c0 c1 c2 c3
      by_cases g1 : 1 ≤ x1 ∧ x1 ≤ 400
      · have q2 : (decide ((1 : Int) ≤ x1) && decide (x1 ≤ 400)) = true := by simpa using g1
        go_upto_region 8 with (go_at_call 28; refine (rwithin_any _ _ _ _).mono ?_; rintro e w' ⟨rfl, rfl⟩)
        go_cut [22] (fun v wx => v = .bool (decide (0 < i) && decide (x1 ≤ (l.getD (i - 1) ⟨0, 0, 0, 0⟩).ticket)) ∧ Below wb.heap.size wb wx)
        case first =>
          clear q2
          by_cases h0 : 0 < i
          · have r2 : decide ((0 : Int) < (i : Int)) = true := decide_eq_true (by omega)
            obtain ⟨p0, -, -, -⟩ := HP.out h0
            have p0 := (below_cell HB4.out hb).trans p0
            have r1 : IntKind.i64.wrap ((i : Int) - 1) = ((i - 1 : Nat) : Int) := by rw [IntWalk.i64_in _ (by omega)]; omega
            have r3 : i - 1 < l.length := by omega
            have HGD := Lib.hid (show l.getD (i - 1) ⟨0, 0, 0, 0⟩ = l[i - 1] by simp [List.getD, r3])
            clear HP HNX HNO HNB
            generalize l[i - 1] = y at *
            obtain ⟨y1, y2, y3, y4⟩ := y
            simp only at p0
            go_quiet (fail)
            go_wp2_with fail
            go_meet
            exact ⟨by rw [HGD.out, decide_eq_true h0]; rfl, drewN_below (Below.refl _ _) nq⟩
          · obtain rfl : i = 0 := by omega
            clear HP HNX HNO HNB
            go_quiet (fail)
            go_wp2_with fail
            go_meet
            exact ⟨rfl, drewN_below (Below.refl _ _) nq⟩
        case rest =>
          obtain ⟨rfl, hbw⟩ := hcut
          have HBW := Lib.hid (below_up HB4.out hbw HB4.out.size)
          have k1 := (below_cell hbw HBX.out.lt).trans k1
          have k2 := (below_cell hbw HBX.out.lt).trans k2
          have k3 := (below_cell hbw HBX.out.lt).trans k3
          have HBXL := Lib.hid (Nat.lt_of_lt_of_le HBX.out.lt hbw.size)
          have HQ := Lib.hid (show (decide (0 < i) && decide (x1 ≤ (l.getD (i - 1) ⟨0, 0, 0, 0⟩).ticket)) = false ↔ ∀ hp : 0 < i, HdRise (l[i - 1]'(by omega)) ⟨x1, x2, x3, x4⟩ from by
            have e : ∀ hp : 0 < i, l.getD (i - 1) ⟨0, 0, 0, 0⟩ = l[i - 1]'(by omega) := fun hp => by simp [List.getD, show i - 1 < l.length by omega]
            constructor
            · intro g hp
              rw [decide_eq_true hp, Bool.true_and, e hp] at g
              have := of_decide_eq_false g
              show _ < x1
              omega
            · intro g
              by_cases hp : 0 < i
              · rw [decide_eq_true hp, Bool.true_and, e hp]
                have : _ < x1 := g hp
                exact decide_eq_false (by omega)
              · rw [decide_eq_false hp, Bool.false_and])
          clear hbw k0 q2
          generalize (decide (0 < i) && decide (x1 ≤ (l.getD (i - 1) ⟨0, 0, 0, 0⟩).ticket)) = q at *
          cases q with
          | true =>
            go_wp2_with fail
            go_ret
            exact ⟨⟨_, rfl, ⟨fun g => absurd g (by decide), fun g => absurd (HQ.out.2 (HNB.out g)) (by decide)⟩⟩, HBW.out⟩
          | false =>
            have HNX2 := Lib.hid (fun hx => HNX.out hx (HQ.out.1 rfl))
            clear HNX HP HNB HQ
            go_wp2_with fail
            refine (position_any vp ps x2 wc (HPS.out.below HBW.out) HPL.out).mono ?_
            rintro e w7 ⟨⟨pk, rfl, hpk⟩, hb7⟩
            have HB7 := Lib.hid (below_up HBW.out hb7 HBW.out.size)
            have k2 := (below_cell hb7 HBXL.out).trans k2
            have k3 := (below_cell hb7 HBXL.out).trans k3
            have HPN := Lib.hid (pos_neg hpk)
            clear hpk hb7 k1
            by_cases hk : pk < 0
            · have r5 : decide (pk < 0) = true := decide_eq_true hk
              have HC := Lib.hid (show ¬ HdFine ps l from fun g => HPN.out.1 hk (HNO.out g).2.1)
              clear HNX2 HNO hk g1
              go_wp2_with fail
              go_ret
              exact ⟨⟨_, rfl, ⟨fun g => absurd g (by decide), fun g => absurd g HC.out⟩⟩, HB7.out⟩
            · have r5 : decide (pk < 0) = false := decide_eq_false hk
              have HEX := Lib.hid (Decidable.not_not.1 (fun g => hk (HPN.out.2 g)))
              clear hk HPN
              by_cases g2 : 1 ≤ x3 ∧ x3 ≤ 20
              · have q2 : (decide ((1 : Int) ≤ x3) && decide (x3 ≤ 20)) = true := by simpa using g2
                by_cases g3 : 0 ≤ x4 ∧ x4 ≤ 3000000
                · have q3 : (decide ((0 : Int) ≤ x4) && decide (x4 ≤ 3000000)) = true := by simpa using g3
                  have HNX3 := Lib.hid (HNX2.out ⟨g1, HEX.out, g2, g3⟩)
                  clear HNX2 HNO g1 g2 g3 HEX
                  go_wp2_with (go_at_call 28; refine (rwithin_any _ _ _ _).mono ?_; rintro e w' ⟨rfl, rfl⟩)
                  go_roundw
                  case rel => exact ⟨i + 1, by go_num, hlt, HNX3.out, HB7.out⟩
                  case measure => simp [intOf]; omega
                · have q3 : (decide ((0 : Int) ≤ x4) && decide (x4 ≤ 3000000)) = false := by simp; omega
                  have HC := Lib.hid (show ¬ HdFine ps l from fun g => g3 (HNO.out g).2.2.2)
                  clear HNX2 HNO g1 g2 g3 HEX
                  go_wp2_with (go_at_call 28; refine (rwithin_any _ _ _ _).mono ?_; rintro e w' ⟨rfl, rfl⟩)
                  go_ret
                  exact ⟨⟨_, rfl, ⟨fun g => absurd g (by decide), fun g => absurd g HC.out⟩⟩, HB7.out⟩
              · have q2 : (decide ((1 : Int) ≤ x3) && decide (x3 ≤ 20)) = false := by simp; omega
                have HC := Lib.hid (show ¬ HdFine ps l from fun g => g2 (HNO.out g).2.2.1)
                clear HNX2 HNO g1 g2 HEX
                go_wp2_with (go_at_call 28; refine (rwithin_any _ _ _ _).mono ?_; rintro e w' ⟨rfl, rfl⟩)
                go_ret
                exact ⟨⟨_, rfl, ⟨fun g => absurd g (by decide), fun g => absurd g HC.out⟩⟩, HB7.out⟩
      · have q2 : (decide ((1 : Int) ≤ x1) && decide (x1 ≤ 400)) = false := by simp; omega
        have HC := Lib.hid (show ¬ HdFine ps l from fun g => g1 (HNO.out g).1)
        clear HNX HP HNO HNB g1
        go_wp2_with (go_at_call 28; refine (rwithin_any _ _ _ _).mono ?_; rintro e w' ⟨rfl, rfl⟩)
        go_ret
        exact ⟨⟨_, rfl, ⟨fun g => absurd g (by decide), fun g => absurd g HC.out⟩⟩, HB4.out⟩
    · obtain rfl : i = l.length := by omega
      have hf := HI.out.fine
      rw [List.take_length] at hf
      have HF := Lib.hid (show HdFine ps l from ⟨hl8, hf⟩)
      clear hf
      go_wp2_with fail
      go_ret
      exact ⟨⟨_, rfl, ⟨fun _ => HF.out, fun _ => rfl⟩⟩, HI.out.below⟩
set_option maxRecDepth 100000 in
theorem CheckHeld_any (ps : List PerD) (vp : Value) (l : List HdD) (v : Value) (w : World) (hp : Pers w vp ps) (hpl : ps.length ≤ 9223372036854775807) (h : Hds w v l) :
    Calls Tryz.prog 6 #[vp, v] w fun e w' => (∃ k, e = .returned (.int .i64 k) ∧ (k = 0 ↔ PpFine ps ∧ HdFine ps l)) ∧ Below w.heap.size w w' := by
  have H := Lib.hid h
  have HPS := Lib.hid hp
  have HPL := Lib.hid hpl
  clear h hp hpl
  go_enter Tryz.func6, Tryz.ntmps6
  go_wp2_with fail
  refine (CheckPeople_any ps vp w HPS.out).mono ?_
  rintro e w2 ⟨⟨k, rfl, hk⟩, hb2⟩
  have HK := Lib.hid hk
  have HB2 := Lib.hid hb2
  clear hk hb2
  by_cases hz : k = 0
  · have HF := Lib.hid (HK.out.1 hz)
    subst hz
    clear HK
    go_wp2_with fail
    refine (checkHeld_any ps vp l v w2 (HPS.out.below HB2.out) HPL.out (H.out.below HB2.out)).mono ?_
    rintro e w3 ⟨⟨k, rfl, hk⟩, hb3⟩
    have HK := Lib.hid hk
    have HB3 := Lib.hid (below_up HB2.out hb3 HB2.out.size)
    clear hk hb3
    go_wp2_with fail
    go_ret
    exact ⟨⟨_, rfl, HK.out.trans ⟨fun g => ⟨HF.out, g⟩, fun g => g.2⟩⟩, HB3.out⟩
  · have qz : (k == 0) = false := by simpa using hz
    have qz2 : (k != 0) = true := by simpa using hz
    have HZ := Lib.hid hz
    clear hz
    go_wp2_with fail
    go_ret
    exact ⟨⟨_, rfl, ⟨fun g => absurd g HZ.out, fun g => HK.out.2 g.1⟩⟩, HB2.out⟩
end Go.Proofs.YtemikhnkjligdaaGreatDoor
