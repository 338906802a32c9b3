/- Points in memory, and the walk of level.CheckHistory. -/
import Derived.Test.YtllcgcnebofdoaaGreatDoorQCkLev
import Derived.Test.YtllcgcnebofdoaaGreatDoorQCkEach
namespace Go.Proofs.YtllcgcnebofdoaaGreatDoor
open Go.RowKit

def pntR (w : World) (cs : List Value) (x : PntD) : Prop := ∃ vv, cs = [.int .i64 x.at', .int .i64 x.kind, .int .i64 x.who, .int .i64 x.status, .int .i64 x.prio, vv] ∧ Vals w vv x.vals
theorem pntR_stable : Stable pntR := fun _ _ _ _ ⟨v, h1, h2⟩ hb => ⟨v, h1, h2.below hb⟩
def Pnts (w : World) (v : Value) (l : List PntD) : Prop := SliceAt 6 pntR w v l
theorem Pnts.below {w w' : World} {v : Value} {l : List PntD} (h : Pnts w v l) (hb : Below w.heap.size w w') : Pnts w' v l := SliceAt.stable pntR_stable h hb
theorem Pnts.at {w : World} {v : Value} {l : List PntD} (h : Pnts w v l) (hl : 0 < l.length) : ∃ b off cap, v = .slice (some ⟨b, off, none⟩) l.length cap ∧ b < w.heap.size ∧
    ∀ i (hi : i < l.length), ∃ vv, (w.cell? ⟨b, off + i * 6, none⟩ = some (.int .i64 l[i].at') ∧ w.cell? ⟨b, off + i * 6 + 1, none⟩ = some (.int .i64 l[i].kind) ∧ w.cell? ⟨b, off + i * 6 + 2, none⟩ = some (.int .i64 l[i].who) ∧
      w.cell? ⟨b, off + i * 6 + 3, none⟩ = some (.int .i64 l[i].status) ∧ w.cell? ⟨b, off + i * 6 + 4, none⟩ = some (.int .i64 l[i].prio) ∧ w.cell? ⟨b, off + i * 6 + 5, none⟩ = some vv) ∧ Vals w vv l[i].vals := by
  obtain ⟨b, off, cap, hv, hc, hb, hel⟩ := SliceAt.at h hl
  refine ⟨b, off, cap, hv, hb, fun i hi => ?_⟩
  obtain ⟨cs, ⟨_, h2⟩, vv, hr, hs⟩ := hel i hi
  cases hr
  exact ⟨vv, ⟨h2 0 (by simp), h2 1 (by simp), h2 2 (by simp), h2 3 (by simp), h2 4 (by simp), h2 5 (by simp)⟩, hs⟩
structure PntOne (x : PntD) : Prop where
  at' : 0 ≤ x.at' ∧ x.at' ≤ 3000000
  kind : 1 ≤ x.kind ∧ x.kind ≤ 10
  who : -1 ≤ x.who ∧ x.who ≤ 40
  status : 1 ≤ x.status ∧ x.status ≤ 6
  vals : x.vals.length ≤ 20
def PntRise (a b : PntD) : Prop := a.at' ≤ b.at'
structure HistOk (l : List PntD) : Prop where
  few : l.length ≤ 6000
  pts : Lst PntOne PntRise l
structure HiI (l : List PntD) (w wr : World) (i : Nat) : Prop where
  le : i ≤ l.length
  fine : Lst PntOne PntRise (l.take i)
  below : Below w.heap.size w wr
instance : Inhabited PntD := ⟨⟨0, 0, 0, 0, 0, []⟩⟩
set_option maxRecDepth 100000 in
set_option maxHeartbeats 8000000 in
theorem CheckHistory_any (l : List PntD) (v : Value) (w : World) (h : Pnts w v l) :
    Calls Tryz.prog 19 #[v] w fun e w' => (∃ k, e = .returned (.int .i64 k) ∧ (k = 0 ↔ HistOk l)) ∧ Below w.heap.size w w' := by
  obtain ⟨a, cap, rfl⟩ := SliceAt.len h
  have H := Lib.hid h
  have HO1 := Lib.hid (show HistOk l → l.length ≤ 6000 from fun g => g.few)
  have HO2 := Lib.hid (show HistOk l → Lst PntOne PntRise l from fun g => g.pts)
  have HMK := Lib.hid (show l.length ≤ 6000 → Lst PntOne PntRise l → HistOk l from fun a b => ⟨a, b⟩)
  clear h
  generalize HistOk l = T at *
  go_enter Tryz.func19, Tryz.ntmps19
  by_cases h8 : 6000 < l.length
  · have q : decide ((6000 : Int) < (l.length : Int)) = true := decide_eq_true (by omega)
    have H8 := Lib.hid h8
    clear h8
    go_wp2_with fail
    go_ret
    exact ⟨⟨_, rfl, ⟨fun g => absurd g (by decide), fun g => absurd (HO1.out g) (by have := H8.out; omega)⟩⟩, Below.refl _ _⟩
  have q : decide ((6000 : Int) < (l.length : Int)) = false := decide_eq_false (by omega)
  have hl6 : l.length ≤ 6000 := by omega
  clear h8
  go_wp2_with fail
  go_loopw [10] (fun iv wr => ∃ i : Nat, iv = .int .i64 ((i : Nat) : Int) ∧ HiI l w wr i) (fun iv _ => l.length - (intOf iv).toNat)
  case atStart => exact ⟨0, rfl, Nat.zero_le _, by rw [List.take_zero]; exact Lst.nil, Below.refl _ _⟩
  case round =>
    obtain ⟨i, rfl, hI⟩ := hrel
    have HI := Lib.hid hI
    have hi := hI.le
    clear hI
    by_cases hlt : i < l.length
    · obtain ⟨b, of', cap', hv, hb, hel⟩ := Pnts.at H.out (by omega)
      cases hv
      obtain ⟨vv, ⟨e0, e1, e2, e3, e4, e5⟩, hvv⟩ := hel i hlt
      obtain ⟨va, vc, rfl⟩ := SliceAt.len hvv
      have c0 := (below_cell HI.out.below hb).trans e0
      have c1 := (below_cell HI.out.below hb).trans e1
      have c2 := (below_cell HI.out.below hb).trans e2
      have c3 := (below_cell HI.out.below hb).trans e3
      have c4 := (below_cell HI.out.below hb).trans e4
      have c5 := (below_cell HI.out.below hb).trans e5
      have HP := Lib.hid (fun hp : 0 < i => (below_cell HI.out.below hb).trans (hel (i - 1) (by omega)).choose_spec.1.1)
      have HNX := Lib.hid (fun hx ho => Lst.next HI.out.fine hlt hx ho)
      have HNO := Lib.hid (show T → PntOne l[i] from fun g => (HO2.out g).each i hlt)
      have HNB := Lib.hid (show T → ∀ hp : 0 < i, PntRise (l[i - 1]'(by omega)) l[i] from fun g hp => (HO2.out g).before hlt hp)
      clear e0 e1 e2 e3 e4 e5 hel hvv
      generalize l[i] = t at *
      obtain ⟨x1, x2, x3, x4, x5, vs⟩ := t
      simp only at c0 c1 c2 c3 c4 c5 vc
      go_upto_region 6 with fail
      obtain ⟨bx, bbl⟩ := box1 wr #[.int .i64 x1, .int .i64 x2, .int .i64 x3, .int .i64 x4, .int .i64 x5, .slice va vs.length vc] 43
      have HB4 := Lib.hid (below_up HI.out.below bbl HI.out.below.size)
      have m0 := bx.cell 0
      have m1 := bx.cell 1
      have m2 := bx.cell 2
      have m3 := bx.cell 3
      have m5 := bx.cell 5
      have HP4 := Lib.hid (fun hp : 0 < i => (below_cell bbl (Nat.lt_of_lt_of_le hb HI.out.below.size)).trans (HP.out hp))
      have HBX := Lib.hid bx
      clear bx bbl c0 c1 c2 c3 c4 c5 HP
      generalize wr.alloc (.cells #[.int .i64 x1, .int .i64 x2, .int .i64 x3, .int .i64 x4, .int .i64 x5, .slice va vs.length vc] 43) = wb at *
      generalize wr.heap.size = D at *
      obtain ⟨b1, hb1⟩ : ∃ b, (decide ((0 : Int) ≤ x1) && decide (x1 ≤ 3000000)) = b := ⟨_, rfl⟩
      obtain ⟨b2, hb2⟩ : ∃ b, (decide ((1 : Int) ≤ x2) && decide (x2 ≤ 10)) = b := ⟨_, rfl⟩
      obtain ⟨b3, hb3⟩ : ∃ b, (decide ((-1 : Int) ≤ x3) && decide (x3 ≤ 40)) = b := ⟨_, rfl⟩
      obtain ⟨b4, hb4⟩ : ∃ b, (decide ((1 : Int) ≤ x4) && decide (x4 ≤ 6)) = b := ⟨_, rfl⟩
      have HQ := Lib.hid (show PntOne ⟨x1, x2, x3, x4, x5, vs⟩ ↔ b1 = true ∧ b2 = true ∧ b3 = true ∧ b4 = true ∧ vs.length ≤ 20 by
        rw [← hb1, ← hb2, ← hb3, ← hb4]
        simp only [Bool.and_eq_true, decide_eq_true_eq]
        exact ⟨fun g => ⟨g.at', g.kind, g.who, g.status, g.vals⟩, fun ⟨a, b, c, d, e⟩ => ⟨a, b, c, d, e⟩⟩)
      cases b1 with
      | false =>
        have HC := Lib.hid (show ¬ T from fun g => absurd (HQ.out.1 (HNO.out g)).1 (by decide))
        clear HNX HNO HNB HP4 HQ hb2 hb3 hb4
        go_wp2_with (go_at_call 27; refine (lwithin_any _ _ _ _).mono ?_; rw [hb1]; rintro e w' ⟨rfl, rfl⟩)
        go_ret
        exact ⟨⟨_, rfl, ⟨fun g => absurd g (by decide), fun g => absurd g HC.out⟩⟩, HB4.out⟩
      | true =>
        go_upto_region 8 with (go_at_call 27; refine (lwithin_any _ _ _ _).mono ?_; rw [hb1]; rintro e w' ⟨rfl, rfl⟩)
        clear hb1
        go_cut [20] (fun v wy => v = .bool (decide (0 < i) && decide (x1 < (l.getD (i - 1) default).at')) ∧ Below wb.heap.size wb wy)
        case first =>
          clear HNX HNB HNO HQ hb2 hb3 hb4
          by_cases h0 : 0 < i
          · have r2 : decide ((0 : Int) < (i : Int)) = true := decide_eq_true (by omega)
            have p0 := HP4.out h0
            have r1 : IntKind.i64.wrap ((i : Int) - 1) = ((i - 1 : Nat) : Int) := by rw [IntWalk.i64_in _ (by omega)]; omega
            have r3 : i - 1 < l.length := by omega
            have HGD := Lib.hid (show l.getD (i - 1) default = l[i - 1] by simp [List.getD, r3])
            clear HP4
            generalize l[i - 1] = y at *
            go_quiet (fail)
            go_wp2_with fail
            go_meet
            exact ⟨by rw [HGD.out, decide_eq_true h0]; rfl, drewN_below (Below.refl _ _) nq⟩
          · obtain rfl : i = 0 := by omega
            clear HP4
            go_quiet (fail)
            go_wp2_with fail
            go_meet
            exact ⟨rfl, drewN_below (Below.refl _ _) nq⟩
        case rest =>
          obtain ⟨rfl, hbw⟩ := hcut
          have HBW := Lib.hid (below_up HB4.out hbw HB4.out.size)
          have m1 := (below_cell hbw HBX.out.lt).trans m1
          have m2 := (below_cell hbw HBX.out.lt).trans m2
          have m3 := (below_cell hbw HBX.out.lt).trans m3
          have m5 := (below_cell hbw HBX.out.lt).trans m5
          have HR := Lib.hid (show (decide (0 < i) && decide (x1 < (l.getD (i - 1) default).at')) = false ↔ ∀ hp : 0 < i, PntRise (l[i - 1]'(by omega)) ⟨x1, x2, x3, x4, x5, vs⟩ from by
            have e : ∀ hp : 0 < i, l.getD (i - 1) default = l[i - 1]'(by omega) := fun hp => by simp [List.getD, show i - 1 < l.length by omega]
            constructor
            · intro g hp
              rw [decide_eq_true hp, Bool.true_and, e hp] at g
              have := of_decide_eq_false g
              show _ ≤ x1
              omega
            · intro g
              by_cases hp : 0 < i
              · rw [decide_eq_true hp, Bool.true_and, e hp]
                have : _ ≤ x1 := g hp
                exact decide_eq_false (by omega)
              · rw [decide_eq_false hp, Bool.false_and])
          clear hbw m0 HP4 HBX
          generalize (decide (0 < i) && decide (x1 < (l.getD (i - 1) default).at')) = q at *
          cases q with
          | true =>
            go_wp2_with fail
            go_ret
            exact ⟨⟨_, rfl, ⟨fun g => absurd g (by decide), fun g => absurd (HR.out.2 (HNB.out g)) (by decide)⟩⟩, HBW.out⟩
          | false =>
            have HNX2 := Lib.hid (fun hx => HNX.out hx (HR.out.1 rfl))
            clear HNX HR HNB
            cases b2 with
            | false =>
              have HC := Lib.hid (show ¬ T from fun g => absurd (HQ.out.1 (HNO.out g)).2.1 (by decide))
              clear HNX2 HNO HQ hb3 hb4
              go_wp2_with (go_at_call 27; refine (lwithin_any _ _ _ _).mono ?_; rw [hb2]; rintro e w' ⟨rfl, rfl⟩)
              go_ret
              exact ⟨⟨_, rfl, ⟨fun g => absurd g (by decide), fun g => absurd g HC.out⟩⟩, HBW.out⟩
            | true =>
              cases b3 with
              | false =>
                have HC := Lib.hid (show ¬ T from fun g => absurd (HQ.out.1 (HNO.out g)).2.2.1 (by decide))
                clear HNX2 HNO HQ hb4
                go_wp2_with (go_at_call 27; refine (lwithin_any _ _ _ _).mono ?_; (first | rw [hb2] | rw [hb3]); rintro e w' ⟨rfl, rfl⟩)
                go_ret
                exact ⟨⟨_, rfl, ⟨fun g => absurd g (by decide), fun g => absurd g HC.out⟩⟩, HBW.out⟩
              | true =>
                cases b4 with
                | false =>
                  have HC := Lib.hid (show ¬ T from fun g => absurd (HQ.out.1 (HNO.out g)).2.2.2.1 (by decide))
                  clear HNX2 HNO HQ
                  go_wp2_with (go_at_call 27; refine (lwithin_any _ _ _ _).mono ?_; (first | rw [hb2] | rw [hb3] | rw [hb4]); rintro e w' ⟨rfl, rfl⟩)
                  go_ret
                  exact ⟨⟨_, rfl, ⟨fun g => absurd g (by decide), fun g => absurd g HC.out⟩⟩, HBW.out⟩
                | true =>
                  by_cases hv5 : 20 < vs.length
                  · have q5 : decide ((20 : Int) < (vs.length : Int)) = true := decide_eq_true (by omega)
                    have HC := Lib.hid (show ¬ T from fun g => absurd (HQ.out.1 (HNO.out g)).2.2.2.2 (by omega))
                    clear HNX2 HNO HQ hv5
                    go_wp2_with (go_at_call 27; refine (lwithin_any _ _ _ _).mono ?_; (first | rw [hb2] | rw [hb3] | rw [hb4]); rintro e w' ⟨rfl, rfl⟩)
                    go_ret
                    exact ⟨⟨_, rfl, ⟨fun g => absurd g (by decide), fun g => absurd g HC.out⟩⟩, HBW.out⟩
                  · have q5 : decide ((20 : Int) < (vs.length : Int)) = false := decide_eq_false (by omega)
                    have HIN := Lib.hid (show HiI l w wc (i + 1) from ⟨hlt, HNX2.out (HQ.out.2 (by refine ⟨?_, ?_, ?_, ?_, ?_⟩ <;> first | trivial | rfl | omega)), HBW.out⟩)
                    clear HNX2 HNO HQ hv5
                    go_wp2_with (go_at_call 27; refine (lwithin_any _ _ _ _).mono ?_; (first | rw [hb2] | rw [hb3] | rw [hb4]); rintro e w' ⟨rfl, rfl⟩)
                    go_roundw
                    case rel => exact ⟨i + 1, by go_num, HIN.out⟩
                    case measure => simp [intOf]; omega
    · obtain rfl : i = l.length := by omega
      have hfull := HI.out.fine
      rw [List.take_length] at hfull
      have HT := Lib.hid (HMK.out hl6 hfull)
      clear hfull
      go_wp2_with fail
      go_ret
      exact ⟨⟨_, rfl, ⟨fun _ => HT.out, fun _ => rfl⟩⟩, HI.out.below⟩
end Go.Proofs.YtllcgcnebofdoaaGreatDoor

/- The walks of point's two functions of a clock. -/
namespace Go.Proofs.YtllcgcnebofdoaaGreatDoor
open Go.RowKit

def pntV (x : PntD) (vv : Value) : Array Value := #[.int .i64 x.at', .int .i64 x.kind, .int .i64 x.who, .int .i64 x.status, .int .i64 x.prio, vv]
/-- what point's first function of a clock holds by -/
def JMet (x : PntD) (vv : Value) (P O A : Nat) (w : World) : Prop := Has w P (pntV x vv) 43 ∧ Has w O #[.bool (overB x)] 4 ∧ Has w A #[.bool (ansB x)] 4
set_option maxRecDepth 100000 in
set_option maxHeartbeats 4000000 in
theorem met_show (x : PntD) (vv : Value) (P O A B b : Nat) (v : Value) (r : RunD) (w : World) (hJ : JMet x vv P O A w) (h : RM w B b v r) (hr : RunOk r) (hl : r.c.ps.length ≤ 1000000) :
    Calls Tryz.prog 44 #[.pointer (some ⟨b, 0, none⟩), .pointer (some ⟨P, 0, none⟩), .pointer (some ⟨O, 0, none⟩), .pointer (some ⟨A, 0, none⟩)] w (RunPost w B b v (metF x r)) := by
  have p0 := hJ.1.cell 0
  have p1 := hJ.1.cell 1
  have p3 := hJ.1.cell 3
  have o0 := hJ.2.1.cell 0
  have a0 := hJ.2.2.cell 0
  have k0 := h.box.cell 0
  unfold pntV at p0 p1 p3
  unfold runV at k0
  have H := Lib.hid h
  have HE1 := Lib.hid (fun how => end_any B b v r x.at' how w h hr hl)
  have HF1 := Lib.hid (show (x.kind = 7 ∧ x.status = 6) → metF x r = endF' x.at' 2 r from fun g => by unfold metF; rw [if_pos g])
  have HF2 := Lib.hid (show ¬ (x.kind = 7 ∧ x.status = 6) → ((r.c.kind = 3 ∧ overB x = true) ∨ (r.c.kind ≠ 3 ∧ ansB x = true)) → metF x r = endF' x.at' 1 r from fun g g2 => by unfold metF; rw [if_neg g, if_pos g2])
  have HF3 := Lib.hid (show ¬ (x.kind = 7 ∧ x.status = 6) → ¬ ((r.c.kind = 3 ∧ overB x = true) ∨ (r.c.kind ≠ 3 ∧ ansB x = true)) → metF x r = r from fun g g2 => by unfold metF; rw [if_neg g, if_neg g2])
  generalize metF x r = r' at *
  clear hJ h hr
  generalize overB x = ov at *
  generalize ansB x = an at *
  obtain ⟨t, xk, xw, xs, xp, xv⟩ := x
  simp only at *
  go_enter Tryz.func44, Tryz.ntmps44
  by_cases g1 : xk = 7
  · by_cases g2 : xs = 6
    · have HF := Lib.hid (HF1.out ⟨g1, g2⟩)
      subst g1 g2
      clear HF1 HF2 HF3
      go_wp2_with fail
      refine (HE1.out 2).mono ?_
      rintro e w3 ⟨⟨u, rfl⟩, hrest⟩
      have HZ := Lib.hid hrest
      clear hrest
      go_wp2_with fail
      go_end0
      exact ⟨⟨_, rfl⟩, by rw [HF.out]; exact HZ.out⟩
    · have q2 : (xs == 6) = false := by simpa using g2
      have q3 : decide (xs = 6) = false := decide_eq_false g2
      have hn : ¬ (xk = 7 ∧ xs = 6) := fun q => g2 q.2
      subst g1
      have HG1 := Lib.hid (fun g => HF2.out hn g)
      have HG2 := Lib.hid (fun g => HF3.out hn g)
      clear HF1 HF2 HF3 hn
      by_cases g3 : r.c.kind = 3
      · rw [g3] at k0
        cases ov with
        | true =>
          have HF := Lib.hid (HG1.out (.inl ⟨g3, rfl⟩))
          clear HG1 HG2 g3
          go_wp2_with fail
          refine (HE1.out 1).mono ?_
          rintro e w3 ⟨⟨u, rfl⟩, hrest⟩
          have HZ := Lib.hid hrest
          clear hrest
          go_wp2_with fail
          go_end0
          exact ⟨⟨_, rfl⟩, by rw [HF.out]; exact HZ.out⟩
        | false =>
          have HF := Lib.hid (HG2.out (fun q => by rcases q with q | q; exact absurd q.2 (by decide); exact q.1 g3))
          clear HG1 HG2 g3
          go_wp2_with fail
          go_end0
          exact ⟨⟨_, rfl⟩, v, by rw [HF.out]; exact H.out, One2.refl _ _ _, Fr.refl _ _⟩
      · have q4 : (r.c.kind == 3) = false := by simpa using g3
        have q6 : (r.c.kind != 3) = true := by simpa using g3
        have q5 : decide (r.c.kind = 3) = false := decide_eq_false g3
        cases an with
        | true =>
          have HF := Lib.hid (HG1.out (.inr ⟨g3, rfl⟩))
          clear HG1 HG2 g3
          generalize r.c.kind = rk at *
          go_wp2_with fail
          refine (HE1.out 1).mono ?_
          rintro e w3 ⟨⟨u, rfl⟩, hrest⟩
          have HZ := Lib.hid hrest
          clear hrest
          go_wp2_with fail
          go_end0
          exact ⟨⟨_, rfl⟩, by rw [HF.out]; exact HZ.out⟩
        | false =>
          have HF := Lib.hid (HG2.out (fun q => by rcases q with q | q; exact g3 q.1; exact absurd q.2 (by decide)))
          clear HG1 HG2 g3
          generalize r.c.kind = rk at *
          go_wp2_with fail
          go_end0
          exact ⟨⟨_, rfl⟩, v, by rw [HF.out]; exact H.out, One2.refl _ _ _, Fr.refl _ _⟩
  · have q2 : (xk == 7) = false := by simpa using g1
    have q3 : decide (xk = 7) = false := decide_eq_false g1
    have hn : ¬ (xk = 7 ∧ xs = 6) := fun q => g1 q.1
    have HG1 := Lib.hid (fun g => HF2.out hn g)
    have HG2 := Lib.hid (fun g => HF3.out hn g)
    clear HF1 HF2 HF3 hn
    by_cases g3 : r.c.kind = 3
    · rw [g3] at k0
      cases ov with
      | true =>
        have HF := Lib.hid (HG1.out (.inl ⟨g3, rfl⟩))
        clear HG1 HG2 g3
        go_wp2_with fail
        refine (HE1.out 1).mono ?_
        rintro e w3 ⟨⟨u, rfl⟩, hrest⟩
        have HZ := Lib.hid hrest
        clear hrest
        go_wp2_with fail
        go_end0
        exact ⟨⟨_, rfl⟩, by rw [HF.out]; exact HZ.out⟩
      | false =>
        have HF := Lib.hid (HG2.out (fun q => by rcases q with q | q; exact absurd q.2 (by decide); exact q.1 g3))
        clear HG1 HG2 g3
        go_wp2_with fail
        go_end0
        exact ⟨⟨_, rfl⟩, v, by rw [HF.out]; exact H.out, One2.refl _ _ _, Fr.refl _ _⟩
    · have q4 : (r.c.kind == 3) = false := by simpa using g3
      have q6 : (r.c.kind != 3) = true := by simpa using g3
      have q5 : decide (r.c.kind = 3) = false := decide_eq_false g3
      cases an with
      | true =>
        have HF := Lib.hid (HG1.out (.inr ⟨g3, rfl⟩))
        clear HG1 HG2 g3
        generalize r.c.kind = rk at *
        go_wp2_with fail
        refine (HE1.out 1).mono ?_
        rintro e w3 ⟨⟨u, rfl⟩, hrest⟩
        have HZ := Lib.hid hrest
        clear hrest
        go_wp2_with fail
        go_end0
        exact ⟨⟨_, rfl⟩, by rw [HF.out]; exact HZ.out⟩
      | false =>
        have HF := Lib.hid (HG2.out (fun q => by rcases q with q | q; exact g3 q.1; exact absurd q.2 (by decide)))
        clear HG1 HG2 g3
        generalize r.c.kind = rk at *
        go_wp2_with fail
        go_end0
        exact ⟨⟨_, rfl⟩, v, by rw [HF.out]; exact H.out, One2.refl _ _ _, Fr.refl _ _⟩
/-- what point's second function of a clock holds by -/
def JPau (x : PntD) (vv : Value) (P O : Nat) (paused : Bool) (w : World) : Prop := Has w P (pntV x vv) 43 ∧ Has w O #[.bool paused] 4
set_option maxRecDepth 100000 in
set_option maxHeartbeats 4000000 in
theorem pau_show (x : PntD) (vv : Value) (P O B b : Nat) (paused : Bool) (v : Value) (r : RunD) (w : World) (hJ : JPau x vv P O paused w) (h : RM w B b v r) (hr : RunOk r) (hl : r.c.ps.length ≤ 1000000) (hB : B ≤ w.heap.size) :
    Calls Tryz.prog 51 #[.pointer (some ⟨b, 0, none⟩), .pointer (some ⟨O, 0, none⟩), .pointer (some ⟨P, 0, none⟩)] w (RunPost w B b v (pauF paused x.at' r)) := by
  have p0 := hJ.1.cell 0
  have o0 := hJ.2.cell 0
  have k10 := h.box.cell 10
  unfold pntV at p0
  unfold runV at k10
  have H := Lib.hid h
  have HC := Lib.hid (cut_any B b v r x.at' w h hr hl)
  have HN := Lib.hid (on_any B b v r x.at' w h hl hB)
  unfold pauF
  generalize x.at' = t at *
  clear hJ h hr
  go_enter Tryz.func51, Tryz.ntmps51
  cases paused with
  | true =>
    go_wp2_with fail
    refine HC.out.mono ?_
    rintro e w3 ⟨⟨u, rfl⟩, hrest⟩
    have HZ := Lib.hid hrest
    clear hrest
    go_wp2_with fail
    go_end0
    exact ⟨⟨_, rfl⟩, HZ.out⟩
  | false =>
    cases hg : r.goes with
    | true =>
      rw [hg] at k10
      clear hg
      go_wp2_with fail
      go_end0
      exact ⟨⟨_, rfl⟩, v, H.out, One2.refl _ _ _, Fr.refl _ _⟩
    | false =>
      rw [hg] at k10
      clear hg
      go_wp2_with fail
      refine HN.out.mono ?_
      rintro e w3 ⟨⟨u, rfl⟩, hrest⟩
      have HZ := Lib.hid hrest
      clear hrest
      go_wp2_with fail
      go_end0
      exact ⟨⟨_, rfl⟩, HZ.out⟩
end Go.Proofs.YtllcgcnebofdoaaGreatDoor
