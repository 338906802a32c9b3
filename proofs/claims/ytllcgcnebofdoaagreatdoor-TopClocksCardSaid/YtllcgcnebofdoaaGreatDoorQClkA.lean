/- Clocks and calendars in memory, and the walk of level.CheckClock. -/
import Derived.Test.YtllcgcnebofdoaaGreatDoorQCalChk
namespace Go.Proofs.YtllcgcnebofdoaaGreatDoor
open Go.RowKit

theorem lwithin_any (n lo hi : Int) (w : World) :
    Calls Tryz.prog 27 #[.int .i64 n, .int .i64 lo, .int .i64 hi] w fun e w' => e = .returned (.bool (decide (lo ≤ n) && decide (n ≤ hi))) ∧ w = w' := by
  go_enter Tryz.func27, Tryz.ntmps27
  go_wp2
  all_goals go_ret
  all_goals (refine ⟨ret_bool ?_, rfl⟩; simp; try omega)
def lmomI (m from' : Int) : Int := if from' ≤ m ∧ m ≤ 3000000 then 0 else 2
theorem lmoment_any (m fr : Int) (w : World) :
    Calls Tryz.prog 37 #[.int .i64 m, .int .i64 fr] w fun e w' => e = .returned (.int .i64 (lmomI m fr)) ∧ w = w' := by
  go_enter Tryz.func37, Tryz.ntmps37
  by_cases h : fr ≤ m ∧ m ≤ 3000000
  · have q : (decide (fr ≤ m) && decide (m ≤ 3000000)) = true := by simpa using h
    go_wp2_with (go_at_call 27; refine (lwithin_any _ _ _ _).mono ?_; rintro e w' ⟨rfl, rfl⟩)
    go_ret
    exact ⟨by unfold lmomI; rw [if_pos h]; rfl, rfl⟩
  · have q : (decide (fr ≤ m) && decide (m ≤ 3000000)) = false := by
      rw [Bool.eq_false_iff]
      intro g
      exact h (by simpa using g)
    go_wp2_with (go_at_call 27; refine (lwithin_any _ _ _ _).mono ?_; rintro e w' ⟨rfl, rfl⟩)
    go_ret
    exact ⟨by unfold lmomI; rw [if_neg h]; rfl, rfl⟩

/-- calendars in memory -/
def calR (w : World) (cs : List Value) (c : CalD) : Prop := ∃ vcs vwk vsp, cs = [.int .i64 c.off, vcs, vwk, vsp] ∧ CalAt w vcs vwk vsp c
theorem calR_stable : Stable calR := fun _ _ _ _ ⟨a, b, c, h1, h2⟩ hb => ⟨a, b, c, h1, h2.below hb⟩
def Cals (w : World) (v : Value) (l : List CalD) : Prop := SliceAt 4 calR w v l
theorem Cals.below {w w' : World} {v : Value} {l : List CalD} (h : Cals w v l) (hb : Below w.heap.size w w') : Cals w' v l := SliceAt.stable calR_stable h hb
theorem Cals.at {w : World} {v : Value} {l : List CalD} (h : Cals w v l) (hl : 0 < l.length) : ∃ b off cap, v = .slice (some ⟨b, off, none⟩) l.length cap ∧ b < w.heap.size ∧
    ∀ i (hi : i < l.length), ∃ vcs vwk vsp, w.cell? ⟨b, off + i * 4, none⟩ = some (.int .i64 l[i].off) ∧ w.cell? ⟨b, off + i * 4 + 1, none⟩ = some vcs ∧ w.cell? ⟨b, off + i * 4 + 2, none⟩ = some vwk ∧ w.cell? ⟨b, off + i * 4 + 3, none⟩ = some vsp ∧ CalAt w vcs vwk vsp l[i] := by
  obtain ⟨b, off, cap, hv, hc, hb, hel⟩ := SliceAt.at h hl
  refine ⟨b, off, cap, hv, hb, fun i hi => ?_⟩
  obtain ⟨cs, ⟨_, h2⟩, vcs, vwk, vsp, hr, hs⟩ := hel i hi
  cases hr
  exact ⟨vcs, vwk, vsp, h2 0 (by simp), h2 1 (by simp), h2 2 (by simp), h2 3 (by simp), hs⟩
def clkV (c : ClkD) (vps : Value) : Array Value := #[.int .i64 c.kind, .int .i64 c.lev, .int .i64 c.min, .int .i64 c.start, .int .i64 c.stop, .int .i64 c.fin, vps]

/-- what CheckClock finds right of the piece at j -/
def GoodAt (c : ClkD) (n j : Nat) (p q : Pc) : Prop :=
  (c.start ≤ p.1 ∧ p.1 ≤ 3000000) ∧ (0 ≤ p.2.2 ∧ p.2.2 ≤ 19) ∧ (p.2.1 = -1 ∨ (p.1 + 1 ≤ p.2.1 ∧ p.2.1 ≤ 3000000)) ∧
    (p.2.1 = -1 → ¬ j + 1 < n ∧ c.stop = -1) ∧ (c.stop ≠ -1 → p.2.1 ≤ c.stop) ∧ (0 < j → q.2.1 ≤ p.1)
def Good (c : ClkD) (j : Nat) : Prop := GoodAt c c.ps.length j (c.ps.getD j (0, 0, 0)) (c.ps.getD (j - 1) (0, 0, 0))
structure ClkHead (c : ClkD) : Prop where
  kind : 1 ≤ c.kind ∧ c.kind ≤ 3
  lev : 0 ≤ c.lev ∧ c.lev ≤ 19
  min : 0 ≤ c.min ∧ c.min ≤ 100000
  start : 0 ≤ c.start ∧ c.start ≤ 3000000
  stop : c.stop = -1 ∨ (c.start ≤ c.stop ∧ c.stop ≤ 3000000)
  fin : 0 ≤ c.fin ∧ c.fin ≤ 2
structure ClkOk (c : ClkD) : Prop where
  head : ClkHead c
  ends : c.stop = -1 ↔ c.fin = 0
  len : c.ps.length ≤ 6000
  each : ∀ j, j < c.ps.length → Good c j
structure CcInv2 (c : ClkD) (vps : Value) (w wr : World) (i : Nat) : Prop where
  le : i ≤ c.ps.length
  each : ∀ j, j < i → Good c j
  below : Below w.heap.size w wr
  box : Has wr w.heap.size (clkV c vps) 34

set_option maxRecDepth 100000 in
set_option maxHeartbeats 8000000 in
theorem CheckClock_any (c : ClkD) (vps : Value) (w : World) (h : Shifts w vps c.ps) :
    Calls Tryz.prog 10 #[.agg (clkV c vps)] w fun e w' => (∃ k, e = .returned (.int .i64 k) ∧ (k = 0 ↔ ClkOk c)) ∧ Below w.heap.size w w' := by
  obtain ⟨pa, pc, rfl⟩ := SliceAt.len h
  have H := Lib.hid h
  clear h
  have hbx := box1 w (clkV c (.slice pa c.ps.length pc)) 34
  have HD := Lib.hid (show ClkOk c → ClkHead c from fun g => g.head)
  have HEN := Lib.hid (show ClkOk c → (c.stop = -1 ↔ c.fin = 0) from fun g => g.ends)
  have HLE := Lib.hid (show ClkOk c → c.ps.length ≤ 6000 from fun g => g.len)
  have HEA := Lib.hid (show ClkOk c → ∀ j, j < c.ps.length → Good c j from fun g => g.each)
  have HMK := Lib.hid (show ClkHead c → (c.stop = -1 ↔ c.fin = 0) → c.ps.length ≤ 6000 → (∀ j, j < c.ps.length → Good c j) → ClkOk c from fun a b d e => ⟨a, b, d, e⟩)
  have HHD := Lib.hid (show ClkHead c ↔ (1 ≤ c.kind ∧ c.kind ≤ 3) ∧ (0 ≤ c.lev ∧ c.lev ≤ 19) ∧ (0 ≤ c.min ∧ c.min ≤ 100000) ∧ (0 ≤ c.start ∧ c.start ≤ 3000000) ∧ (c.stop = -1 ∨ (c.start ≤ c.stop ∧ c.stop ≤ 3000000)) ∧ (0 ≤ c.fin ∧ c.fin ≤ 2) from
    ⟨fun g => ⟨g.kind, g.lev, g.min, g.start, g.stop, g.fin⟩, fun ⟨a, b, d, e, f, g⟩ => ⟨a, b, d, e, f, g⟩⟩)
  unfold clkV at hbx ⊢
  go_enter Tryz.func10, Tryz.ntmps10
  go_upto_region 1 with fail
  generalize w.alloc (.cells #[.int .i64 c.kind, .int .i64 c.lev, .int .i64 c.min, .int .i64 c.start, .int .i64 c.stop, .int .i64 c.fin, .slice pa c.ps.length pc] 34) = w2 at *
  obtain ⟨hx, hbl⟩ := hbx
  have HX := Lib.hid hx
  have HB2 := Lib.hid hbl
  have k0 := hx.cell 0
  have k1 := hx.cell 1
  have k2 := hx.cell 2
  have k3 := hx.cell 3
  have k4 := hx.cell 4
  have k5 := hx.cell 5
  have k6 := hx.cell 6
  clear hx hbl
  obtain ⟨b1, h1⟩ : ∃ b, (decide (1 ≤ c.kind) && decide (c.kind ≤ 3)) = b := ⟨_, rfl⟩
  obtain ⟨b2, h2⟩ : ∃ b, (decide (0 ≤ c.lev) && decide (c.lev ≤ 19)) = b := ⟨_, rfl⟩
  obtain ⟨b3, h3⟩ : ∃ b, (decide (0 ≤ c.min) && decide (c.min ≤ 100000)) = b := ⟨_, rfl⟩
  obtain ⟨b4, h4⟩ : ∃ b, (decide (0 ≤ c.start) && decide (c.start ≤ 3000000)) = b := ⟨_, rfl⟩
  obtain ⟨s1, hs1⟩ : ∃ b, (c.stop == -1) = b := ⟨_, rfl⟩
  have hs2 : (c.stop != -1) = !s1 := by rw [← hs1]; rfl
  obtain ⟨b5, h5⟩ : ∃ b, (decide (c.start ≤ c.stop) && decide (c.stop ≤ 3000000)) = b := ⟨_, rfl⟩
  obtain ⟨b6, h6⟩ : ∃ b, (decide (0 ≤ c.fin) && decide (c.fin ≤ 2)) = b := ⟨_, rfl⟩
  have HHB := Lib.hid (show (b1 && b2 && b3 && b4 && (s1 || b5) && b6) = true ↔ ClkHead c from by
    rw [HHD.out, ← h1, ← h2, ← h3, ← h4, ← h5, ← h6, ← hs1]
    simp only [Bool.and_eq_true, Bool.or_eq_true, decide_eq_true_eq, beq_iff_eq, and_assoc])
  go_cut [45] (fun v wx => v = .bool (!(b1 && b2 && b3 && b4 && (s1 || b5) && b6)) ∧ wx = w2)
  case first =>
    clear HHB HHD HD HEN HLE HEA HMK
    cases b1 with
    | false =>
      go_wp2_with (go_at_call 27; refine (lwithin_any _ _ _ _).mono ?_; rintro e w' ⟨rfl, rfl⟩)
      go_meet
      exact ⟨rfl, rfl⟩
    | true =>
      cases b2 with
      | false =>
        go_wp2_with (go_at_call 27; refine (lwithin_any _ _ _ _).mono ?_; rintro e w' ⟨rfl, rfl⟩)
        go_meet
        exact ⟨rfl, rfl⟩
      | true =>
        cases b3 with
        | false =>
          go_wp2_with (go_at_call 27; refine (lwithin_any _ _ _ _).mono ?_; rintro e w' ⟨rfl, rfl⟩)
          go_meet
          exact ⟨rfl, rfl⟩
        | true =>
          cases b4 with
          | false =>
            go_wp2_with (go_at_call 27; refine (lwithin_any _ _ _ _).mono ?_; rintro e w' ⟨rfl, rfl⟩)
            go_meet
            exact ⟨rfl, rfl⟩
          | true =>
            cases s1 with
            | true =>
              cases b6 with
              | false =>
                go_wp2_with (go_at_call 27; refine (lwithin_any _ _ _ _).mono ?_; rintro e w' ⟨rfl, rfl⟩)
                go_meet
                exact ⟨rfl, rfl⟩
              | true =>
                go_wp2_with (go_at_call 27; refine (lwithin_any _ _ _ _).mono ?_; rintro e w' ⟨rfl, rfl⟩)
                go_meet
                exact ⟨rfl, rfl⟩
            | false =>
              cases b5 with
              | false =>
                go_wp2_with (go_at_call 27; refine (lwithin_any _ _ _ _).mono ?_; rintro e w' ⟨rfl, rfl⟩)
                go_meet
                exact ⟨rfl, rfl⟩
              | true =>
                cases b6 with
                | false =>
                  go_wp2_with (go_at_call 27; refine (lwithin_any _ _ _ _).mono ?_; rintro e w' ⟨rfl, rfl⟩)
                  go_meet
                  exact ⟨rfl, rfl⟩
                | true =>
                  go_wp2_with (go_at_call 27; refine (lwithin_any _ _ _ _).mono ?_; rintro e w' ⟨rfl, rfl⟩)
                  go_meet
                  exact ⟨rfl, rfl⟩
  case rest =>
    obtain ⟨rfl, rfl⟩ := hcut
    clear h1 h2 h3 h4 h5 h6
    generalize (b1 && b2 && b3 && b4 && (s1 || b5) && b6) = G at *
    cases G with
    | false =>
      go_wp2_with fail
      go_ret
      exact ⟨⟨_, rfl, ⟨fun g => absurd g (by decide), fun g => absurd (HHB.out.2 (HD.out g)) (by decide)⟩⟩, HB2.out⟩
    | true =>
      have HH := Lib.hid (HHB.out.1 rfl)
      clear HHB HHD
      obtain ⟨s3, hs3⟩ : ∃ b, (c.fin == 0) = b := ⟨_, rfl⟩
      have HEB := Lib.hid (show (s1 != s3) = false ↔ (c.stop = -1 ↔ c.fin = 0) from by
        rw [← hs1, ← hs3]
        by_cases e1 : c.stop = -1 <;> by_cases e2 : c.fin = 0 <;> simp [e1, e2]
        rw [beq_eq_false_iff_ne.2 e1, beq_eq_false_iff_ne.2 e2])
      go_upto_region 3 with fail
      go_cut [52] (fun v wx => v = .bool (s1 != s3) ∧ wx = wc)
      case first =>
        clear HEB HH HD HEN HLE HEA HMK
        cases s1 <;> cases s3 <;> (go_wp2_with fail; go_meet; exact ⟨rfl, rfl⟩)
      case rest =>
        obtain ⟨rfl, rfl⟩ := hcut
        clear hs3
        generalize (s1 != s3) = G at *
        cases G with
        | true =>
          go_wp2_with fail
          go_ret
          exact ⟨⟨_, rfl, ⟨fun g => absurd g (by decide), fun g => absurd (HEB.out.2 (HEN.out g)) (by decide)⟩⟩, HB2.out⟩
        | false =>
          have HE2 := Lib.hid (HEB.out.1 rfl)
          clear HEB
          by_cases hl : 6000 < c.ps.length
          · have q1 : decide ((6000 : Int) < (c.ps.length : Int)) = true := decide_eq_true (by omega)
            have HL := Lib.hid hl
            clear hl
            go_wp2_with fail
            go_ret
            exact ⟨⟨_, rfl, ⟨fun g => absurd g (by decide), fun g => absurd (HLE.out g) (by have := HL.out; omega)⟩⟩, HB2.out⟩
          have q1 : decide ((6000 : Int) < (c.ps.length : Int)) = false := decide_eq_false (by omega)
          have hl6 : c.ps.length ≤ 6000 := by omega
          clear hl
          go_wp2_with fail
          go_loopw [60] (fun iv wr => ∃ i : Nat, iv = .int .i64 ((i : Nat) : Int) ∧ CcInv2 c (.slice pa c.ps.length pc) w wr i) (fun iv _ => c.ps.length - (intOf iv).toNat)
          case atStart => exact ⟨0, rfl, Nat.zero_le _, (fun j hj => absurd hj (by omega)), HB2.out, HX.out⟩
          case round =>
            obtain ⟨i, rfl, hI⟩ := hrel
            have HI := Lib.hid hI
            have hi := hI.le
            clear hI
            clear k0 k1 k2 k3 k4 k5 k6
            have k3 : wr.cell? ⟨w.heap.size, 3, none⟩ = some (.int .i64 c.start) := HI.out.box.cell 3
            have k4 : wr.cell? ⟨w.heap.size, 4, none⟩ = some (.int .i64 c.stop) := HI.out.box.cell 4
            have k6 : wr.cell? ⟨w.heap.size, 6, none⟩ = some (.slice pa c.ps.length pc) := HI.out.box.cell 6
            by_cases hlt : i < c.ps.length
            · obtain ⟨b, of', cap', hv, hb, hel⟩ := Shifts.at H.out (by omega)
              cases hv
              obtain ⟨e0, e1, e2⟩ := hel i hlt
              have c0 := (below_cell HI.out.below hb).trans e0
              have c1 := (below_cell HI.out.below hb).trans e1
              have c2 := (below_cell HI.out.below hb).trans e2
              have HP := Lib.hid (fun hp : 0 < i => (hel (i - 1) (by omega)).2.1)
              have HGD := Lib.hid (show Good c i ↔ GoodAt c c.ps.length i c.ps[i] (c.ps.getD (i - 1) (0, 0, 0)) from by
                unfold Good
                rw [show c.ps.getD i (0, 0, 0) = c.ps[i] by simp [List.getD, hlt]])
              have HQ := Lib.hid (show ∀ hp : 0 < i, c.ps.getD (i - 1) (0, 0, 0) = c.ps[i - 1]'(by omega) from fun hp => by simp [List.getD, show i - 1 < c.ps.length by omega])
              generalize c.ps[i] = s at *
              obtain ⟨x1, x2, x3⟩ := s
              simp only at c0 c1 c2
              clear e0 e1 e2 hel
              go_upto_region 10 with fail
              obtain ⟨bx, bbl⟩ := box1 wr #[.int .i64 x1, .int .i64 x2, .int .i64 x3] 79
              have HB4 := Lib.hid (below_up HI.out.below bbl HI.out.below.size)
              have HBX := Lib.hid bx
              have HCK := Lib.hid (HI.out.box.below bbl HI.out.box.lt)
              have m0 := bx.cell 0
              have m1 := bx.cell 1
              have m2 := bx.cell 2
              have k3 := (below_cell bbl HI.out.box.lt).trans k3
              have k4 := (below_cell bbl HI.out.box.lt).trans k4
              have k6 := (below_cell bbl HI.out.box.lt).trans k6
              generalize wr.alloc (.cells #[.int .i64 x1, .int .i64 x2, .int .i64 x3] 79) = wb at *
              generalize wr.heap.size = B at *
              clear bx bbl c0 c1 c2
              obtain ⟨g1, hg1⟩ : ∃ b, (decide (c.start ≤ x1) && decide (x1 ≤ 3000000)) = b := ⟨_, rfl⟩
              obtain ⟨g2, hg2⟩ : ∃ b, (decide (0 ≤ x3) && decide (x3 ≤ 19)) = b := ⟨_, rfl⟩
              obtain ⟨t1, ht1⟩ : ∃ b, (x2 == -1) = b := ⟨_, rfl⟩
              have ht2 : (x2 != -1) = !t1 := by rw [← ht1]; rfl
              obtain ⟨g3, hg3⟩ : ∃ b, (decide (x1 + 1 ≤ x2) && decide (x2 ≤ 3000000)) = b := ⟨_, rfl⟩
              have hst0 : 0 ≤ c.start := HH.out.start.1
              have HG1 := Lib.hid (show (g1 && g2 && (t1 || g3)) = true ↔ (c.start ≤ x1 ∧ x1 ≤ 3000000) ∧ (0 ≤ x3 ∧ x3 ≤ 19) ∧ (x2 = -1 ∨ (x1 + 1 ≤ x2 ∧ x2 ≤ 3000000)) from by
                rw [← hg1, ← hg2, ← hg3, ← ht1]
                simp only [Bool.and_eq_true, Bool.or_eq_true, decide_eq_true_eq, beq_iff_eq, and_assoc])
              go_cut [65] (fun v wx => v = .bool (!(g1 && g2 && (t1 || g3))) ∧ wx = wb)
              case first =>
                clear HG1 HGD HQ HP HD HEN HLE HEA HMK
                cases g1 with
                | false =>
                  go_wp2_with (go_at_call 27; refine (lwithin_any _ _ _ _).mono ?_; rintro e w' ⟨rfl, rfl⟩)
                  go_meet
                  exact ⟨rfl, rfl⟩
                | true =>
                  have hx : x1 ≤ 3000000 ∧ c.start ≤ x1 := by
                    simp only [Bool.and_eq_true, decide_eq_true_eq] at hg1
                    omega
                  obtain ⟨hxa, hxb⟩ := hx
                  have w1 : IntKind.i64.wrap (x1 + 1) = x1 + 1 := IntWalk.i64_in _ (by omega)
                  cases g2 with
                  | false =>
                    go_wp2_with (go_at_call 27; refine (lwithin_any _ _ _ _).mono ?_; rintro e w' ⟨rfl, rfl⟩)
                    go_meet
                    exact ⟨rfl, rfl⟩
                  | true =>
                    cases t1 with
                    | true =>
                      go_wp2_with (go_at_call 27; refine (lwithin_any _ _ _ _).mono ?_; rintro e w' ⟨rfl, rfl⟩)
                      go_meet
                      exact ⟨rfl, rfl⟩
                    | false =>
                      cases g3 with
                      | false =>
                        go_wp2_with (go_at_call 27; refine (lwithin_any _ _ _ _).mono ?_; rintro e w' ⟨rfl, rfl⟩)
                        go_meet
                        exact ⟨rfl, rfl⟩
                      | true =>
                        go_wp2_with (go_at_call 27; refine (lwithin_any _ _ _ _).mono ?_; rintro e w' ⟨rfl, rfl⟩)
                        go_meet
                        exact ⟨rfl, rfl⟩
              case rest =>
                obtain ⟨rfl, rfl⟩ := hcut
                clear hg1 hg2 hg3
                generalize (g1 && g2 && (t1 || g3)) = G at *
                cases G with
                | false =>
                  go_wp2_with fail
                  go_ret
                  exact ⟨⟨_, rfl, ⟨fun g => absurd g (by decide), fun g => absurd (HG1.out.2 (by obtain ⟨z1, z2, z3, _⟩ := HGD.out.1 (HEA.out g i hlt); exact ⟨z1, z2, z3⟩)) (by decide)⟩⟩, HB4.out⟩
                | true =>
                  have HV1 := Lib.hid (HG1.out.1 rfl)
                  clear HG1
                  have r1 : IntKind.i64.wrap ((c.ps.length : Int) - 1) = (c.ps.length : Int) - 1 := IntWalk.i64_in _ (by omega)
                  obtain ⟨l1, hl1⟩ : ∃ b, decide ((i : Int) < (c.ps.length : Int) - 1) = b := ⟨_, rfl⟩
                  obtain ⟨d1, hd1⟩ : ∃ b, decide (c.stop < x2) = b := ⟨_, rfl⟩
                  have HG2 := Lib.hid (show ((t1 && (l1 || !s1)) || (!s1 && d1)) = false ↔ (x2 = -1 → ¬ i + 1 < c.ps.length ∧ c.stop = -1) ∧ (c.stop ≠ -1 → x2 ≤ c.stop) from by
                    rw [← ht1, ← hl1, ← hd1, ← hs1]
                    by_cases e1 : x2 = -1 <;> by_cases e2 : c.stop = -1 <;> simp [e1, e2] <;> omega)
                  go_upto_region 12 with fail
                  go_cut [92] (fun v wx => v = .bool (t1 && (l1 || !s1)) ∧ wx = wc)
                  case first =>
                    clear HG2 HV1 HGD HQ HP HD HEN HLE HEA HMK
                    cases t1 with
                    | false =>
                      go_wp2_with fail
                      go_meet
                      exact ⟨rfl, rfl⟩
                    | true =>
                      cases l1 with
                      | true =>
                        go_wp2_with fail
                        go_meet
                        exact ⟨rfl, rfl⟩
                      | false =>
                        cases s1 with
                        | true =>
                          go_wp2_with fail
                          go_meet
                          exact ⟨rfl, rfl⟩
                        | false =>
                          go_wp2_with fail
                          go_meet
                          exact ⟨rfl, rfl⟩
                  case rest =>
                    obtain ⟨rfl, rfl⟩ := hcut
                    clear ht1 hl1
                    obtain ⟨a1, ha1⟩ : ∃ b, (t1 && (l1 || !s1)) = b := ⟨_, rfl⟩
                    rw [ha1] at HG2 ⊢
                    clear ha1
                    cases a1 with
                    | true =>
                      go_wp2_with fail
                      go_ret
                      exact ⟨⟨_, rfl, ⟨fun g => absurd g (by decide), fun g => absurd (HG2.out.2 (by obtain ⟨_, _, _, z4, z5, _⟩ := HGD.out.1 (HEA.out g i hlt); exact ⟨z4, z5⟩)) (by simp)⟩⟩, HB4.out⟩
                    | false =>
                      go_upto_region 13 with fail
                      go_cut [92] (fun v wx => v = .bool (!s1 && d1) ∧ wx = wc)
                      case first =>
                        clear HG2 HV1 HGD HQ HP HD HEN HLE HEA HMK
                        cases s1 with
                        | true =>
                          go_wp2_with fail
                          go_meet
                          exact ⟨rfl, rfl⟩
                        | false =>
                          cases d1 with
                          | true =>
                            go_wp2_with fail
                            go_meet
                            exact ⟨rfl, rfl⟩
                          | false =>
                            go_wp2_with fail
                            go_meet
                            exact ⟨rfl, rfl⟩
                      case rest =>
                        obtain ⟨rfl, rfl⟩ := hcut
                        clear hd1
                        obtain ⟨a2, ha2⟩ : ∃ b, (!s1 && d1) = b := ⟨_, rfl⟩
                        rw [ha2] at HG2 ⊢
                        clear ha2
                        cases a2 with
                        | true =>
                          go_wp2_with fail
                          go_ret
                          exact ⟨⟨_, rfl, ⟨fun g => absurd g (by decide), fun g => absurd (HG2.out.2 (by obtain ⟨_, _, _, z4, z5, _⟩ := HGD.out.1 (HEA.out g i hlt); exact ⟨z4, z5⟩)) (by simp)⟩⟩, HB4.out⟩
                        | false =>
                          have HV2 := Lib.hid (HG2.out.1 rfl)
                          clear HG2
                          go_upto_region 15 with fail
                          go_cut [119] (fun v wx => v = .bool (decide (0 < i) && decide (x1 < (c.ps.getD (i - 1) (0, 0, 0)).2.1)) ∧ Below wc.heap.size wc wx)
                          case first =>
                            clear HV2 HV1 HD HEN HLE HEA HMK
                            by_cases h0 : 0 < i
                            · have r2 : decide ((0 : Int) < (i : Int)) = true := decide_eq_true (by omega)
                              have p0 := (below_cell HB4.out hb).trans (HP.out h0)
                              have r1 : IntKind.i64.wrap ((i : Int) - 1) = ((i - 1 : Nat) : Int) := by rw [IntWalk.i64_in _ (by omega)]; omega
                              have r3 : i - 1 < c.ps.length := by omega
                              have HGQ := Lib.hid (HQ.out h0)
                              clear HP HQ HGD
                              generalize c.ps[i - 1] = y at *
                              obtain ⟨y1, y2, y3⟩ := y
                              simp only at p0
                              go_quiet (fail)
                              go_wp2_with fail
                              go_meet
                              exact ⟨by rw [HGQ.out, decide_eq_true h0]; rfl, drewN_below (Below.refl _ _) nq⟩
                            · obtain rfl : i = 0 := by omega
                              clear HP HQ HGD
                              go_quiet (fail)
                              go_wp2_with fail
                              go_meet
                              exact ⟨rfl, drewN_below (Below.refl _ _) nq⟩
                          case rest =>
                            obtain ⟨rfl, hbw⟩ := hcut
                            have HBW := Lib.hid (below_up HB4.out hbw HB4.out.size)
                            have HCW := Lib.hid (HCK.out.below hbw HCK.out.lt)
                            have HG3 := Lib.hid (show (decide (0 < i) && decide (x1 < (c.ps.getD (i - 1) (0, 0, 0)).2.1)) = false ↔ (0 < i → (c.ps.getD (i - 1) (0, 0, 0)).2.1 ≤ x1) from by
                              by_cases e1 : 0 < i <;> simp [e1])
                            clear hbw
                            generalize (decide (0 < i) && decide (x1 < (c.ps.getD (i - 1) (0, 0, 0)).2.1)) = q at *
                            cases q with
                            | true =>
                              go_wp2_with fail
                              go_ret
                              exact ⟨⟨_, rfl, ⟨fun g => absurd g (by decide), fun g => absurd (HG3.out.2 (by obtain ⟨_, _, _, _, _, z6⟩ := HGD.out.1 (HEA.out g i hlt); exact z6)) (by simp)⟩⟩, HBW.out⟩
                            | false =>
                              have HGI := Lib.hid (HGD.out.2 ⟨HV1.out.1, HV1.out.2.1, HV1.out.2.2, HV2.out.1, HV2.out.2, HG3.out.1 rfl⟩)
                              have HNX := Lib.hid (show CcInv2 c (.slice (some ⟨b, of', none⟩) c.ps.length pc) w _ (i + 1) from ⟨hlt, (fun j hj => by
                                by_cases e : j = i
                                · rw [e]; exact HGI.out
                                · exact HI.out.each j (by omega)), HBW.out, HCW.out⟩)
                              clear HGI HV1 HV2 HG3 HGD HQ HP HI
                              go_wp2_with fail
                              go_roundw
                              case rel => exact ⟨i + 1, by go_num, HNX.out⟩
                              case measure => simp [intOf]; omega
            · obtain rfl : i = c.ps.length := by omega
              have HF := Lib.hid (HMK.out HH.out HE2.out hl6 HI.out.each)
              clear k3 k4 k6
              go_wp2_with fail
              go_ret
              exact ⟨⟨_, rfl, ⟨fun _ => HF.out, fun _ => rfl⟩⟩, HI.out.below⟩
end Go.Proofs.YtllcgcnebofdoaaGreatDoor
