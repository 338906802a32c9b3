/- The walks of route.CheckPeople and of route.number. -/
import Derived.Test.YtemikhnkjligdaaGreatDoorQTools
import Derived.Test.YtemikhnkjligdaaGreatDoorQRfLaw
namespace Go.Proofs.YtemikhnkjligdaaGreatDoor
open Go.RowKit

def PpOne (p : PerD) : Prop := (1 ≤ p.no ∧ p.no ≤ 40) ∧ (0 ≤ p.cap ∧ p.cap ≤ 100) ∧ (0 ≤ p.cl ∧ p.cl ≤ 19) ∧ SkFine p.sk
def PpRise (a b : PerD) : Prop := a.no < b.no
def PpFine (l : List PerD) : Prop := l.length ≤ 40 ∧ Lst PpOne PpRise l
structure PpInv (l : List PerD) (w wr : World) (i : Nat) : Prop where
  le : i ≤ l.length
  fine : Lst PpOne PpRise (l.take i)
  below : Below w.heap.size w wr
theorem PpOne.ok {p : PerD} (h : PpOne p) : PerOk p := by
  obtain ⟨h1, h2, h3, h4, h5⟩ := h
  refine ⟨?_, ?_, ?_, h4, fun s hs => (h5.mem hs).1, fun s hs => ?_⟩
  · exact Nat.lt_of_le_of_lt (show p.no.natAbs ≤ 40 by omega) (by decide)
  · exact Nat.lt_of_le_of_lt (show p.cap.natAbs ≤ 100 by omega) (by decide)
  · exact Nat.lt_of_le_of_lt (show p.cl.natAbs ≤ 19 by omega) (by decide)
  · have := (h5.mem hs).2
    exact Nat.lt_of_le_of_lt (show s.2.natAbs ≤ 9 by omega) (by decide)
theorem PpFine.ok {l : List PerD} (h : PpFine l) : ∀ p ∈ l, PerOk p := fun _ hp => (h.2.mem hp).ok

set_option maxRecDepth 100000 in
set_option maxHeartbeats 4000000 in
theorem CheckPeople_any (l : List PerD) (v : Value) (w : World) (h : Pers w v l) :
    Calls Tryz.prog 22 #[v] w fun e w' => (∃ k, e = .returned (.int .i64 k) ∧ (k = 0 ↔ PpFine l)) ∧ Below w.heap.size w w' := by
  obtain ⟨a, cap, rfl⟩ := SliceAt.len h
  have H := Lib.hid h
  clear h
  go_enter Tryz.func22, Tryz.ntmps22
  by_cases hl : 40 < l.length
  · have q1 : decide ((40 : Int) < (l.length : Int)) = true := decide_eq_true (by omega)
    have HL := Lib.hid hl
    clear hl
    go_wp2_with fail
    go_ret
    exact ⟨⟨_, rfl, ⟨fun g => absurd g (by decide), fun g => absurd g.1 (by have := HL.out; omega)⟩⟩, Below.refl _ _⟩
  have q1 : decide ((40 : Int) < (l.length : Int)) = false := decide_eq_false (by omega)
  have hl40 : l.length ≤ 40 := by omega
  clear hl
  go_wp2_with fail
  go_loopw [11] (fun iv wr => ∃ i : Nat, iv = .int .i64 ((i : Nat) : Int) ∧ PpInv l w wr i) (fun iv _ => l.length - (intOf iv).toNat)
  case atStart => exact ⟨0, rfl, Nat.zero_le _, by rw [List.take_zero]; exact Lst.nil, Below.refl _ _⟩
  case round =>
    obtain ⟨i, rfl, hI⟩ := hrel
    have HI := Lib.hid hI
    have hi := hI.le
    clear hI
    by_cases hlt : i < l.length
    · obtain ⟨b, of', cap', hv, hb, hel⟩ := Pers.at H.out (by omega)
      cases hv
      obtain ⟨u, e0, e1, e2, e3, hsk⟩ := hel i hlt
      obtain ⟨sa, sc, rfl⟩ := SliceAt.len hsk
      have c0 := (below_cell HI.out.below hb).trans e0
      have c1 := (below_cell HI.out.below hb).trans e1
      have c2 := (below_cell HI.out.below hb).trans e2
      have c3 := (below_cell HI.out.below hb).trans e3
      have HSK := Lib.hid hsk
      have HP := Lib.hid (fun hp : 0 < i => (hel (i - 1) (by omega)))
      have HNX := Lib.hid (fun hx ho => Lst.next HI.out.fine hlt hx ho)
      have HNO := Lib.hid (show PpFine l → PpOne l[i] from fun g => g.2.each i hlt)
      have HNB := Lib.hid (show PpFine l → ∀ hp : 0 < i, PpRise (l[i - 1]'(by omega)) l[i] from fun g hp => g.2.before hlt hp)
      clear hsk e0 e1 e2 e3 hel
      generalize l[i] = s at *
      obtain ⟨x1, x2, x3, sk⟩ := s
      simp only at c0 c1 c2 c3 HSK
      go_upto_region 6 with fail
      obtain ⟨bx, bbl⟩ := box1 wr #[.int .i64 x1, .int .i64 x2, .int .i64 x3, .slice sa sk.length sc] 65
      have HB4 := Lib.hid (below_up HI.out.below bbl HI.out.below.size)
      have HBX := Lib.hid bx
      have k0 := bx.cell 0
      have k1 := bx.cell 1
      have k2 := bx.cell 2
      have k3 := bx.cell 3
      generalize wr.alloc (.cells #[.int .i64 x1, .int .i64 x2, .int .i64 x3, .slice sa sk.length sc] 65) = wb at *
      generalize wr.heap.size = B at *
      clear bx bbl c0 c1 c2 c3
      by_cases g1 : 1 ≤ x1 ∧ x1 ≤ 40
      · have q2 : (decide ((1 : Int) ≤ x1) && decide (x1 ≤ 40)) = true := by simpa using g1
        go_upto_region 8 with (go_at_call 28; refine (rwithin_any _ _ _ _).mono ?_; rintro e w' ⟨rfl, rfl⟩)
        go_cut [21] (fun v wx => v = .bool (decide (0 < i) && decide (x1 ≤ (l.getD (i - 1) ⟨0, 0, 0, []⟩).no)) ∧ Below wb.heap.size wb wx)
        case first =>
          clear q2
          by_cases h0 : 0 < i
          · have r2 : decide ((0 : Int) < (i : Int)) = true := decide_eq_true (by omega)
            obtain ⟨u', p0, -, -, -, -⟩ := HP.out h0
            have p0 := (below_cell HB4.out hb).trans p0
            have r1 : IntKind.i64.wrap ((i : Int) - 1) = ((i - 1 : Nat) : Int) := by rw [IntWalk.i64_in _ (by omega)]; omega
            have r3 : i - 1 < l.length := by omega
            have HGD := Lib.hid (show l.getD (i - 1) ⟨0, 0, 0, []⟩ = l[i - 1] by simp [List.getD, r3])
            clear HP HNX HNO HNB
            generalize l[i - 1] = y at *
            obtain ⟨y1, y2, y3, y4⟩ := y
            simp only at p0
            go_quiet (fail)
            go_wp2_with fail
            go_meet
            exact ⟨by rw [HGD.out, decide_eq_true h0]; rfl, drewN_below (Below.refl _ _) nq⟩
          · obtain rfl : i = 0 := by omega
            clear HP HNX HNO HNB
            go_quiet (fail)
            go_wp2_with fail
            go_meet
            exact ⟨rfl, drewN_below (Below.refl _ _) nq⟩
        case rest =>
          obtain ⟨rfl, hbw⟩ := hcut
          have HBW := Lib.hid (below_up HB4.out hbw HB4.out.size)
          have k1 := (below_cell hbw HBX.out.lt).trans k1
          have k2 := (below_cell hbw HBX.out.lt).trans k2
          have k3 := (below_cell hbw HBX.out.lt).trans k3
          have HQ := Lib.hid (show (decide (0 < i) && decide (x1 ≤ (l.getD (i - 1) ⟨0, 0, 0, []⟩).no)) = false ↔ ∀ hp : 0 < i, PpRise (l[i - 1]'(by omega)) ⟨x1, x2, x3, sk⟩ from by
            have e : ∀ hp : 0 < i, l.getD (i - 1) ⟨0, 0, 0, []⟩ = l[i - 1]'(by omega) := fun hp => by simp [List.getD, show i - 1 < l.length by omega]
            constructor
            · intro g hp
              rw [decide_eq_true hp, Bool.true_and, e hp] at g
              have := of_decide_eq_false g
              show _ < x1
              omega
            · intro g
              by_cases hp : 0 < i
              · rw [decide_eq_true hp, Bool.true_and, e hp]
                have : _ < x1 := g hp
                exact decide_eq_false (by omega)
              · rw [decide_eq_false hp, Bool.false_and])
          clear hbw k0 q2
          generalize (decide (0 < i) && decide (x1 ≤ (l.getD (i - 1) ⟨0, 0, 0, []⟩).no)) = q at *
          cases q with
          | true =>
            go_wp2_with fail
            go_ret
            exact ⟨⟨_, rfl, ⟨fun g => absurd g (by decide), fun g => absurd (HQ.out.2 (HNB.out g)) (by decide)⟩⟩, HBW.out⟩
          | false =>
            have HNX2 := Lib.hid (fun hx => HNX.out hx (HQ.out.1 rfl))
            by_cases g2 : 0 ≤ x2 ∧ x2 ≤ 100
            · have q2 : (decide ((0 : Int) ≤ x2) && decide (x2 ≤ 100)) = true := by simpa using g2
              by_cases g3 : 0 ≤ x3 ∧ x3 ≤ 19
              · have q3 : (decide ((0 : Int) ≤ x3) && decide (x3 ≤ 19)) = true := by simpa using g3
                have HNX3 := Lib.hid (fun hs => HNX2.out ⟨g1, g2, g3, hs⟩)
                have HNS := Lib.hid (fun g => (HNO.out g).2.2.2)
                clear HNX HNX2 HP HNO HNB g1 g2 g3 HQ
                go_wp2_with (go_at_call 28; refine (rwithin_any _ _ _ _).mono ?_; rintro e w' ⟨rfl, rfl⟩)
                refine (checkSkills_any sk _ wc (HSK.out.below HBW.out)).mono ?_
                rintro e w7 ⟨⟨ck, rfl, hck⟩, hb7⟩
                have HCK := Lib.hid hck
                have HB7 := Lib.hid (below_up HBW.out hb7 HBW.out.size)
                clear hck hb7 q2 q3 k1 k2 k3
                by_cases hz : ck = 0
                · have HNX4 := Lib.hid (HNX3.out (HCK.out.1 hz))
                  subst hz
                  clear HNX3 HNS HCK
                  go_wp2_with fail
                  go_roundw
                  case rel => exact ⟨i + 1, by go_num, hlt, HNX4.out, HB7.out⟩
                  case measure => simp [intOf]; omega
                · have qz : (ck == 0) = false := by simpa using hz
                  have qz2 : (ck != 0) = true := by simpa using hz
                  have HZ := Lib.hid hz
                  clear hz
                  go_wp2_with fail
                  go_ret
                  exact ⟨⟨_, rfl, ⟨fun g => absurd g HZ.out, fun g => HCK.out.2 (HNS.out g)⟩⟩, HB7.out⟩
              · have q3 : (decide ((0 : Int) ≤ x3) && decide (x3 ≤ 19)) = false := by simp; omega
                have HC := Lib.hid (show ¬ PpFine l from fun g => g3 (HNO.out g).2.2.1)
                clear HNX HNX2 HP HNO HNB g1 g2 g3 HQ
                go_wp2_with (go_at_call 28; refine (rwithin_any _ _ _ _).mono ?_; rintro e w' ⟨rfl, rfl⟩)
                go_ret
                exact ⟨⟨_, rfl, ⟨fun g => absurd g (by decide), fun g => absurd g HC.out⟩⟩, HBW.out⟩
            · have q2 : (decide ((0 : Int) ≤ x2) && decide (x2 ≤ 100)) = false := by simp; omega
              have HC := Lib.hid (show ¬ PpFine l from fun g => g2 (HNO.out g).2.1)
              clear HNX HNX2 HP HNO HNB g1 g2 HQ
              go_wp2_with (go_at_call 28; refine (rwithin_any _ _ _ _).mono ?_; rintro e w' ⟨rfl, rfl⟩)
              go_ret
              exact ⟨⟨_, rfl, ⟨fun g => absurd g (by decide), fun g => absurd g HC.out⟩⟩, HBW.out⟩
      · have q2 : (decide ((1 : Int) ≤ x1) && decide (x1 ≤ 40)) = false := by simp; omega
        have HC := Lib.hid (show ¬ PpFine l from fun g => g1 (HNO.out g).1)
        clear HNX HP HNO HNB g1
        go_wp2_with (go_at_call 28; refine (rwithin_any _ _ _ _).mono ?_; rintro e w' ⟨rfl, rfl⟩)
        go_ret
        exact ⟨⟨_, rfl, ⟨fun g => absurd g (by decide), fun g => absurd g HC.out⟩⟩, HB4.out⟩
    · obtain rfl : i = l.length := by omega
      have hf := HI.out.fine
      rw [List.take_length] at hf
      have HF := Lib.hid (show PpFine l from ⟨hl40, hf⟩)
      clear hf
      go_wp2_with fail
      go_ret
      exact ⟨⟨_, rfl, ⟨fun _ => HF.out, fun _ => rfl⟩⟩, HI.out.below⟩

set_option maxRecDepth 100000 in
set_option maxHeartbeats 1000000 in
theorem number_ok (n : Int) (hn : n.natAbs < 10 ^ 9) (w : World) (hE : Env w) :
    Calls Tryz.prog 45 #[.string (bs (Lib.itoa n))] w fun e w' => e = .returned (.tuple #[.int .i64 n, .bool true]) ∧ Below w.heap.size w w' := by
  have hp2 : (10 : Nat) ^ 9 = 1000000000 := by decide
  have hln := itoa_len n 8 hn
  have hln2 : (Lib.itoa n).length ≤ 18 := Nat.le_trans (itoa_short9 n hn) (by decide)
  have hi := fun W hW => itoa_any n (by omega) (by omega) W hW
  have ha := fun W => atoi_any n hln2 W
  have ht := fun W => trim_any (Lib.itoa n) W
  have hts : ((bs (Lib.trimPrefix (Lib.itoa n) [45])).size : Int) ≤ 9 := by rw [bs_size]; omega
  have HI := Lib.hid hi
  have HA := Lib.hid ha
  have HT := Lib.hid ht
  have HE := Lib.hid hE
  generalize bs (Lib.trimPrefix (Lib.itoa n) [45]) = t at *
  generalize bs (Lib.itoa n) = s at *
  have hq : decide (9 < (t.size : Int)) = false := by simp; omega
  have hq2 : decide (9 < t.size) = false := by simp; omega
  clear hi ha ht hE hp2 hln hln2 hn
  go_enter Tryz.func45, Tryz.ntmps45
  go_wp2_with fail
  refine (HA.out w).mono ?_
  rintro e w1 ⟨rfl, hb1⟩
  have HB1 := Lib.hid hb1
  clear hb1
  go_wp2_with fail
  refine (HI.out w1 (HE.out.below HB1.out)).mono ?_
  rintro e w2 ⟨rfl, hb2⟩
  have HB2 := Lib.hid (below_up' HB1.out hb2)
  clear hb2
  go_wp2_with fail
  refine (HT.out w2).mono ?_
  rintro e w3 ⟨rfl, rfl⟩
  go_wp2_with fail
  go_ret2
  exact ⟨rfl, HB2.out⟩
end Go.Proofs.YtemikhnkjligdaaGreatDoor

/- What RouteFair's lists look like in memory: what is held, what waits, steps. -/
namespace Go.Proofs.YtemikhnkjligdaaGreatDoor
open Go.RowKit

def hdC (h : HdD) : List Value := [.int .i64 h.ticket, .int .i64 h.no, .int .i64 h.weight, .int .i64 h.since]
def hdR (_ : World) (cs : List Value) (x : HdD) : Prop := cs = hdC x
theorem hdR_stable : Stable hdR := fun _ _ _ _ h _ => h
def Hds (w : World) (v : Value) (l : List HdD) : Prop := SliceAt 4 hdR w v l
theorem Hds.below {w w' : World} {v : Value} {l : List HdD} (h : Hds w v l) (hb : Below w.heap.size w w') : Hds w' v l := SliceAt.stable hdR_stable h hb
theorem Hds.at {w : World} {v : Value} {l : List HdD} (h : Hds w v l) (hl : 0 < l.length) : ∃ b off cap, v = .slice (some ⟨b, off, none⟩) l.length cap ∧ b < w.heap.size ∧
    ∀ i (hi : i < l.length), w.cell? ⟨b, off + i * 4, none⟩ = some (.int .i64 l[i].ticket) ∧ w.cell? ⟨b, off + i * 4 + 1, none⟩ = some (.int .i64 l[i].no) ∧ w.cell? ⟨b, off + i * 4 + 2, none⟩ = some (.int .i64 l[i].weight) ∧ w.cell? ⟨b, off + i * 4 + 3, none⟩ = some (.int .i64 l[i].since) := by
  obtain ⟨b, off, cap, hv, hc, hb, hel⟩ := SliceAt.at h hl
  refine ⟨b, off, cap, hv, hb, fun i hi => ?_⟩
  obtain ⟨cs, ⟨_, h2⟩, hr⟩ := hel i hi
  cases hr
  exact ⟨h2 0 (by simp [hdC]), h2 1 (by simp [hdC]), h2 2 (by simp [hdC]), h2 3 (by simp [hdC])⟩
def wkR (w : World) (cs : List Value) (x : WkD) : Prop := ∃ v, cs = [.int .i64 x.ticket, .int .i64 x.weight, .int .i64 x.urg, .int .i64 x.since, .int .i64 x.former, v] ∧ Skls w v x.needs
theorem wkR_stable : Stable wkR := fun _ _ _ _ ⟨v, h1, h2⟩ hb => ⟨v, h1, h2.below hb⟩
def Wks (w : World) (v : Value) (l : List WkD) : Prop := SliceAt 6 wkR w v l
theorem Wks.below {w w' : World} {v : Value} {l : List WkD} (h : Wks w v l) (hb : Below w.heap.size w w') : Wks w' v l := SliceAt.stable wkR_stable h hb
theorem Wks.at {w : World} {v : Value} {l : List WkD} (h : Wks w v l) (hl : 0 < l.length) : ∃ b off cap, v = .slice (some ⟨b, off, none⟩) l.length cap ∧ b < w.heap.size ∧
    ∀ i (hi : i < l.length), ∃ u, w.cell? ⟨b, off + i * 6, none⟩ = some (.int .i64 l[i].ticket) ∧ w.cell? ⟨b, off + i * 6 + 1, none⟩ = some (.int .i64 l[i].weight) ∧ w.cell? ⟨b, off + i * 6 + 2, none⟩ = some (.int .i64 l[i].urg) ∧ w.cell? ⟨b, off + i * 6 + 3, none⟩ = some (.int .i64 l[i].since) ∧ w.cell? ⟨b, off + i * 6 + 4, none⟩ = some (.int .i64 l[i].former) ∧ w.cell? ⟨b, off + i * 6 + 5, none⟩ = some u ∧ Skls w u l[i].needs := by
  obtain ⟨b, off, cap, hv, hc, hb, hel⟩ := SliceAt.at h hl
  refine ⟨b, off, cap, hv, hb, fun i hi => ?_⟩
  obtain ⟨cs, ⟨_, h2⟩, u, hr, hs⟩ := hel i hi
  cases hr
  exact ⟨u, h2 0 (by simp), h2 1 (by simp), h2 2 (by simp), h2 3 (by simp), h2 4 (by simp), h2 5 (by simp), hs⟩
def stR (_ : World) (cs : List Value) (x : StD) : Prop := cs = [.int .i64 x.after, .int .i64 x.lower, .bool x.any]
theorem stR_stable : Stable stR := fun _ _ _ _ h _ => h
def Sts (w : World) (v : Value) (l : List StD) : Prop := SliceAt 3 stR w v l
theorem Sts.below {w w' : World} {v : Value} {l : List StD} (h : Sts w v l) (hb : Below w.heap.size w w') : Sts w' v l := SliceAt.stable stR_stable h hb
theorem Sts.at {w : World} {v : Value} {l : List StD} (h : Sts w v l) (hl : 0 < l.length) : ∃ b off cap, v = .slice (some ⟨b, off, none⟩) l.length cap ∧ b < w.heap.size ∧
    ∀ i (hi : i < l.length), w.cell? ⟨b, off + i * 3, none⟩ = some (.int .i64 l[i].after) ∧ w.cell? ⟨b, off + i * 3 + 1, none⟩ = some (.int .i64 l[i].lower) ∧ w.cell? ⟨b, off + i * 3 + 2, none⟩ = some (.bool l[i].any) := by
  obtain ⟨b, off, cap, hv, hc, hb, hel⟩ := SliceAt.at h hl
  refine ⟨b, off, cap, hv, hb, fun i hi => ?_⟩
  obtain ⟨cs, ⟨_, h2⟩, hr⟩ := hel i hi
  cases hr
  exact ⟨h2 0 (by simp), h2 1 (by simp), h2 2 (by simp)⟩
def StOne (s : StD) : Prop := (1 ≤ s.after ∧ s.after ≤ 3000000) ∧ 0 ≤ s.lower ∧ s.lower ≤ 9
def StRise (a b : StD) : Prop := a.after < b.after
def StFine (l : List StD) : Prop := l.length ≤ 8 ∧ Lst StOne StRise l
def ableF (p : PerD) (needs : List Skl) : Bool := needs.all fun n => p.sk.any fun s => (s.1.toList == n.1.toList) && decide (n.2 ≤ s.2)
def needsF (steps : List StD) (m : Int) (w : WkD) : List Skl :=
  match (steps.filter fun s => decide (s.after ≤ m - w.since)).getLast? with
  | none => w.needs
  | some s => if s.any then [] else (w.needs.map fun k => (k.1, k.2 - s.lower)).filter fun k => decide (1 ≤ k.2)
end Go.Proofs.YtemikhnkjligdaaGreatDoor
