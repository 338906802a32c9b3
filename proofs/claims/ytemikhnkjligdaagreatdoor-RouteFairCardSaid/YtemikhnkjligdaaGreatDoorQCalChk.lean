/- The walk of cal.CheckCalendar. -/
import Derived.Test.YtemikhnkjligdaaGreatDoorQChk
namespace Go.Proofs.YtemikhnkjligdaaGreatDoor
open Go.RowKit

def spcR (w : World) (cs : List Value) (x : Int × List Shf) : Prop := ∃ v, cs = [.int .i64 x.1, v] ∧ Shifts w v x.2
theorem spcR_stable : Stable spcR := fun _ _ _ _ ⟨v, h1, h2⟩ hb => ⟨v, h1, h2.below hb⟩
def Specs (w : World) (v : Value) (l : List (Int × List Shf)) : Prop := SliceAt 2 spcR w v l
theorem Specs.below {w w' : World} {v : Value} {l : List (Int × List Shf)} (h : Specs w v l) (hb : Below w.heap.size w w') : Specs w' v l := SliceAt.stable spcR_stable h hb
theorem Specs.at {w : World} {v : Value} {l : List (Int × List Shf)} (h : Specs w v l) (hl : 0 < l.length) : ∃ b off cap, v = .slice (some ⟨b, off, none⟩) l.length cap ∧ b < w.heap.size ∧
    ∀ i (hi : i < l.length), ∃ u, w.cell? ⟨b, off + i * 2, none⟩ = some (.int .i64 l[i].1) ∧ w.cell? ⟨b, off + i * 2 + 1, none⟩ = some u ∧ Shifts w u l[i].2 := by
  obtain ⟨b, off, cap, hv, hc, hb, hel⟩ := SliceAt.at h hl
  refine ⟨b, off, cap, hv, hb, fun i hi => ?_⟩
  obtain ⟨cs, ⟨_, h2⟩, u, hr, hs⟩ := hel i hi
  cases hr
  exact ⟨u, h2 0 (by simp), h2 1 (by simp), hs⟩
structure SpsFine (l : List (Int × List Shf)) : Prop where
  each : ∀ i (h : i < l.length), SpcFine l[i]
  rise : ∀ i (h : i + 1 < l.length), l[i].1 < l[i + 1].1
theorem SpsFine.next {l : List (Int × List Shf)} {i : Nat} (h : SpsFine (l.take i)) (hi : i < l.length) (hx : SpcFine l[i]) (ho : ∀ hp : 0 < i, (l[i - 1]'(by omega)).1 < l[i].1) : SpsFine (l.take (i + 1)) := by
  refine ⟨fun j hj => ?_, fun j hj => ?_⟩
  · rw [List.getElem_take]
    rw [List.length_take] at hj
    by_cases g : j = i
    · subst g; exact hx
    · have := h.each j (by rw [List.length_take]; omega)
      rwa [List.getElem_take] at this
  · rw [List.getElem_take, List.getElem_take]
    rw [List.length_take] at hj
    by_cases g : j + 1 = i
    · have := ho (by omega)
      simp only [← g] at this ⊢
      exact this
    · have := h.rise j (by rw [List.length_take]; omega)
      rwa [List.getElem_take, List.getElem_take] at this
theorem SpsFine.nil : SpsFine [] := ⟨fun i h => absurd h (by simp), fun i h => absurd h (by simp)⟩
/-- what CheckCalendar finds right -/
structure CkFine (c : CalD) : Prop where
  zone : zcode c.off c.cs = 0
  wl : c.wk.length ≤ 60
  sl : c.sps.length ≤ 200
  week : ShfsFine false c.wk
  sps : SpsFine c.sps
theorem CkFine.fine {c : CalD} (h : CkFine c) : CalFine c := ⟨zcode_ok h.zone, h.wl, h.sl, h.week, h.sps.each, h.sps.rise⟩
structure CcInv (l : List (Int × List Shf)) (w wr : World) (i : Nat) : Prop where
  le : i ≤ l.length
  fine : SpsFine (l.take i)
  below : Below w.heap.size w wr
/-- a calendar in memory -/
structure CalAt (w : World) (vcs vwk vsp : Value) (c : CalD) : Prop where
  cs : Changes w vcs c.cs
  wk : Shifts w vwk c.wk
  sps : Specs w vsp c.sps
theorem CalAt.below {w w' : World} {vcs vwk vsp : Value} {c : CalD} (h : CalAt w vcs vwk vsp c) (hb : Below w.heap.size w w') : CalAt w' vcs vwk vsp c := ⟨h.cs.below hb, h.wk.below hb, h.sps.below hb⟩

set_option maxRecDepth 100000 in
set_option maxHeartbeats 4000000 in
theorem CheckCalendar_any (c : CalD) (vcs vwk vsp : Value) (w : World) (h : CalAt w vcs vwk vsp c) :
    Calls Tryz.prog 27 #[.agg #[.int .i64 c.off, vcs, vwk, vsp]] w fun e w' => (∃ k, e = .returned (.int .i64 k) ∧ (k = 0 ↔ CkFine c)) ∧ Below w.heap.size w w' := by
  obtain ⟨off, cs, wk, sps⟩ := c
  obtain ⟨hcs, hwk, hsp⟩ := h
  simp only at hcs hwk hsp
  obtain ⟨a1, n1, rfl⟩ := SliceAt.len hcs
  obtain ⟨a2, n2, rfl⟩ := SliceAt.len hwk
  obtain ⟨a3, n3, rfl⟩ := SliceAt.len hsp
  have HC := Lib.hid hcs
  have HK := Lib.hid hwk
  have HS := Lib.hid hsp
  clear hcs hwk hsp
  generalize hCk : CkFine { off := off, cs := cs, wk := wk, sps := sps } = Ck
  have HCK := Lib.hid (show Ck ↔ (zcode off cs = 0 ∧ wk.length ≤ 60 ∧ sps.length ≤ 200 ∧ ShfsFine false wk ∧ SpsFine sps) by
    rw [← hCk]
    exact ⟨fun g => ⟨g.zone, g.wl, g.sl, g.week, g.sps⟩, fun ⟨p, q, r, s, t⟩ => ⟨p, q, r, s, t⟩⟩)
  clear hCk
  simp only
  have hbx := box1 w #[.int .i64 off, .slice a1 cs.length n1, .slice a2 wk.length n2, .slice a3 sps.length n3] 77
  go_enter Tryz.func27, Tryz.ntmps27
  go_upto_region 1 with fail
  generalize w.alloc (.cells #[.int .i64 off, .slice a1 cs.length n1, .slice a2 wk.length n2, .slice a3 sps.length n3] 77) = w2 at *
  obtain ⟨hx, hbl⟩ := hbx
  have k0 := hx.cell 0
  have k1 := hx.cell 1
  have HX := Lib.hid hx
  have HB2 := Lib.hid hbl
  clear hx hbl
  go_wp2_with fail
  refine (CheckZone_any off _ cs w2 (HC.out.below HB2.out)).mono ?_
  rintro e w3 ⟨rfl, hb3⟩
  have HX3 := Lib.hid (HX.out.below hb3 HX.out.lt)
  have HB3 := Lib.hid (below_up HB2.out hb3 HB2.out.size)
  clear hb3 k0 k1 HX
  have k2 := HX3.out.cell 2
  have k3 := HX3.out.cell 3
  have HCK2 := Lib.hid (fun (hz : ¬ zcode off cs = 0) (g : Ck) => hz (HCK.out.1 g).1)
  by_cases hz : zcode off cs = 0
  · rw [hz]
    have HZ := Lib.hid hz
    clear hz HCK2
    by_cases hw : wk.length ≤ 60
    · have q1 : decide ((60 : Int) < (wk.length : Int)) = false := decide_eq_false (by omega)
      by_cases hs : sps.length ≤ 200
      · have q2 : decide ((200 : Int) < (sps.length : Int)) = false := decide_eq_false (by omega)
        have HL := Lib.hid (And.intro hw hs)
        go_wp2_with fail
        refine (checkShifts_any _ wk false w3 (HK.out.below HB3.out) (by omega)).mono ?_
        rintro e w4 ⟨⟨kw, rfl, hkw⟩, hb4⟩
        have HX4 := Lib.hid (HX3.out.below hb4 HX3.out.lt)
        have HB4 := Lib.hid (below_up HB3.out hb4 HB3.out.size)
        have HKW := Lib.hid hkw
        clear hb4 hkw k2 k3 HX3
        by_cases hk0 : kw = 0
        · subst hk0
          have k3 := HX4.out.cell 3
          go_wp2_with fail
          go_loopw [33] (fun iv wr => ∃ i : Nat, iv = .int .i64 i ∧ CcInv sps w wr i ∧ Has wr w.heap.size #[.int .i64 off, .slice a1 cs.length n1, .slice a2 wk.length n2, .slice a3 sps.length n3] 77) (fun iv _ => sps.length - (intOf iv).toNat)
          case atStart => exact ⟨0, rfl, ⟨Nat.zero_le _, by simpa using SpsFine.nil, HB4.out⟩, HX4.out⟩
          case round =>
            obtain ⟨i, rfl, hI, hxr⟩ := hrel
            have HI := Lib.hid hI
            have HXR := Lib.hid hxr
            have hi := hI.le
            clear hI hxr
            by_cases hlt : i < sps.length
            · obtain ⟨b, of', cap', hv, hb, hel⟩ := Specs.at HS.out (by omega)
              cases hv
              obtain ⟨u, e0, e1, hus⟩ := hel i hlt
              have c0 := (below_cell HI.out.below hb).trans e0
              have c1 := (below_cell HI.out.below hb).trans e1
              obtain ⟨ua, uc, rfl⟩ := SliceAt.len hus
              have HP := Lib.hid (fun hp : 0 < i => (hel (i - 1) (by omega)).choose_spec.1)
              have HNX := Lib.hid (fun hx ho => SpsFine.next HI.out.fine hlt hx ho)
              have HNO := Lib.hid (show SpsFine sps → SpcFine sps[i] ∧ ∀ hp : 0 < i, (sps[i - 1]'(by omega)).1 < sps[i].1 from fun g => ⟨g.each i hlt, fun hp => by
                have := g.rise (i - 1) (by omega)
                simpa [Nat.sub_add_cancel hp] using this⟩)
              have HUS := Lib.hid hus
              generalize sps[i] = s at *
              obtain ⟨d, sl⟩ := s
              simp only at c0 c1
              clear e0 e1 hel hus
              go_upto_region 12 with fail
              obtain ⟨bx, bbl⟩ := box1 wr #[.int .i64 d, .slice ua sl.length uc] 111
              have HB5 := Lib.hid (below_up HI.out.below bbl HI.out.below.size)
              have HBX := Lib.hid bx
              have HXR5 := Lib.hid (HXR.out.below bbl HXR.out.lt)
              have k0 := bx.cell 0
              have k1 := bx.cell 1
              generalize wr.alloc (.cells #[.int .i64 d, .slice ua sl.length uc] 111) = wb at *
              generalize wr.heap.size = B at *
              clear bx bbl c0 c1 HXR
              have r0 := HXR5.out.cell 3
              by_cases g1 : -1 ≤ d ∧ d ≤ 2084
              · have z1 : (decide ((-1 : Int) ≤ d) && decide (d ≤ 2084)) = true := by simpa using g1
                by_cases h0 : 0 < i
                · have r2 : decide ((0 : Int) < (i : Int)) = true := decide_eq_true (by omega)
                  have h0' : (0 : Int) < (i : Int) := by omega
                  have r1 : IntKind.i64.wrap ((i : Int) - 1) = ((i - 1 : Nat) : Int) := by rw [IntWalk.i64_in _ (by omega)]; omega
                  have r3 : i - 1 < sps.length := by omega
                  have p0 := (below_cell HB5.out hb).trans (HP.out h0)
                  have HPR := Lib.hid (show ∀ hp : 0 < i, (sps[i - 1]'(by omega)).1 = (sps[i - 1]'(by omega)).1 from fun _ => rfl)
                  have HNX := Lib.hid (fun hx (ho : (sps[i - 1]'(by omega)).1 < d) => HNX.out hx (fun _ => ho))
                  have HNO := Lib.hid (fun g => And.intro (HNO.out g).1 ((HNO.out g).2 h0))
                  clear HPR HP
                  have HP := True.intro
                  generalize sps[i - 1] = y at *
                  obtain ⟨y, yl⟩ := y
                  simp only at p0
                  by_cases g2 : d ≤ y
                  · have r4 : decide (d ≤ y) = true := decide_eq_true g2
                    have HNC := Lib.hid (show ¬ Ck from fun g => by
                      have h1 : y < d := (HNO.out (HCK.out.1 g).2.2.2.2).2
                      omega)
                    clear g2
                    go_wp2_with fail
                    refine (within_any _ _ _ _).mono ?_
                    rintro e w' ⟨rfl, rfl⟩
                    rw [z1]
                    go_wp2_with fail
                    go_quiet (fail)
                    go_wp2_with fail
                    go_ret
                    exact ⟨⟨_, rfl, ⟨fun g => absurd g (by decide), fun g => absurd g HNC.out⟩⟩, drewN_below HB5.out nq⟩
                  · have r4 : decide (d ≤ y) = false := decide_eq_false g2
                    have HORD := Lib.hid (show y < d by omega)
                    clear g2
                    by_cases g3 : sl.length ≤ 12
                    · have q3 : decide ((12 : Int) < (sl.length : Int)) = false := decide_eq_false (by omega)
                      have G3 := Lib.hid g3
                      clear HP
                      go_wp2_with fail
                      refine (within_any _ _ _ _).mono ?_
                      rintro e w' ⟨rfl, rfl⟩
                      rw [z1]
                      go_wp2_with fail
                      go_quiet (fail)
                      have hdr := drewN_below (Below.refl wb.heap.size wb) nq
                      have HD := Lib.hid hdr
                      generalize wb.drewN nq = wd at *
                      have HBD := Lib.hid (HBX.out.below hdr HBX.out.lt)
                      have HXD := Lib.hid (HXR5.out.below hdr HXR5.out.lt)
                      have HB6 := Lib.hid (below_up HB5.out hdr HB5.out.size)
                      have k1 := HBD.out.cell 1
                      clear hdr
                      go_wp2_with fail
                      refine (checkShifts_any _ sl true wd (HUS.out.below HB6.out) (by omega)).mono ?_
                      rintro e w6 ⟨⟨ks, rfl, hks⟩, hb6⟩
                      have HX7 := Lib.hid (HXD.out.below hb6 HXD.out.lt)
                      have HB7 := Lib.hid (below_up HB6.out hb6 HB6.out.size)
                      have HKS := Lib.hid hks
                      clear hb6 hks
                      by_cases hk1 : ks = 0
                      · have HF := Lib.hid (show SpcFine (d, sl) from ⟨g1.1, g1.2, G3.out, HKS.out.1 hk1⟩)
                        subst hk1
                        go_wp2_with fail
                        go_roundw
                        case rel => exact ⟨i + 1, by go_num, ⟨hlt, HNX.out HF.out HORD.out, HB7.out⟩, HX7.out⟩
                        case measure => simp [intOf]; omega
                      · have y0 : (ks == 0) = false := by simpa using hk1
                        have y1 : (ks != 0) = true := by simpa using hk1
                        have HNC := Lib.hid (show ks = 0 ↔ Ck from ⟨fun g => absurd g hk1, fun g => absurd (HKS.out.2 (HNO.out (HCK.out.1 g).2.2.2.2).1.shifts) hk1⟩)
                        clear hk1
                        go_wp2_with fail
                        go_ret
                        exact ⟨⟨_, rfl, HNC.out⟩, HB7.out⟩
                    · have q3 : decide ((12 : Int) < (sl.length : Int)) = true := decide_eq_true (by omega)
                      have HNC := Lib.hid (show ¬ Ck from fun g => g3 (HNO.out (HCK.out.1 g).2.2.2.2).1.len)
                      clear g3 HP
                      go_wp2_with fail
                      refine (within_any _ _ _ _).mono ?_
                      rintro e w' ⟨rfl, rfl⟩
                      rw [z1]
                      go_wp2_with fail
                      go_quiet (fail)
                      have hdr := drewN_below (Below.refl wb.heap.size wb) nq
                      generalize wb.drewN nq = wd at *
                      have HBD := Lib.hid (HBX.out.below hdr HBX.out.lt)
                      have HB6 := Lib.hid (below_up HB5.out hdr HB5.out.size)
                      have k1 := HBD.out.cell 1
                      clear hdr
                      go_wp2_with fail
                      go_ret
                      exact ⟨⟨_, rfl, ⟨fun g => absurd g (by decide), fun g => absurd g HNC.out⟩⟩, HB6.out⟩
                · obtain rfl : i = 0 := by omega
                  have HORD := True.intro
                  have HNX := Lib.hid (fun hx (_ : True) => HNX.out hx (fun hp => absurd hp (by decide)))
                  have HORD := Lib.hid HORD
                  by_cases g3 : sl.length ≤ 12
                  · have q3 : decide ((12 : Int) < (sl.length : Int)) = false := decide_eq_false (by omega)
                    have G3 := Lib.hid g3
                    clear HP
                    go_wp2_with fail
                    refine (within_any _ _ _ _).mono ?_
                    rintro e w' ⟨rfl, rfl⟩
                    rw [z1]
                    go_wp2_with fail
                    go_quiet (fail)
                    have hdr := drewN_below (Below.refl wb.heap.size wb) nq
                    have HD := Lib.hid hdr
                    generalize wb.drewN nq = wd at *
                    have HBD := Lib.hid (HBX.out.below hdr HBX.out.lt)
                    have HXD := Lib.hid (HXR5.out.below hdr HXR5.out.lt)
                    have HB6 := Lib.hid (below_up HB5.out hdr HB5.out.size)
                    have k1 := HBD.out.cell 1
                    clear hdr
                    go_wp2_with fail
                    refine (checkShifts_any _ sl true wd (HUS.out.below HB6.out) (by omega)).mono ?_
                    rintro e w6 ⟨⟨ks, rfl, hks⟩, hb6⟩
                    have HX7 := Lib.hid (HXD.out.below hb6 HXD.out.lt)
                    have HB7 := Lib.hid (below_up HB6.out hb6 HB6.out.size)
                    have HKS := Lib.hid hks
                    clear hb6 hks
                    by_cases hk1 : ks = 0
                    · have HF := Lib.hid (show SpcFine (d, sl) from ⟨g1.1, g1.2, G3.out, HKS.out.1 hk1⟩)
                      subst hk1
                      go_wp2_with fail
                      go_roundw
                      case rel => exact ⟨0 + 1, by go_num, ⟨hlt, HNX.out HF.out HORD.out, HB7.out⟩, HX7.out⟩
                      case measure => simp [intOf]; omega
                    · have y0 : (ks == 0) = false := by simpa using hk1
                      have y1 : (ks != 0) = true := by simpa using hk1
                      have HNC := Lib.hid (show ks = 0 ↔ Ck from ⟨fun g => absurd g hk1, fun g => absurd (HKS.out.2 (HNO.out (HCK.out.1 g).2.2.2.2).1.shifts) hk1⟩)
                      clear hk1
                      go_wp2_with fail
                      go_ret
                      exact ⟨⟨_, rfl, HNC.out⟩, HB7.out⟩
                  · have q3 : decide ((12 : Int) < (sl.length : Int)) = true := decide_eq_true (by omega)
                    have HNC := Lib.hid (show ¬ Ck from fun g => g3 (HNO.out (HCK.out.1 g).2.2.2.2).1.len)
                    clear g3 HP
                    go_wp2_with fail
                    refine (within_any _ _ _ _).mono ?_
                    rintro e w' ⟨rfl, rfl⟩
                    rw [z1]
                    go_wp2_with fail
                    go_quiet (fail)
                    have hdr := drewN_below (Below.refl wb.heap.size wb) nq
                    generalize wb.drewN nq = wd at *
                    have HBD := Lib.hid (HBX.out.below hdr HBX.out.lt)
                    have HB6 := Lib.hid (below_up HB5.out hdr HB5.out.size)
                    have k1 := HBD.out.cell 1
                    clear hdr
                    go_wp2_with fail
                    go_ret
                    exact ⟨⟨_, rfl, ⟨fun g => absurd g (by decide), fun g => absurd g HNC.out⟩⟩, HB6.out⟩
              · have z1 : (decide ((-1 : Int) ≤ d) && decide (d ≤ 2084)) = false := by simp; omega
                have HNC := Lib.hid (show ¬ Ck from fun g => by
                  have := (HNO.out (HCK.out.1 g).2.2.2.2).1
                  exact g1 ⟨this.lo, this.hi⟩)
                clear HNX HNO HP
                go_wp2_with fail
                refine (within_any _ _ _ _).mono ?_
                rintro e w' ⟨rfl, rfl⟩
                rw [z1]
                go_wp2_with fail
                go_ret
                exact ⟨⟨_, rfl, ⟨fun g => absurd g (by decide), fun g => absurd g HNC.out⟩⟩, HB5.out⟩
            · obtain rfl : i = sps.length := by omega
              have hf := HI.out.fine
              rw [List.take_length] at hf
              have HF := Lib.hid (show Ck from HCK.out.2 ⟨HZ.out, HL.out.1, HL.out.2, HKW.out.1 (by first | rfl | trivial), hf⟩)
              clear hf
              go_wp2_with fail
              go_ret
              exact ⟨⟨_, rfl, ⟨fun _ => HF.out, fun _ => rfl⟩⟩, HI.out.below⟩
        · have z0 : (kw == 0) = false := by simpa using hk0
          have z1 : (kw != 0) = true := by simpa using hk0
          have HNC := Lib.hid (show kw = 0 ↔ Ck from ⟨fun g => absurd g hk0, fun g => absurd (HKW.out.2 (HCK.out.1 g).2.2.2.1) hk0⟩)
          clear hk0
          go_wp2_with fail
          go_ret
          exact ⟨⟨_, rfl, HNC.out⟩, HB4.out⟩
      · have q2 : decide ((200 : Int) < (sps.length : Int)) = true := decide_eq_true (by omega)
        have HNC := Lib.hid (show ¬ Ck from fun g => hs (HCK.out.1 g).2.2.1)
        clear hs
        go_wp2_with fail
        go_ret
        exact ⟨⟨_, rfl, ⟨fun g => absurd g (by decide), fun g => absurd g HNC.out⟩⟩, HB3.out⟩
    · have q1 : decide ((60 : Int) < (wk.length : Int)) = true := decide_eq_true (by omega)
      have HNC := Lib.hid (show ¬ Ck from fun g => hw (HCK.out.1 g).2.1)
      clear hw
      go_wp2_with fail
      go_ret
      exact ⟨⟨_, rfl, ⟨fun g => absurd g (by decide), fun g => absurd g HNC.out⟩⟩, HB3.out⟩
  · have HNC := Lib.hid (show zcode off cs = 0 ↔ Ck from ⟨fun g => absurd g hz, fun g => absurd g (HCK2.out hz)⟩)
    generalize zcode off cs = z at *
    have z0 : (z == 0) = false := by simpa using hz
    have z1 : (z != 0) = true := by simpa using hz
    clear hz HCK2 HCK
    go_wp2_with fail
    go_ret
    exact ⟨⟨_, rfl, HNC.out⟩, HB3.out⟩

end Go.Proofs.YtemikhnkjligdaaGreatDoor
