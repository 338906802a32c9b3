/- The walk of level.CheckPolicy. -/
import Derived.Test.YtllcgcnebofdoaaGreatDoorQPoChk2
import Derived.Test.YtllcgcnebofdoaaGreatDoorQCkEach
import Derived.Test.YtllcgcnebofdoaaGreatDoorQPoTxt
namespace Go.Proofs.YtllcgcnebofdoaaGreatDoor
open Go.RowKit

structure CaInv (p : PolD) (vp vl : Value) (w wr : World) (i : Nat) : Prop where
  le : i ≤ p.pauses.length
  fine : Lst PauOne PauRise (p.pauses.take i)
  box : Has wr w.heap.size #[vp, vl] 25
  below : Below w.heap.size w wr
structure CbInv (p : PolD) (vp vl : Value) (w wr : World) (M i : Nat) : Prop where
  le : i ≤ p.levs.length
  fine : LevsOk (p.levs.take i)
  map : ∃ S, NMap wr M i S ∧ ∀ s, s ∈ S ↔ s ∈ (p.levs.take i).map (·.name)
  box : Has wr w.heap.size #[vp, vl] 25
  below : Below w.heap.size w wr
/-- a policy in memory -/
structure PolAt (w : World) (vp vl : Value) (p : PolD) : Prop where
  pauses : Ints w vp p.pauses
  levs : Levs w vl p.levs
theorem PolAt.below {w w' : World} {vp vl : Value} {p : PolD} (h : PolAt w vp vl p) (hb : Below w.heap.size w w') : PolAt w' vp vl p := ⟨h.pauses.below hb, h.levs.below hb⟩
theorem size3_lt {D : Nat} : D < D + 1 := Nat.lt_succ_self D

set_option maxRecDepth 100000 in
set_option maxHeartbeats 8000000 in
theorem CheckPolicy_any (p : PolD) (vp vl : Value) (w : World) (h : PolAt w vp vl p) :
    Calls Tryz.prog 18 #[.agg #[vp, vl]] w fun e w' => (∃ k, e = .returned (.int .i64 k) ∧ (k = 0 ↔ PolOk p)) ∧ Below w.heap.size w w' := by
  obtain ⟨pa, pc, rfl⟩ := SliceAt.len h.pauses
  obtain ⟨la, lc, rfl⟩ := SliceAt.len h.levs
  have HP := Lib.hid h.pauses
  have HL := Lib.hid h.levs
  have HO1 := Lib.hid (show PolOk p → Lst PauOne PauRise p.pauses from fun g => g.pauses)
  have HO2 := Lib.hid (show PolOk p → p.levs.length ≤ 20 from fun g => g.few)
  have HO3 := Lib.hid (show PolOk p → LevsOk p.levs from fun g => g.levs)
  have HMK := Lib.hid (show Lst PauOne PauRise p.pauses → p.levs.length ≤ 20 → LevsOk p.levs → PolOk p from fun a b c => ⟨a, b, c⟩)
  have hbx := box1 w #[.slice pa p.pauses.length pc, .slice la p.levs.length lc] 25
  have HI0 := Lib.hid (show CaInv p (.slice pa p.pauses.length pc) (.slice la p.levs.length lc) w (w.alloc (.cells #[.slice pa p.pauses.length pc, .slice la p.levs.length lc] 25)) 0 from ⟨Nat.zero_le _, by rw [List.take_zero]; exact Lst.nil, hbx.1, hbx.2⟩)
  have k0 := hbx.1.cell 0
  clear h hbx
  generalize PolOk p = T at *
  have hmm := @run_makeMap Tryz.prog
  go_enter Tryz.func18, Tryz.ntmps18
  go_upto_region 1 with fail
  generalize w.alloc (.cells #[.slice pa p.pauses.length pc, .slice la p.levs.length lc] 25) = w2 at *
  go_wp2_with fail
  go_loopw [12] (fun iv wr => ∃ i : Nat, iv = .int .i64 ((i : Nat) : Int) ∧ CaInv p (.slice pa p.pauses.length pc) (.slice la p.levs.length lc) w wr i) (fun iv _ => p.pauses.length - (intOf iv).toNat)
  case atStart => exact ⟨0, rfl, HI0.out⟩
  case round =>
    obtain ⟨i, rfl, hI⟩ := hrel
    have HI := Lib.hid hI
    have hi := hI.le
    have hi4 : i ≤ 4 := by
      have := pau_few hI.fine
      rw [List.length_take] at this
      omega
    clear hI HI0 k0
    by_cases hlt : i < p.pauses.length
    · obtain ⟨b, of', cap', hv, hb, hcp, hel⟩ := Ints.at HP.out (by omega)
      cases hv
      have c0 := (below_cell HI.out.below hb).trans (hel i hlt)
      have kl := HI.out.box.cell 0
      have HPV := Lib.hid (fun hp : 0 < i => (below_cell HI.out.below hb).trans (hel (i - 1) (by omega)))
      have HNX := Lib.hid (fun hx ho => Lst.next HI.out.fine hlt hx ho)
      have HNO := Lib.hid (show T → PauOne p.pauses[i] from fun g => (HO1.out g).each i hlt)
      have HNB := Lib.hid (show T → ∀ hp : 0 < i, PauRise (p.pauses[i - 1]'(by omega)) p.pauses[i] from fun g hp => (HO1.out g).before hlt hp)
      clear hel
      generalize p.pauses[i] = x at *
      obtain ⟨b1, hb1⟩ : ∃ b, (decide ((1 : Int) ≤ x) && decide (x ≤ 4)) = b := ⟨_, rfl⟩
      have HQ1 := Lib.hid (show b1 = true ↔ PauOne x by
        rw [← hb1]
        unfold PauOne
        simp)
      cases b1 with
      | false =>
        have HC := Lib.hid (show ¬ T from fun g => absurd (HQ1.out.2 (HNO.out g)) (by decide))
        clear HNX HNO HNB HPV HQ1
        go_wp2_with (go_at_call 27; refine (lwithin_any _ _ _ _).mono ?_; rw [hb1]; rintro e w' ⟨rfl, rfl⟩)
        go_ret
        exact ⟨⟨_, rfl, ⟨fun g => absurd g (by decide), fun g => absurd g HC.out⟩⟩, HI.out.below⟩
      | true =>
        have HNX2 := Lib.hid (HNX.out (HQ1.out.1 rfl))
        clear HNX HNO HQ1
        go_upto_region 6 with (go_at_call 27; refine (lwithin_any _ _ _ _).mono ?_; rw [hb1]; rintro e w' ⟨rfl, rfl⟩)
        clear hb1
        go_cut [31] (fun v wy => v = .bool (decide (0 < i) && decide (x ≤ p.pauses.getD (i - 1) 0)) ∧ Below wr.heap.size wr wy)
        case first =>
          clear HNX2 HNB
          by_cases h0 : 0 < i
          · have r2 : decide ((0 : Int) < (i : Int)) = true := decide_eq_true (by omega)
            have p0 := HPV.out h0
            have r1 : IntKind.i64.wrap ((i : Int) - 1) = ((i - 1 : Nat) : Int) := by rw [IntWalk.i64_in _ (by omega)]; omega
            have r3 : i - 1 < p.pauses.length := by omega
            have HGD := Lib.hid (show p.pauses.getD (i - 1) 0 = p.pauses[i - 1] by simp [List.getD, r3])
            clear HPV
            generalize p.pauses[i - 1] = y at *
            go_wp2_with fail
            go_meet
            exact ⟨by rw [HGD.out, decide_eq_true h0]; rfl, Below.refl _ _⟩
          · obtain rfl : i = 0 := by omega
            clear HPV
            go_wp2_with fail
            go_meet
            exact ⟨rfl, Below.refl _ _⟩
        case rest =>
          obtain ⟨rfl, hbw⟩ := hcut
          have HBW := Lib.hid (below_up HI.out.below hbw HI.out.below.size)
          have HXW := Lib.hid (HI.out.box.below hbw HI.out.box.lt)
          have HQ := Lib.hid (show (decide (0 < i) && decide (x ≤ p.pauses.getD (i - 1) 0)) = false ↔ ∀ hp : 0 < i, PauRise (p.pauses[i - 1]'(by omega)) x from by
            have e : ∀ hp : 0 < i, p.pauses.getD (i - 1) 0 = p.pauses[i - 1]'(by omega) := fun hp => by simp [List.getD, show i - 1 < p.pauses.length by omega]
            constructor
            · intro g hp
              rw [decide_eq_true hp, Bool.true_and, e hp] at g
              have := of_decide_eq_false g
              show _ < x
              omega
            · intro g
              by_cases hp : 0 < i
              · rw [decide_eq_true hp, Bool.true_and, e hp]
                have : _ < x := g hp
                exact decide_eq_false (by omega)
              · rw [decide_eq_false hp, Bool.false_and])
          clear hbw c0 kl HPV
          generalize (decide (0 < i) && decide (x ≤ p.pauses.getD (i - 1) 0)) = q at *
          cases q with
          | true =>
            go_wp2_with fail
            go_ret
            exact ⟨⟨_, rfl, ⟨fun g => absurd g (by decide), fun g => absurd (HQ.out.2 (HNB.out g)) (by decide)⟩⟩, HBW.out⟩
          | false =>
            have HIN := Lib.hid (show CaInv p (.slice (some ⟨b, of', none⟩) p.pauses.length pc) (.slice la p.levs.length lc) w wc (i + 1) from ⟨hlt, HNX2.out (HQ.out.1 rfl), HXW.out, HBW.out⟩)
            clear HNX2 HQ HNB
            go_wp2_with fail
            go_roundw
            case rel => exact ⟨i + 1, by go_num, HIN.out⟩
            case measure => simp [intOf]; omega
    · obtain rfl : i = p.pauses.length := by omega
      have hfull := HI.out.fine
      rw [List.take_length] at hfull
      have HMK2 := Lib.hid (HMK.out hfull)
      have k1 := HI.out.box.cell 1
      clear hfull HMK HO1
      by_cases h20 : 20 < p.levs.length
      · have q : decide ((20 : Int) < (p.levs.length : Int)) = true := decide_eq_true (by omega)
        have H20 := Lib.hid h20
        clear h20
        go_wp2_with fail
        go_ret
        exact ⟨⟨_, rfl, ⟨fun g => absurd g (by decide), fun g => absurd (HO2.out g) (by have := H20.out; omega)⟩⟩, HI.out.below⟩
      have q : decide ((20 : Int) < (p.levs.length : Int)) = false := decide_eq_false (by omega)
      have hl20 : p.levs.length ≤ 20 := by omega
      have HMK3 := Lib.hid (HMK2.out hl20)
      clear HMK2 h20 HO2
      go_upto_region 12 with fail
      have hnm := NMap.made wr
      have hbm : Below wr.heap.size wr (wr.alloc (.map #[] 0)) := (Below.refl _ _).alloc (Nat.le_refl _) _
      have hMw : w.heap.size ≤ wr.heap.size := HI.out.below.size
      have HJ0 := Lib.hid (show CbInv p (.slice pa p.pauses.length pc) (.slice la p.levs.length lc) w (wr.alloc (.map #[] 0)) wr.heap.size 0 from
        ⟨Nat.zero_le _, by rw [List.take_zero]; exact LevsOk.nil, ⟨[], hnm, fun s => by simp⟩, HI.out.box.below hbm HI.out.box.lt, below_up HI.out.below hbm HI.out.below.size⟩)
      have k1 := HJ0.out.box.cell 1
      have hMne : w.heap.size < wr.heap.size := HI.out.box.lt
      clear hnm hbm HI hi hmm
      generalize wr.alloc (.map #[] 0) = w4 at *
      generalize wr.heap.size = M at *
      go_wp2_with fail
      go_loopw [41] (fun iv wx => ∃ j : Nat, iv = .int .i64 ((j : Nat) : Int) ∧ CbInv p (.slice pa p.pauses.length pc) (.slice la p.levs.length lc) w wx M j) (fun iv _ => p.levs.length - (intOf iv).toNat)
      case atStart => exact ⟨0, rfl, HJ0.out⟩
      case round =>
        obtain ⟨j, rfl, hJ⟩ := hrel
        rename World => wx
        have HJ := Lib.hid hJ
        have hj := hJ.le
        clear hJ HJ0 k1
        by_cases hltj : j < p.levs.length
        · obtain ⟨b, of', cap', hv, hb, hel⟩ := Levs.at HL.out (by omega)
          cases hv
          obtain ⟨vt, vg, ⟨e0, e1, e2⟩, hsz, ht, hg⟩ := hel j hltj
          obtain ⟨ta, tc, rfl⟩ := SliceAt.len ht
          obtain ⟨ga, gc, rfl⟩ := SliceAt.len hg
          obtain ⟨S, hS, hSm⟩ := HJ.out.map
          have c0 := (below_cell HJ.out.below hb).trans e0
          have c1 := (below_cell HJ.out.below hb).trans e1
          have c2 := (below_cell HJ.out.below hb).trans e2
          have hMx : M < wx.heap.size := hS.lt
          have HS := Lib.hid hS
          have HSM := Lib.hid hSm
          have HT := Lib.hid ht
          have HG := Lib.hid hg
          have HSZ := Lib.hid hsz
          have HNX := Lib.hid (fun h1 h2 h3 => LevsOk.next HJ.out.fine hltj h1 h2 h3)
          have HNO := Lib.hid (show T → nm p.levs[j].name = true ∧ p.levs[j].name ∉ (p.levs.take j).map (·.name) ∧ LevOk p.levs[j] from fun g => (HO3.out g).one hltj)
          have HTK := Lib.hid (show ∀ s, s ∈ p.levs[j].name :: S ↔ s ∈ (p.levs.take (j + 1)).map (·.name) from fun s => by
            rw [List.take_succ_eq_append_getElem hltj, List.map_append, List.mem_append, List.mem_cons, hSm s]
            simp [or_comm])
          clear e0 e1 e2 hel hS hSm hsz ht hg
          generalize p.levs[j] = l at *
          obtain ⟨n, ts, gs⟩ := l
          simp only at c0 c1 c2 HT HG HSZ HTK HNO HNX
          go_upto_region 15 with fail
          obtain ⟨bx, bbl⟩ := box1 wx #[.string n, .slice ta ts.length tc, .slice ga gs.length gc] 106
          have HB4 := Lib.hid (below_up HJ.out.below bbl HJ.out.below.size)
          have HX4 := Lib.hid (HJ.out.box.below bbl HJ.out.box.lt)
          have HM4 := Lib.hid (HS.out.below bbl HS.out.lt)
          have m0 := bx.cell 0
          have HBX := Lib.hid bx
          clear bx bbl c0 c1 c2 HS
          generalize wx.alloc (.cells #[.string n, .slice ta ts.length tc, .slice ga gs.length gc] 106) = wb at *
          generalize wx.heap.size = D at *
          have HNM := Lib.hid (fun W => name_any n HSZ.out W)
          have hlk := HM4.out.look HSZ.out
          cases hn : nm n with
          | false =>
            have HC := Lib.hid (show ¬ T from fun g => absurd (HNO.out g).1 (by rw [hn]; decide))
            rw [hn] at HNM
            clear hn HNX HNO HTK hlk
            go_wp2_with fail
            refine (HNM.out wb).mono ?_
            rintro e w5 ⟨rfl, rfl⟩
            go_wp2_with fail
            go_ret
            exact ⟨⟨_, rfl, ⟨fun g => absurd g (by decide), fun g => absurd g HC.out⟩⟩, HB4.out⟩
          | true =>
            have HNX2 := Lib.hid (fun h2 h3 => HNX.out hn h2 h3)
            rw [hn] at HNM
            clear hn HNX
            cases hh : hasN S n with
            | true =>
              have HC := Lib.hid (show ¬ T from fun g => (HNO.out g).2.1 ((HSM.out n).1 ((hasN_iff _ _).1 hh)))
              rw [hh] at hlk
              clear hh HNX2 HNO HTK
              go_wp2_with fail
              refine (HNM.out wb).mono ?_
              rintro e w5 ⟨rfl, rfl⟩
              go_wp2_with fail
              go_ret
              exact ⟨⟨_, rfl, ⟨fun g => absurd g (by decide), fun g => absurd g HC.out⟩⟩, HB4.out⟩
            | false =>
              have HNX3 := Lib.hid (HNX2.out (fun g => by rw [(hasN_iff _ _).2 ((HSM.out n).2 g)] at hh; cases hh))
              rw [hh] at hlk
              obtain ⟨w6, hput, hm6, hg6⟩ := HM4.out.put HSZ.out (by omega)
              have hne1 : w.heap.size ≠ M := by omega
              have hne2 : D ≠ M := by omega
              have hzw : w.heap.size ≤ wb.heap.size := HB4.out.size
              have HB6 := Lib.hid (below_grown HB4.out hg6 hzw (by omega))
              have HX6 := Lib.hid (HX4.out.kept hg6 (by simpa using hne1))
              have hb6 : Has w6 D #[.string n, .slice ta ts.length tc, .slice ga gs.length gc] 106 := HBX.out.kept hg6 (by simpa using hne2)
              have HM6 := Lib.hid hm6
              have n0 := hb6.cell 0
              have n1 := hb6.cell 1
              have n2 := hb6.cell 2
              have HCL := Lib.hid (checkLevel_any ⟨n, ts, gs⟩ _ _ w6 (HT.out.below HB6.out) (HG.out.below HB6.out))
              clear hh HNX2 hm6 hg6 hb6 hne1 hne2 hzw HM4 HX4 HBX HT HG HSM
              go_wp2_with fail
              refine (HNM.out wb).mono ?_
              rintro e w5 ⟨rfl, rfl⟩
              go_wp2_with fail
              refine HCL.out.mono ?_
              rintro e w7 ⟨⟨k, rfl, hk⟩, hb7⟩
              have HK := Lib.hid hk
              have HB7 := Lib.hid (below_up HB6.out hb7 HB6.out.size)
              have HX7 := Lib.hid (HX6.out.below hb7 HX6.out.lt)
              have HM7 := Lib.hid (HM6.out.below hb7 HM6.out.lt)
              clear hk hb7 n0 n1 n2 m0 HCL HNM hlk hput
              by_cases hz : k = 0
              · subst hz
                have HIN := Lib.hid (show CbInv p (.slice pa p.pauses.length pc) (.slice (some ⟨b, of', none⟩) p.levs.length lc) w w7 M (j + 1) from ⟨hltj, HNX3.out (HK.out.1 rfl), ⟨_, HM7.out, HTK.out⟩, HX7.out, HB7.out⟩)
                clear HNX3 HK HNO HTK
                go_wp2_with fail
                go_roundw
                case rel => exact ⟨j + 1, by go_num, HIN.out⟩
                case measure => simp [intOf]; omega
              · have q1 : (k == 0) = false := by simpa using hz
                have q2 : (k != 0) = true := by simpa using hz
                have HZ := Lib.hid hz
                clear hz
                go_wp2_with fail
                go_ret
                exact ⟨⟨_, rfl, ⟨fun g => absurd g HZ.out, fun g => HK.out.2 (HNO.out g).2.2⟩⟩, HB7.out⟩
        · obtain rfl : j = p.levs.length := by omega
          have hfull := HJ.out.fine
          rw [List.take_length] at hfull
          have HMK4 := Lib.hid (HMK3.out hfull)
          clear hfull
          go_wp2_with fail
          go_ret
          exact ⟨⟨_, rfl, ⟨fun _ => HMK4.out, fun _ => rfl⟩⟩, HJ.out.below⟩
end Go.Proofs.YtllcgcnebofdoaaGreatDoor

/- The walks of keeper.target and keeper.begin, and of the three functions that each is called with. -/
namespace Go.Proofs.YtllcgcnebofdoaaGreatDoor
open Go.RowKit

theorem results_cell_tmp_row {P : Program} {fn : Func} {p u : Tmp} {ty : TypeId} (h : fn.results = #[.cell p ty, .tmp u]) (tmps : Array Value) (w : World) (g : Nat) (t : TypeId) (cs : Array Value) (fr : Nat × Nat) (d : TypeDesc)
    (hp : tmps.getD p undef = .pointer (some ⟨g, 0, none⟩)) (hg : w.heap[g]? = some (.cells cs t fr))
    (hu : P.underlying ty = some d) (hd : (match d with | .struct _ | .array _ _ => true | _ => false) = true) (hi : (P.info? ty).map (·.size) = some cs.size) :
    (results fn tmps).run P w = .ok (.tuple #[.agg cs, tmps.getD u undef]) w := by
  rw [results_cell_tmp h, hp]
  simp [asAddr, run_loadVar_row w g t ty cs fr d hg hu hd hi]
theorem infoTgt : (Tryz.prog.info? 72).map (·.size) = some 3 := by kernel_rfl
def tgtV : Option TgtD → Value
  | none => .agg #[.int .i64 0, .int .i64 0, .int .i64 0]
  | some t => .agg #[.int .i64 t.1, .int .i64 t.2.1, .int .i64 t.2.2]
theorem find_next {kind : Int} {l : List TgtD} {i : Nat} (hi : i < l.length) : tgtFind kind (l.drop i) = if l[i].1 = kind then some l[i] else tgtFind kind (l.drop (i + 1)) := by
  rw [List.drop_eq_getElem_cons hi]
  rfl
structure TgI (w wr : World) (kind : Int) (l : List TgtD) (i : Nat) : Prop where
  le : i ≤ l.length
  find : tgtFind kind (l.drop i) = tgtFind kind l
  box : Has wr w.heap.size #[.int .i64 0, .int .i64 0, .int .i64 0] 72
  below : Below w.heap.size w wr
set_option maxRecDepth 100000 in
set_option maxHeartbeats 4000000 in
theorem target_any (p : PolD) (lev kind : Int) (vp vl vk : Value) (K : Nat) (w : World) (hK : Has w K #[vp, vl, .int .i64 lev, vk] 67) (hP : PolAt w vp vl p) (hO : PolOk p) (h1 : -1 ≤ lev) (h2 : lev < (p.levs.length : Int)) :
    Calls Tryz.prog 80 #[.pointer (some ⟨K, 0, none⟩), .int .i64 kind] w fun e w' => e = .returned (.tuple #[tgtV (tgtOf p lev kind), .bool (tgtOf p lev kind).isSome]) ∧ Below w.heap.size w w' := by
  have hbx := box1 w #[.int .i64 0, .int .i64 0, .int .i64 0] 72
  have HX := Lib.hid hbx.1
  have HB := Lib.hid hbx.2
  have HP := Lib.hid hP
  have k2 := (hK.below hbx.2 hK.lt).cell 2
  have k1 := (hK.below hbx.2 hK.lt).cell 1
  have HFIN := Lib.hid (fun (wz : World) (hX : Has wz w.heap.size #[.int .i64 0, .int .i64 0, .int .i64 0] 72) (hB : Below w.heap.size w wz) (a0 a1 a2 : Value) =>
    (⟨((hX.set 0 a0).set 1 a1).set 2 a2, ((hB.setCell (p := ⟨w.heap.size, 0, none⟩) (Nat.le_refl _) a0).setCell (p := ⟨w.heap.size, 1, none⟩) (Nat.le_refl _) a1).setCell (p := ⟨w.heap.size, 2, none⟩) (Nat.le_refl _) a2⟩ :
      Has (((wz.setCell ⟨w.heap.size, 0, none⟩ a0).setCell ⟨w.heap.size, 1, none⟩ a1).setCell ⟨w.heap.size, 2, none⟩ a2) w.heap.size #[a0, a1, a2] 72 ∧
      Below w.heap.size w (((wz.setCell ⟨w.heap.size, 0, none⟩ a0).setCell ⟨w.heap.size, 1, none⟩ a1).setCell ⟨w.heap.size, 2, none⟩ a2)))
  have hKw : K < w.heap.size := hK.lt
  clear hK hP hbx
  go_enter Tryz.func80, Tryz.ntmps80
  go_upto_region 1 with fail
  generalize w.alloc (.cells #[.int .i64 0, .int .i64 0, .int .i64 0] 72) = w2 at *
  by_cases hneg : lev < 0
  · have q : decide (lev < 0) = true := decide_eq_true hneg
    have HT := Lib.hid (show tgtOf p lev kind = none by unfold tgtOf; rw [if_pos hneg])
    have x0 := HX.out.cell 0
    have x1 := HX.out.cell 1
    have x2 := HX.out.cell 2
    have y0 := HX.out.fz 0
    have y1 := HX.out.fz 1
    have y2 := HX.out.fz 2
    have HF := Lib.hid (HFIN.out w2 HX.out HB.out (.int .i64 0) (.int .i64 0) (.int .i64 0))
    clear HFIN
    go_wp2_with fail
    try simp only [Exit.inBlock, Exit.then]
    refine bodyPost_ret (results_cell_tmp_row rfl _ _ w.heap.size _ _ (0, 0) _ rfl HF.out.1 Tryz.underlying72 rfl infoTgt) rfl ?_
    exact ⟨by rw [HT.out]; rfl, HF.out.2⟩
  · have q : decide (lev < 0) = false := decide_eq_false hneg
    obtain ⟨m, rfl⟩ := Int.eq_ofNat_of_zero_le (by omega : 0 ≤ lev)
    have hm : m < p.levs.length := by omega
    have hl20 : p.levs.length ≤ 20 := hO.few
    obtain ⟨b, of', cap', hvl, hb, hel⟩ := Levs.at HP.out.levs (by omega)
    subst hvl
    obtain ⟨vt, vg, ⟨-, -, e2⟩, -, -, hg⟩ := hel m hm
    obtain ⟨ga, gc, rfl⟩ := SliceAt.len hg
    have c2 := (below_cell HB.out hb).trans e2
    have hlo := (hO.levs.each _ (List.getElem_mem hm)).2
    have hg3 := tgt_few hlo.tgts
    have HT := Lib.hid (show tgtOf p (m : Int) kind = tgtFind kind p.levs[m].tgts by
      unfold tgtOf
      rw [if_neg (by omega), show ((m : Nat) : Int).toNat = m from rfl]
      simp [List.getD, hm])
    have HG := Lib.hid hg
    have hmI : (m : Int) < (p.levs.length : Int) := by omega
    have hwm : IntKind.i64.wrap (m : Int) = (m : Int) := IntWalk.i64_in _ (by omega)
    clear e2 hel hg hlo hneg h1 h2
    generalize p.levs[m].tgts = l at *
    go_upto_region 3 with fail
    go_quiet (fail)
    have hbq := drewN_below (Below.refl w2.heap.size w2) nq
    have HI0 := Lib.hid (show TgI w (w2.drewN nq) kind l 0 from ⟨Nat.zero_le _, rfl, HX.out.below hbq HX.out.lt, below_up HB.out hbq HB.out.size⟩)
    clear hbq k1 k2 c2 HX HB
    generalize w2.drewN nq = w3 at *
    go_wp2_with fail
    go_loopw [27] (fun iv wr => ∃ i : Nat, iv = .int .i64 ((i : Nat) : Int) ∧ TgI w wr kind l i) (fun iv _ => l.length - (intOf iv).toNat)
    case atStart => exact ⟨0, rfl, HI0.out⟩
    case round =>
      obtain ⟨i, rfl, hI⟩ := hrel
      have HI := Lib.hid hI
      have hi := hI.le
      clear hI HI0
      by_cases hlt : i < l.length
      · obtain ⟨tb, to', tcp, hv, htb, htcp, htl⟩ := Tgts.at HG.out (show 0 < l.length by omega)
        cases hv
        obtain ⟨e0, e1, e2⟩ := htl i hlt
        have c0 := (below_cell HI.out.below htb).trans e0
        have c1 := (below_cell HI.out.below htb).trans e1
        have c2 := (below_cell HI.out.below htb).trans e2
        have HN := Lib.hid (HI.out.find.symm.trans (find_next (kind := kind) hlt))
        clear e0 e1 e2 htl
        generalize l[i] = t at *
        obtain ⟨t1, t2, t3⟩ := t
        simp only at c0 c1 c2 HN
        go_upto_region 6 with fail
        obtain ⟨bx, bbl⟩ := box1 wr #[.int .i64 t1, .int .i64 t2, .int .i64 t3] 72
        have HB4 := Lib.hid (below_up HI.out.below bbl HI.out.below.size)
        have HX4 := Lib.hid (HI.out.box.below bbl HI.out.box.lt)
        have m0 := bx.cell 0
        have m1 := bx.cell 1
        have m2 := bx.cell 2
        have hDw : w.heap.size < wr.heap.size := HI.out.box.lt
        clear bx bbl c0 c1 c2
        generalize wr.alloc (.cells #[.int .i64 t1, .int .i64 t2, .int .i64 t3] 72) = wb at *
        generalize wr.heap.size = D at *
        by_cases hk : t1 = kind
        · subst hk
          rw [if_pos rfl] at HN
          have x0 := HX4.out.cell 0
          have x1 := HX4.out.cell 1
          have x2 := HX4.out.cell 2
          have y0 := HX4.out.fz 0
          have y1 := HX4.out.fz 1
          have y2 := HX4.out.fz 2
          have HF := Lib.hid (HFIN.out wb HX4.out HB4.out (.int .i64 t1) (.int .i64 t2) (.int .i64 t3))
          clear HFIN
          go_wp2_with fail
          try simp only [Exit.inBlock, Exit.then]
          refine bodyPost_ret (results_cell_tmp_row rfl _ _ w.heap.size _ _ (0, 0) _ rfl HF.out.1 Tryz.underlying72 rfl infoTgt) rfl ?_
          exact ⟨by rw [HT.out, HN.out]; rfl, HF.out.2⟩
        · rw [if_neg hk] at HN
          have qk : (t1 == kind) = false := by simpa using hk
          have qk2 : decide (t1 = kind) = false := decide_eq_false hk
          have HIN := Lib.hid (show TgI w wb kind l (i + 1) from ⟨hlt, HN.out.symm, HX4.out, HB4.out⟩)
          clear hk HN
          go_wp2_with fail
          go_roundw
          case rel => exact ⟨i + 1, by go_num, HIN.out⟩
          case measure => simp [intOf]; omega
      · obtain rfl : i = l.length := by omega
        have hfd := HI.out.find
        rw [List.drop_length] at hfd
        have HFD := Lib.hid (show tgtFind kind l = none from hfd.symm)
        have x0 := HI.out.box.cell 0
        have x1 := HI.out.box.cell 1
        have x2 := HI.out.box.cell 2
        have y0 := HI.out.box.fz 0
        have y1 := HI.out.box.fz 1
        have y2 := HI.out.box.fz 2
        have HF := Lib.hid (HFIN.out wr HI.out.box HI.out.below (.int .i64 0) (.int .i64 0) (.int .i64 0))
        clear HFIN hfd
        go_wp2_with fail
        try simp only [Exit.inBlock, Exit.then]
        refine bodyPost_ret (results_cell_tmp_row rfl _ _ w.heap.size _ _ (0, 0) _ rfl HF.out.1 Tryz.underlying72 rfl infoTgt) rfl ?_
        exact ⟨by rw [HT.out, HFD.out]; rfl, HF.out.2⟩
end Go.Proofs.YtllcgcnebofdoaaGreatDoor
