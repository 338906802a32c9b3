/- The walk of keeper.point. -/
import Derived.Test.YtllcgcnebofdoaaGreatDoorQCkHist
namespace Go.Proofs.YtllcgcnebofdoaaGreatDoor
open Go.RowKit

/-- the point before: a pointer to it, or nil -/
def BefAt (w : World) (bv : Value) : Option Int → Prop
  | none => bv = .pointer none
  | some s => ∃ b o, bv = .pointer (some ⟨b, o, none⟩) ∧ w.cell? ⟨b, o + 3, none⟩ = some (.int .i64 s) ∧ b < w.heap.size
/-- a keeper that is k, wS being where the point's own boxes are -/
structure PInv (wS wx : World) (B K : Nat) (vp vl : Value) (k : KepD) : Prop where
  mem : ∃ vk l, KM wx B K vp vl k.lev vk l ∧ runsOf l = k.run
  below : Below B wS wx
  keeps : KeepsQ wS wx
theorem PInv.of {wS w wx : World} {B K : Nat} {vp vl : Value} {k k' : KepD} {e : Ending} (h : PInv wS w B K vp vl k) (hp : KepPost w B K vp vl k' e wx) : PInv wS wx B K vp vl k' := by
  obtain ⟨_, hm, hb, hk⟩ := hp
  exact ⟨hm, h.below.trans hb, h.keeps.trans hk⟩
theorem PInv.to {wS w wx : World} {B K : Nat} {vp vl : Value} {k : KepD} (h : PInv wS w B K vp vl k) (hb : Below w.heap.size w wx) (hB : B ≤ w.heap.size) : PInv wS wx B K vp vl k := by
  obtain ⟨vk, l, hm, hr⟩ := h.mem
  exact ⟨⟨vk, l, hm.below hb, hr⟩, h.below.trans (hb.mono hB), h.keeps.trans (KeepsQ.of_below hb)⟩
theorem ints_of_has {w : World} {b : Nat} {l : List Int} (h : Has w b (l.map (Value.int .i64)).toArray 3) : Ints w (.slice (some ⟨b, 0, none⟩) l.length l.length) l := by
  refine .inr ⟨b, 0, l.length, rfl, Nat.le_refl _, h.lt, fun i hi => ⟨[.int .i64 l[i]], ⟨rfl, fun j hj => ?_⟩, rfl⟩⟩
  have hj0 : j = 0 := by simpa using hj
  subst hj0
  rw [h.cell]
  simp [hi]
theorem runs_ok {p : PolD} {n m : Nat} {k : KepD} {l : List Rc} (hk : KepOk p n m k) (hr : runsOf l = k.run) (hn : n ≤ 100000) (hm : m ≤ 100000) : (∀ r ∈ runsOf l, RunOk r ∧ r.c.ps.length ≤ 1000000) ∧ l.length ≤ 1000000 := by
  refine ⟨fun r h => ?_, ?_⟩
  · rw [hr] at h
    obtain ⟨h1, h2⟩ := hk.run r h
    exact ⟨h1, by omega⟩
  · have h1 := hk.few
    have h2 : (runsOf l).length = l.length := by simp [runsOf]
    rw [hr] at h2
    omega
set_option maxRecDepth 100000 in
set_option maxHeartbeats 16000000 in
theorem point_any (p : PolD) (w0 : World) (B Kp : Nat) (vp vl vv bv vk : Value) (x : PntD) (bf : Option Int) (k : KepD) (n m : Nat) (l : List Rc) (w : World) (h : KM w B Kp vp vl k.lev vk l) (hr : runsOf l = k.run) (hk : KepOk p n m k) (hn : n + 10 ≤ 100000) (hm : m + 10 ≤ 100000)
    (hP : PolAt w0 vp vl p) (hO : PolOk p) (hv : Vals w0 vv x.vals) (hvl : x.vals.length ≤ 20) (hbv : BefAt w0 bv bf) (hB : B ≤ w.heap.size) (hw0 : Below w0.heap.size w0 w) (hB0 : w0.heap.size ≤ B) :
    Calls Tryz.prog 20 #[.pointer (some ⟨Kp, 0, none⟩), .agg (pntV x vv), bv] w (KepPost w B Kp vp vl (pointF p x bf k)) := by
  obtain ⟨va, vc, rfl⟩ := SliceAt.len hv
  obtain ⟨pa, pc, rfl⟩ := SliceAt.len hP.pauses
  obtain ⟨la, lc, rfl⟩ := SliceAt.len hP.levs
  obtain ⟨x1, x2⟩ := box1 w (pntV x (.slice va x.vals.length vc)) 43
  have HX := Lib.hid x1
  have HB := Lib.hid x2
  have HM := Lib.hid (h.below x2)
  have HR := Lib.hid hr
  have HK1 := Lib.hid hk
  have HP := Lib.hid hP
  have HO := Lib.hid hO
  have HV := Lib.hid hv
  have HW := Lib.hid (below_up hw0 x2 hw0.size)
  have HBV := Lib.hid hbv
  obtain ⟨Fin, hFin⟩ : ∃ F, F = pointF p x bf k := ⟨_, rfl⟩
  have HFin := Lib.hid hFin
  rw [← hFin]
  clear x1 x2 h hr hk hP hO hv hw0 hbv hFin
  generalize hPW : Value.slice pa p.pauses.length pc = vp at *
  generalize hLW : Value.slice la p.levs.length lc = vl at *
  unfold pntV at HX HB HM HW ⊢
  go_enter Tryz.func20, Tryz.ntmps20
  go_upto_region 1 with fail
  generalize w.alloc (.cells #[.int .i64 x.at', .int .i64 x.kind, .int .i64 x.who, .int .i64 x.status, .int .i64 x.prio, .slice va x.vals.length vc] 43) = w1 at *
  have p0 := HX.out.cell 0
  have p1 := HX.out.cell 1
  have p2 := HX.out.cell 2
  have p3 := HX.out.cell 3
  have hw1 : w.heap.size ≤ w1.heap.size := HB.out.size
  go_cut [6] (fun v wx => v = .pointer (some ⟨w1.heap.size, 0, none⟩) ∧ wx = w1.alloc (.cells #[.bool (overB x)] 4))
  case first =>
    have HOV := Lib.hid (show overB x = (decide (x.status = 5) || decide (x.status = 6)) from rfl)
    generalize overB x = ov at *
    clear p0 p1 p2
    by_cases g5 : x.status = 5
    · have HT := Lib.hid (show ov = true by rw [HOV.out, g5]; rfl)
      rw [g5] at p3
      clear HOV g5
      go_wp2_with fail
      go_meet
      exact ⟨rfl, by rw [HT.out]⟩
    · have q5 : (x.status == 5) = false := by simpa using g5
      have q5' : decide (x.status = 5) = false := decide_eq_false g5
      have HT := Lib.hid (show ov = (x.status == 6) by rw [HOV.out, q5']; rfl)
      clear HOV g5 q5'
      generalize x.status = st at *
      go_wp2_with fail
      go_meet
      exact ⟨rfl, by rw [HT.out]⟩
  case rest =>
    obtain ⟨rfl, rfl⟩ := hcut
    obtain ⟨y1, y2⟩ := box1 w1 #[.bool (overB x)] 4
    have HX2 := Lib.hid (HX.out.below y2 HX.out.lt)
    have HOB := Lib.hid y1
    have HB2 := Lib.hid (below_up HB.out y2 HB.out.size)
    have HM2 := Lib.hid (HM.out.below y2)
    have HW2 := Lib.hid (below_up HW.out y2 HW.out.size)
    clear p0 p1 p2 p3 y1 y2 HX HB HM HW
    generalize w1.alloc (.cells #[.bool (overB x)] 4) = w2 at *
    generalize w1.heap.size = Ob at *
    go_upto_region 2 with fail
    have p1 := HX2.out.cell 1
    have p2 := HX2.out.cell 2
    have hw2 : w.heap.size ≤ w2.heap.size := HB2.out.size
    go_cut [7] (fun v wx => v = .pointer (some ⟨w2.heap.size, 0, none⟩) ∧ wx = w2.alloc (.cells #[.bool (ansB x)] 4))
    case first =>
      have HOV := Lib.hid (show ansB x = (decide (x.kind = 2) && decide (0 < x.who)) from rfl)
      generalize ansB x = ov at *
      by_cases g5 : x.kind = 2
      · have HT := Lib.hid (show ov = decide (0 < x.who) by rw [HOV.out, g5]; rfl)
        rw [g5] at p1
        clear HOV g5
        generalize x.who = st at *
        go_wp2_with fail
        go_meet
        exact ⟨rfl, by rw [HT.out]⟩
      · have q5 : (x.kind == 2) = false := by simpa using g5
        have q5' : decide (x.kind = 2) = false := decide_eq_false g5
        have HT := Lib.hid (show ov = false by rw [HOV.out, q5']; rfl)
        clear HOV g5 q5'
        generalize x.kind = st at *
        go_wp2_with fail
        go_meet
        exact ⟨rfl, by rw [HT.out]⟩
    case rest =>
      obtain ⟨rfl, rfl⟩ := hcut
      obtain ⟨y1, y2⟩ := box1 w2 #[.bool (ansB x)] 4
      have HX3 := Lib.hid (HX2.out.below y2 HX2.out.lt)
      have HOB3 := Lib.hid (HOB.out.below y2 HOB.out.lt)
      have HAB3 := Lib.hid y1
      have HB3 := Lib.hid (below_up HB2.out y2 HB2.out.size)
      have HM3 := Lib.hid (HM2.out.below y2)
      have HW3 := Lib.hid (below_up HW2.out y2 HW2.out.size)
      clear p1 p2 y1 y2 HX2 HB2 HM2 HW2 HOB hw1
      generalize w2.alloc (.cells #[.bool (ansB x)] 4) = wS at *
      generalize w2.heap.size = Ab at *
      generalize hPb : w.heap.size = Pb at *
      have HPB := Lib.hid hPb
      clear hPb
      have hB' : B ≤ w.heap.size := by have := HPB.out; omega
      have hBS : B ≤ wS.heap.size := by have := HB3.out.size; have := HPB.out; omega
      -- the first function of a clock
      obtain ⟨hok1, hlen1⟩ := runs_ok HK1.out HR.out (by omega) (by omega)
      have HE1 := Lib.hid (each_met (metF x) (JMet x (.slice va x.vals.length vc) Pb Ob Ab) (.pointer (some ⟨Pb, 0, none⟩)) (.pointer (some ⟨Ob, 0, none⟩)) (.pointer (some ⟨Ab, 0, none⟩)) B Kp vp vl vk k.lev l wS HM3.out ⟨HX3.out, HOB3.out, HAB3.out⟩ hBS
        (fun W W' hJ hb hk => ⟨hJ.1.keepsR hk (by decide) (by decide), hJ.2.1.keepsR hk (by decide) (by decide), hJ.2.2.keepsR hk (by decide) (by decide)⟩) hok1 hlen1
        (fun W b v r hJ hm hr hlr hBW => met_show x _ Pb Ob Ab B b v r W hJ hm hr hlr))
      clear hok1 hlen1
      go_upto_region 3 with fail
      go_wp2_with fail
      refine HE1.out.mono ?_
      rintro e w4 ⟨⟨u, rfl⟩, ⟨l', hM, hRl⟩, hb4, hk4, hj4⟩
      have HI1 := Lib.hid (show PInv wS w4 B Kp vp vl (step1 x k) from ⟨⟨vk, l', hM, by rw [hRl, HR.out]; rfl⟩, hb4, KeepsQ.of_R hk4⟩)
      have HK2 := Lib.hid (step1_ok HK1.out x)
      have HKS := Lib.hid (show ∀ W, KeepsQ wS W → Has W Pb #[.int .i64 x.at', .int .i64 x.kind, .int .i64 x.who, .int .i64 x.status, .int .i64 x.prio, .slice va x.vals.length vc] 43 from fun W hk => HX3.out.keepsQ hk (by decide) (by decide) (by decide) (by decide))
      have HWS := Lib.hid (show ∀ W, Below B wS W → Below w0.heap.size w0 W from fun W hb => HW3.out.trans (hb.mono hB0))
      have HSZ := Lib.hid (show ∀ W, Below B wS W → B ≤ W.heap.size from fun W hb => Nat.le_trans hBS hb.size)
      have HFT := Lib.hid (show KepPost w B Kp vp vl Fin (.returned (.tuple #[])) = KepPost w B Kp vp vl Fin (.returned (.tuple #[])) from rfl)
      have HB3Q := Lib.hid (show Below B w wS ∧ KeepsQ w wS from ⟨by have := HB3.out; rw [← HPB.out] at this; exact this.mono hB', KeepsQ.of_below (by have := HB3.out; rw [← HPB.out] at this; exact this)⟩)
      clear hM hRl hb4 hk4 hj4 HE1 HM3 HOB3 HAB3 HR HK1 HFT
      -- the level
      obtain ⟨vk1, l1, hM1, hR1⟩ := HI1.out.mem
      have HM1 := Lib.hid hM1
      have HR1 := Lib.hid hR1
      have k0 := hM1.box.cell 0
      have k1 := hM1.box.cell 1
      have hx := HKS.out w4 HI1.out.keeps
      have p4 := hx.cell 4
      have p5 := hx.cell 5
      have hKl : Kp < w4.heap.size := hM1.box.lt
      have hPl : Pb < w4.heap.size := hx.lt
      have HLV := Lib.hid (fun W (hW : Below w4.heap.size w4 W) => levelOf_any p x.prio x.vals vp vl (.slice va x.vals.length vc) W (HP.out.below (below_up (HWS.out w4 HI1.out.below) hW (HWS.out w4 HI1.out.below).size)) HO.out (HV.out.below (below_up (HWS.out w4 HI1.out.below) hW (HWS.out w4 HI1.out.below).size)) (by omega))
      have HS4 := Lib.hid (fun W (hW : Below w4.heap.size w4 W) => (⟨(below_cell hW hKl).trans k0, (below_cell hW hKl).trans k1, (below_cell hW hPl).trans p4, (below_cell hW hPl).trans p5⟩ :
        W.cell? ⟨Kp, 0, none⟩ = some vp ∧ W.cell? ⟨Kp, 1, none⟩ = some vl ∧ W.cell? ⟨Pb, 4, none⟩ = some (.int .i64 x.prio) ∧ W.cell? ⟨Pb, 5, none⟩ = some (.slice va x.vals.length vc)))
      clear hM1 hR1 hx
      go_upto_region 4 with fail
      go_cut [8] (fun v wx => v = .int .i64 (levOf p x.prio x.vals) ∧ Below w4.heap.size w4 wx)
      case first =>
        subst hPW hLW
        generalize levOf p x.prio x.vals = lv at *
        go_region_held3 (fun W => W.cell? ⟨Kp, 0, none⟩ = some (.slice pa p.pauses.length pc) ∧ W.cell? ⟨Kp, 1, none⟩ = some (.slice la p.levs.length lc) ∧ W.cell? ⟨Pb, 4, none⟩ = some (.int .i64 x.prio) ∧ W.cell? ⟨Pb, 5, none⟩ = some (.slice va x.vals.length vc))
          (first | exact HS4.out _ hB9 | exact HS4.out _ (Below.refl _ _).drew | fail)
          ((go_at_call 46; refine (HLV.out _ (Below.refl w4.heap.size w4).drew).mono ?_; rintro e w' ⟨rfl, hb⟩; have hB9 := below_up' (Below.refl w4.heap.size w4).drew hb))
        go_wp2_with fail
        go_meet
        exact ⟨rfl, hB9⟩
      case rest =>
        obtain ⟨rfl, hbw⟩ := hcut
        have HI2 := Lib.hid (HI1.out.to hbw (HSZ.out _ HI1.out.below))
        have HM2 := Lib.hid (HM1.out.below hbw)
        clear k0 k1 p4 p5 hKl hPl hbw HLV HS4 HI1 HM1
        have HLV2 := Lib.hid (levOf_range p x.prio x.vals)
        obtain ⟨lv, hlv⟩ : ∃ lv, levOf p x.prio x.vals = lv := ⟨_, rfl⟩
        have HS2 := Lib.hid (show step2 p x (step1 x k) = if lv = (step1 x k).lev then step1 x k else chooseF p x.at' lv (step1 x k) from by rw [← hlv]; rfl)
        rw [hlv] at HLV2 ⊢
        clear hlv
        have HK3 := Lib.hid (step2_ok HK2.out x)
        have HFN := Lib.hid (show Fin = step6 p x (step345 p x bf (step2 p x (step1 x k))) from HFin.out)
        clear HFin
        generalize step2 p x (step1 x k) = k2 at *
        generalize step1 x k = ka at *
        have m2 := HM2.out.box.cell 2
        have hBc : B ≤ wc.heap.size := HSZ.out _ HI2.out.below
        go_upto_if 44 with fail
        go_cut [] from 39 to 50 (fun wx => PInv wS wx B Kp vp vl k2)
        case first =>
          by_cases hlk : lv = ka.lev
          · have q1 : (lv != ka.lev) = false := by simpa using hlk
            have HZ := Lib.hid (show PInv wS wc B Kp vp vl k2 by rw [HS2.out, if_pos hlk]; exact HI2.out)
            clear hlk
            generalize ka.lev = kl at *
            go_wp2_with fail
            go_meet
            exact HZ.out
          · have q1 : (lv != ka.lev) = true := by simpa using hlk
            have hx := HKS.out wc HI2.out.keeps
            have p0 := hx.cell 0
            obtain ⟨hok1, hlen1⟩ := runs_ok HK2.out HR1.out (by omega) (by omega)
            have HCH := Lib.hid (choose_any p w0 B Kp vp vl vk1 ka.lev x.at' lv l1 wc HM2.out HP.out HO.out HLV2.out.1 HLV2.out.2 hok1 hlen1 hBc (HWS.out _ HI2.out.below) hB0)
            have HE2 := Lib.hid (show chooseF p x.at' lv ⟨ka.lev, runsOf l1⟩ = k2 by rw [HS2.out, if_neg hlk, HR1.out])
            clear hlk hx hok1 hlen1
            generalize ka.lev = kl at *
            go_wp2_with fail
            refine HCH.out.mono ?_
            rintro e w5 hpost
            rw [HE2.out] at hpost
            have HZ := Lib.hid (HI2.out.of hpost)
            obtain ⟨u, rfl⟩ := hpost.1
            clear hpost
            go_wp2_with fail
            go_meet
            exact HZ.out
        case rest =>
          have HI3 := Lib.hid hcut
          clear hcut m2 HI2 HM2 HR1 HS2 HLV2 HK2 hBc
          have hBc : B ≤ wc.heap.size := HSZ.out _ HI3.out.below
          have p3 := (HKS.out wc HI3.out.keeps).cell 3
          have HK4 := Lib.hid (step345_ok HK3.out x bf)
          have HS345 := Lib.hid (show step345 p x bf k2 = if x.status = 6 then k2 else step5 p x bf (step4 p x (step3 p x bf k2)) from rfl)
          generalize step345 p x bf k2 = k5 at *
          go_upto_if 52 with fail
          clear p3
          go_cut [9] from 11 to 120 (fun _ wx => PInv wS wx B Kp vp vl k5)
          case first =>
            by_cases h6 : x.status = 6
            · have HZ := Lib.hid (show PInv wS wc B Kp vp vl k5 by rw [HS345.out, if_pos h6]; exact HI3.out)
              have q6 : (x.status != 6) = false := by simpa using h6
              clear h6
              generalize x.status = st at *
              go_wp2_with fail
              go_meet
              exact HZ.out
            · have q6 : (x.status != 6) = true := by simpa using h6
              rw [if_neg h6] at HS345
              have HBQ := Lib.hid (show ∀ W, (Go.binOp .eql 69 bv (.pointer none)).run Tryz.prog W = Result.ok (Value.bool bf.isNone) W from fun W => by
                have hb := HBV.out
                cases bf with
                | none =>
                  have e : bv = .pointer none := hb
                  rw [e]
                  go_simp
                | some s =>
                  obtain ⟨b0, o0, e, -, -⟩ := hb
                  rw [e]
                  go_simp)
              have HGQ := Lib.hid (show ∀ (a b : Operand) W, (Go.eqGuard .eql 69 a b bv (.pointer none)).run Tryz.prog W = Result.ok () W from fun a b W => by
                have hb := HBV.out
                cases bf with
                | none =>
                  have e : bv = .pointer none := hb
                  rw [e]
                  go_simp
                | some s =>
                  obtain ⟨b0, o0, e, -, -⟩ := hb
                  rw [e]
                  go_simp)
              have hbq := HBQ.out
              have hgq := HGQ.out
              clear h6
              -- the first reply
              have HS3 := Lib.hid (show step3 p x bf k2 = if bf = none then beginF p x.at' 1 k2 else k2 from rfl)
              have HKa := Lib.hid (step3_ok HK3.out x bf)
              generalize step3 p x bf k2 = k3 at *
              go_upto_if 54 with fail
              clear hbq hgq
              go_cut [] from 50 to 59 (fun wx => PInv wS wx B Kp vp vl k3)
              case first =>
                clear HS345
                cases hnb : bf.isNone with
                | false =>
                  have HZ := Lib.hid (show PInv wS wc B Kp vp vl k3 by rw [HS3.out, if_neg (by intro g; rw [g] at hnb; cases hnb)]; exact HI3.out)
                  clear hnb
                  go_wp2_with fail
                  go_meet
                  exact HZ.out
                | true =>
                  obtain ⟨vk3, l3, hM, hR⟩ := HI3.out.mem
                  obtain ⟨-, hlen1⟩ := runs_ok HK3.out hR (by omega) (by omega)
                  have HBG := Lib.hid (begin_any p w0 B Kp vp vl vk3 k2.lev x.at' 1 l3 wc hM HP.out HO.out HK3.out.lev.1 HK3.out.lev.2 hlen1 hBc (HWS.out _ HI3.out.below))
                  have HE2 := Lib.hid (show beginF p x.at' 1 ⟨k2.lev, runsOf l3⟩ = k3 by rw [HS3.out, if_pos (Option.isNone_iff_eq_none.1 hnb), hR])
                  have p0 := (HKS.out wc HI3.out.keeps).cell 0
                  clear hnb hM hR hlen1
                  go_wp2_with fail
                  refine HBG.out.mono ?_
                  rintro e w5 hpost
                  rw [HE2.out] at hpost
                  have HZ := Lib.hid (HI3.out.of hpost)
                  obtain ⟨u, rfl⟩ := hpost.1
                  clear hpost
                  go_wp2_with fail
                  go_meet
                  exact HZ.out
              case rest =>
                have HI4 := Lib.hid hcut
                clear hcut HI3 HK3 HS3 hBc
                rename World => wd
                have hBc : B ≤ wd.heap.size := HSZ.out _ HI4.out.below
                -- the next reply
                have HS4 := Lib.hid (show step4 p x k3 = if (x.kind = 2 ∧ x.who = 0) ∧ runsB [1, 2] k3.run = false then beginF p x.at' 2 k3 else k3 from rfl)
                have HKb := Lib.hid (step4_ok HKa.out x)
                generalize step4 p x k3 = k4 at *
                obtain ⟨vk3, l3, hM, hR⟩ := HI4.out.mem
                obtain ⟨-, hlen1⟩ := runs_ok HKa.out hR (by omega) (by omega)
                have HM3 := Lib.hid hM
                have HR3 := Lib.hid hR
                have hx := HKS.out wd HI4.out.keeps
                have p1 := hx.cell 1
                have p2 := hx.cell 2
                clear hM hR hx
                go_upto_region 10 with fail
                go_cut [72] (fun v wx => v = .bool (decide (x.kind = 2) && decide (x.who = 0) && !runsB [1, 2] k3.run) ∧ Below wd.heap.size wd wx)
                case first =>
                  clear HS345 HS4
                  by_cases g1 : x.kind = 2
                  · by_cases g2 : x.who = 0
                    · rw [g1] at p1
                      rw [g2] at p2
                      obtain ⟨y1, y2⟩ := box1 wd #[.int .i64 1, .int .i64 2] 3
                      have HRN := Lib.hid (runs_any B Kp vp vl vk3 (.slice (some ⟨wd.heap.size, 0, none⟩) 2 2) k3.lev l3 [1, 2] _ (HM3.out.below y2) (ints_of_has (l := [1, 2]) y1) hlen1 (by simp))
                      rw [HR3.out] at HRN
                      have HB6 := Lib.hid y2
                      have HE4 := Lib.hid (show (decide (x.kind = 2) && decide (x.who = 0) && !runsB [1, 2] k3.run) = !runsB [1, 2] k3.run by rw [g1, g2]; rfl)
                      generalize runsB [1, 2] k3.run = rb at *
                      clear y1 y2 g1 g2
                      go_wp2_with fail
                      refine HRN.out.mono ?_
                      rintro e w5 ⟨rfl, hb⟩
                      have HB7 := Lib.hid (below_up HB6.out hb HB6.out.size)
                      clear hb
                      go_wp2_with fail
                      go_meet
                      exact ⟨by rw [HE4.out], HB7.out⟩
                    · have HE4 := Lib.hid (show (decide (x.kind = 2) && decide (x.who = 0) && !runsB [1, 2] k3.run) = false by rw [decide_eq_false g2]; simp)
                      have q7 : (x.who == 0) = false := by simpa using g2
                      have q8 : decide (x.who = 0) = false := decide_eq_false g2
                      rw [g1] at p1
                      clear g1 g2
                      generalize x.who = wh at *
                      go_wp2_with fail
                      go_meet
                      exact ⟨by rw [HE4.out], Below.refl _ _⟩
                  · have HE4 := Lib.hid (show (decide (x.kind = 2) && decide (x.who = 0) && !runsB [1, 2] k3.run) = false by rw [decide_eq_false g1]; rfl)
                    have q7 : (x.kind == 2) = false := by simpa using g1
                    have q8 : decide (x.kind = 2) = false := decide_eq_false g1
                    clear g1
                    generalize x.kind = kd at *
                    go_wp2_with fail
                    go_meet
                    exact ⟨by rw [HE4.out], Below.refl _ _⟩
                case rest =>
                  obtain ⟨rfl, hbw⟩ := hcut
                  have HI5 := Lib.hid (HI4.out.to hbw hBc)
                  have HM5 := Lib.hid (HM3.out.below hbw)
                  rename World => we
                  have HE4 := Lib.hid (show (decide (x.kind = 2) && decide (x.who = 0) && !runsB [1, 2] k3.run) = true ↔ (x.kind = 2 ∧ x.who = 0) ∧ runsB [1, 2] k3.run = false by simp)
                  clear p1 p2 HM3 hbw HI4 hBc
                  have hBc : B ≤ we.heap.size := HSZ.out _ HI5.out.below
                  generalize hc4 : (decide (x.kind = 2) && decide (x.who = 0) && !runsB [1, 2] k3.run) = c4 at *
                  clear hc4
                  go_upto_if 72 with fail
                  go_cut [] from 50 to 77 (fun wx => PInv wS wx B Kp vp vl k4)
                  case first =>
                    clear HS345
                    cases c4 with
                    | false =>
                      have HZ := Lib.hid (show PInv wS we B Kp vp vl k4 by rw [HS4.out, if_neg (fun g => absurd (HE4.out.2 g) (by decide))]; exact HI5.out)
                      go_wp2_with fail
                      go_meet
                      exact HZ.out
                    | true =>
                      have HBG := Lib.hid (begin_any p w0 B Kp vp vl vk3 k3.lev x.at' 2 l3 we HM5.out HP.out HO.out HKa.out.lev.1 HKa.out.lev.2 hlen1 hBc (HWS.out _ HI5.out.below))
                      have HE2 := Lib.hid (show beginF p x.at' 2 ⟨k3.lev, runsOf l3⟩ = k4 by rw [HS4.out, if_pos (HE4.out.1 rfl), HR3.out])
                      have p0 := (HKS.out we HI5.out.keeps).cell 0
                      go_wp2_with fail
                      refine HBG.out.mono ?_
                      rintro e w5 hpost
                      rw [HE2.out] at hpost
                      have HZ := Lib.hid (HI5.out.of hpost)
                      obtain ⟨u, rfl⟩ := hpost.1
                      clear hpost
                      go_wp2_with fail
                      go_meet
                      exact HZ.out
                  case rest =>
                    have HI6 := Lib.hid hcut
                    clear hcut HI5 HM5 HR3 HS4 HE4 HKa hlen1 hBc
                    rename World => wf
                    have hBc : B ≤ wf.heap.size := HSZ.out _ HI6.out.below
                    -- the solution
                    have HS5 := Lib.hid (show step5 p x bf k4 = if (againB bf = true ∧ x.status ≠ 5) ∧ runsB [3] k4.run = false then beginF p x.at' 3 k4 else k4 from rfl)
                    rw [HS5.out] at HS345
                    clear HS5
                    obtain ⟨vk4, l4, hM, hR⟩ := HI6.out.mem
                    obtain ⟨-, hlen1⟩ := runs_ok HKb.out hR (by omega) (by omega)
                    have HM4 := Lib.hid hM
                    have HR4 := Lib.hid hR
                    clear hM hR
                    go_upto_region 12 with fail
                    go_cut [9] (fun v wx => v = .bool (againB bf) ∧ wx = wf)
                    case first =>
                      clear HS345
                      have hb := HBV.out
                      cases bf with
                      | none =>
                        obtain rfl : bv = .pointer none := hb
                        go_wp2_with fail
                        go_meet
                        exact ⟨rfl, rfl⟩
                      | some s =>
                        obtain ⟨b0, o0, rfl, hc, hlt⟩ := hb
                        have c3 := (below_cell (HWS.out _ HI6.out.below) hlt).trans hc
                        have HA := Lib.hid (show againB (some s) = (decide (s = 5) || decide (s = 6)) from rfl)
                        generalize againB (some s) = ab at *
                        by_cases g5 : s = 5
                        · have HT := Lib.hid (show ab = true by rw [HA.out, g5]; rfl)
                          subst g5
                          clear hc HBQ
                          go_wp2_with fail
                          go_meet
                          exact ⟨by rw [HT.out], rfl⟩
                        · have q5 : (s == 5) = false := by simpa using g5
                          have q5' : decide (s = 5) = false := decide_eq_false g5
                          have HT := Lib.hid (show ab = (s == 6) by rw [HA.out, q5']; rfl)
                          clear hc HBQ g5
                          go_wp2_with fail
                          go_meet
                          exact ⟨by rw [HT.out], rfl⟩
                    case rest =>
                      obtain ⟨rfl, rfl⟩ := hcut
                      generalize againB bf = ab at *
                      have p3 := (HKS.out wc HI6.out.keeps).cell 3
                      go_upto_region 13 with fail
                      go_cut [104] (fun v wx => v = .bool (ab && decide (x.status ≠ 5) && !runsB [3] k4.run) ∧ Below wc.heap.size wc wx)
                      case first =>
                        clear HS345
                        cases ab with
                        | false =>
                          go_wp2_with fail
                          go_meet
                          exact ⟨rfl, Below.refl _ _⟩
                        | true =>
                          by_cases g5 : x.status = 5
                          · have HE4 := Lib.hid (show (true && decide (x.status ≠ 5) && !runsB [3] k4.run) = false by simp [g5])
                            rw [g5] at p3
                            clear g5
                            go_wp2_with fail
                            go_meet
                            exact ⟨by rw [HE4.out], Below.refl _ _⟩
                          · obtain ⟨y1, y2⟩ := box1 wc #[.int .i64 3] 3
                            have HRN := Lib.hid (runs_any B Kp vp vl vk4 (.slice (some ⟨wc.heap.size, 0, none⟩) 1 1) k4.lev l4 [3] _ (HM4.out.below y2) (ints_of_has (l := [3]) y1) hlen1 (by simp))
                            rw [HR4.out] at HRN
                            have HB6 := Lib.hid y2
                            have HE4 := Lib.hid (show (true && decide (x.status ≠ 5) && !runsB [3] k4.run) = !runsB [3] k4.run by simp [g5])
                            have q5 : (x.status != 5) = true := by simpa using g5
                            generalize runsB [3] k4.run = rb at *
                            clear y1 y2 g5
                            generalize x.status = st at *
                            go_wp2_with fail
                            refine HRN.out.mono ?_
                            rintro e w5 ⟨rfl, hb⟩
                            have HB7 := Lib.hid (below_up HB6.out hb HB6.out.size)
                            clear hb
                            go_wp2_with fail
                            go_meet
                            exact ⟨by rw [HE4.out], HB7.out⟩
                      case rest =>
                        obtain ⟨rfl, hbw⟩ := hcut
                        have HI7 := Lib.hid (HI6.out.to hbw hBc)
                        have HM7 := Lib.hid (HM4.out.below hbw)
                        rename World => wg
                        have HE5 := Lib.hid (show (ab && decide (x.status ≠ 5) && !runsB [3] k4.run) = true ↔ (ab = true ∧ x.status ≠ 5) ∧ runsB [3] k4.run = false by simp)
                        clear p3 HM4 hbw hBc
                        have hBc : B ≤ wg.heap.size := HSZ.out _ HI7.out.below
                        generalize hc5 : (ab && decide (x.status ≠ 5) && !runsB [3] k4.run) = c5 at *
                        clear hc5
                        cases c5 with
                        | false =>
                          have HZ := Lib.hid (show PInv wS wg B Kp vp vl k5 by rw [HS345.out, if_neg (fun g => absurd (HE5.out.2 g) (by decide))]; exact HI7.out)
                          go_wp2_with fail
                          go_meet
                          exact HZ.out
                        | true =>
                          have HBG := Lib.hid (begin_any p w0 B Kp vp vl vk4 k4.lev x.at' 3 l4 wg HM7.out HP.out HO.out HKb.out.lev.1 HKb.out.lev.2 hlen1 hBc (HWS.out _ HI7.out.below))
                          have HE2 := Lib.hid (show beginF p x.at' 3 ⟨k4.lev, runsOf l4⟩ = k5 by rw [HS345.out, if_pos (HE5.out.1 rfl), HR4.out])
                          have p0 := (HKS.out wg HI7.out.keeps).cell 0
                          go_wp2_with fail
                          refine HBG.out.mono ?_
                          rintro e w5 hpost
                          rw [HE2.out] at hpost
                          have HZ := Lib.hid (HI7.out.of hpost)
                          obtain ⟨u, rfl⟩ := hpost.1
                          clear hpost
                          go_wp2_with fail
                          go_meet
                          exact HZ.out
          case rest =>
            have HI8 := Lib.hid hcut
            clear hcut HI3 HK3 HS345 hBc
            rename World => wh
            have hBc : B ≤ wh.heap.size := HSZ.out _ HI8.out.below
            obtain ⟨vk5, l5, hM, hR⟩ := HI8.out.mem
            have HM8 := Lib.hid hM
            have HR8 := Lib.hid hR
            have hx := HKS.out wh HI8.out.keeps
            have HX8 := Lib.hid hx
            have k0 := hM.box.cell 0
            have p3 := hx.cell 3
            have hKl : Kp < wh.heap.size := hM.box.lt
            have hPl : Pb < wh.heap.size := hx.lt
            clear hM hR hx
            have HPA := Lib.hid (show Ints w0 vp p.pauses from HP.out.pauses)
            have hpl : p.pauses.length ≤ 4 := pau_few HO.out.pauses
            go_upto_region 15 with fail
            go_cut [10] (fun v wx => ∃ D, v = .pointer (some ⟨D, 0, none⟩) ∧ Has wx D #[.bool (p.pauses.contains x.status)] 4 ∧ Below wh.heap.size wh wx)
            case first =>
              subst hPW
              have HCT := Lib.hid (fun W (hW : Below wh.heap.size wh W) => contInt_any (.slice pa p.pauses.length pc) p.pauses x.status W (HPA.out.below (below_up (HWS.out _ HI8.out.below) hW (HWS.out _ HI8.out.below).size)) (by omega))
              have hbd := (Below.refl wh.heap.size wh).drew
              have HBD := Lib.hid hbd
              have hS0 : (fun W : World => W.cell? ⟨Kp, 0, none⟩ = some (.slice pa p.pauses.length pc) ∧ W.cell? ⟨Pb, 3, none⟩ = some (.int .i64 x.status)) wh.drew := ⟨k0, p3⟩
              have hKd : Kp < wh.drew.heap.size := hKl
              have hPd : Pb < wh.drew.heap.size := hPl
              refine anyT_start (S := fun W : World => W.cell? ⟨Kp, 0, none⟩ = some (.slice pa p.pauses.length pc) ∧ W.cell? ⟨Pb, 3, none⟩ = some (.int .i64 x.status)) (t := 10) (by kernel_rfl) ?_
              clear hbd k0 p3
              generalize p.pauses.contains x.status = pb at *
              generalize wh.drew = wd at *
              refine takeS (i := 0) (v := ?_) rfl rfl (by kernel_rfl) (by kernel_rfl) (by kernel_rfl) (fun _ _ _ h => h) (by decide) (by kernel_rfl) ?_ hS0 ?_
              rotate_left
              · intro w hSw; (try dsimp only at hSw); go_simp; (try with_reducible rfl)
              simp only [List.setIfInBounds_toArray, List.set_cons_zero, List.set_cons_succ]
              refine takeS (i := 1) (v := ?_) rfl rfl (by kernel_rfl) (by kernel_rfl) (by kernel_rfl) (fun _ _ _ h => h) (by decide) (by kernel_rfl) ?_ hS0 ?_
              rotate_left
              · intro w hSw; (try dsimp only at hSw); go_simp; (try with_reducible rfl)
              simp only [List.setIfInBounds_toArray, List.set_cons_zero, List.set_cons_succ]
              refine takeS (i := 2) (v := ?_) rfl rfl (by kernel_rfl) (by kernel_rfl) (by kernel_rfl) (fun _ _ _ h => h) (by decide) (by kernel_rfl) ?_ hS0 ?_
              rotate_left
              · intro w hSw; (try dsimp only at hSw); go_simp; (try with_reducible rfl)
              simp only [List.setIfInBounds_toArray, List.set_cons_zero, List.set_cons_succ]
              refine takeS (i := 3) (v := ?_) rfl rfl (by kernel_rfl) (by kernel_rfl) (by kernel_rfl) (fun _ _ _ h => h) (by decide) (by kernel_rfl) ?_ hS0 ?_
              rotate_left
              · intro w hSw; (try dsimp only at hSw); go_simp; (try with_reducible rfl)
              simp only [List.setIfInBounds_toArray, List.set_cons_zero, List.set_cons_succ]
              refine takeS (i := 4) (v := ?_) rfl rfl (by kernel_rfl) (by kernel_rfl) (by kernel_rfl) (fun _ _ _ h => h) (by decide) (by kernel_rfl) ?_ hS0 ?_
              rotate_left
              · intro w hSw; (try dsimp only at hSw); go_simp; (try with_reducible rfl)
              simp only [List.setIfInBounds_toArray, List.set_cons_zero, List.set_cons_succ]
              refine takeS (i := 5) (v := ?_) rfl rfl (by kernel_rfl) (by kernel_rfl) (by kernel_rfl) (fun _ _ _ h => h) (by decide) (by kernel_rfl) ?_ hS0 ?_
              rotate_left
              · intro w hSw; (try dsimp only at hSw); go_simp; (try with_reducible rfl)
              simp only [List.setIfInBounds_toArray, List.set_cons_zero, List.set_cons_succ]
              refine takeS (i := 6) (v := ?_) rfl rfl (by kernel_rfl) (by kernel_rfl) (by kernel_rfl) (fun _ _ _ h => h) (by decide) (by kernel_rfl) ?_ hS0 ?_
              rotate_left
              · intro w hSw; (try dsimp only at hSw); go_simp; (try with_reducible rfl)
              simp only [List.setIfInBounds_toArray, List.set_cons_zero, List.set_cons_succ]
              refine twoT (i := 7) (j := 8) rfl rfl (by kernel_rfl) ?_ ?_
              · intro K hK
                go_simp
                refine (HCT.out wd HBD.out).mono ?_
                rintro e we ⟨rfl, rfl⟩
                refine hK.out _ _ (fun _ => hS0) ?_
                clear hK HCT
                try simp only [List.setIfInBounds_toArray, List.set_cons_zero, List.set_cons_succ, Act.put]
                refine oneT (i := 8) rfl (by kernel_rfl) (fun K hK => ?_)
                go_simp
                obtain ⟨bx, bbl⟩ := box1 wd #[.bool false] 4
                have hS1 : (fun W : World => W.cell? ⟨Kp, 0, none⟩ = some (.slice pa p.pauses.length pc) ∧ W.cell? ⟨Pb, 3, none⟩ = some (.int .i64 x.status)) (wd.alloc (.cells #[.bool false] 4)) := ⟨(below_cell bbl hKd).trans hS0.1, (below_cell bbl hPd).trans hS0.2⟩
                have d0 := bx.cell 0
                have e0 := bx.fz 0
                have hb2 := (box1 wd #[.bool pb] 4).2
                have HBA := Lib.hid (below_up' HBD.out hb2)
                have hS2 : (fun W : World => W.cell? ⟨Kp, 0, none⟩ = some (.slice pa p.pauses.length pc) ∧ W.cell? ⟨Pb, 3, none⟩ = some (.int .i64 x.status)) (wd.alloc (.cells #[.bool pb] 4)) := ⟨(below_cell hb2 hKd).trans hS0.1, (below_cell hb2 hPd).trans hS0.2⟩
                clear bx bbl hb2
                refine hK.out _ _ (fun _ => hS1) ?_
                clear hK
                try simp only [List.setIfInBounds_toArray, List.set_cons_zero, List.set_cons_succ, Act.put]
                refine oneT (i := 9) rfl (by kernel_rfl) (fun K hK => ?_)
                go_simp
                refine hK.out _ _ (fun _ => hS2) ?_
                refine doneT (by kernel_rfl) ?_ _
                go_wp2_with fail
                go_meet
                exact ⟨_, rfl, Has.new _ _ _, HBA.out⟩
              · intro K hK
                go_simp
                obtain ⟨bx, bbl⟩ := box1 wd #[.bool false] 4
                have HBE := Lib.hid (below_up' HBD.out bbl)
                have hS1 : (fun W : World => W.cell? ⟨Kp, 0, none⟩ = some (.slice pa p.pauses.length pc) ∧ W.cell? ⟨Pb, 3, none⟩ = some (.int .i64 x.status)) (wd.alloc (.cells #[.bool false] 4)) := ⟨(below_cell bbl hKd).trans hS0.1, (below_cell bbl hPd).trans hS0.2⟩
                have d0 := bx.cell 0
                have e0 := bx.fz 0
                have hb2 := (box1 wd #[.bool pb] 4).2
                have HBA := Lib.hid (below_up' HBD.out hb2)
                have hS2 : (fun W : World => W.cell? ⟨Kp, 0, none⟩ = some (.slice pa p.pauses.length pc) ∧ W.cell? ⟨Pb, 3, none⟩ = some (.int .i64 x.status)) (wd.alloc (.cells #[.bool pb] 4)) := ⟨(below_cell hb2 hKd).trans hS0.1, (below_cell hb2 hPd).trans hS0.2⟩
                refine hK.out _ _ (fun _ => hS1) ?_
                clear hK bx bbl hb2
                try simp only [List.setIfInBounds_toArray, List.set_cons_zero, List.set_cons_succ, Act.put]
                refine oneT (i := 7) rfl (by kernel_rfl) (fun K hK => ?_)
                go_simp
                refine (HCT.out _ HBE.out).mono ?_
                rintro e wf ⟨rfl, rfl⟩
                refine hK.out _ _ (fun _ => hS1) ?_
                clear hK
                try simp only [List.setIfInBounds_toArray, List.set_cons_zero, List.set_cons_succ, Act.put]
                refine oneT (i := 9) rfl (by kernel_rfl) (fun K hK => ?_)
                go_simp
                refine hK.out _ _ (fun _ => hS2) ?_
                refine doneT (by kernel_rfl) ?_ _
                go_wp2_with fail
                go_meet
                exact ⟨_, rfl, Has.new _ _ _, HBA.out⟩
            case rest =>
              obtain ⟨D, rfl, hD, hbw⟩ := hcut
              rename World => wi
              have HI9 := Lib.hid (HI8.out.to hbw hBc)
              have HM9 := Lib.hid (HM8.out.below hbw)
              have HX9 := Lib.hid (HX8.out.below hbw HX8.out.lt)
              have HD9 := Lib.hid hD
              clear k0 p3 hKl hPl hbw hD HM8 HX8 hBc
              have hBc : B ≤ wi.heap.size := HSZ.out _ HI9.out.below
              obtain ⟨hok1, hlen1⟩ := runs_ok HK4.out HR8.out (by omega) (by omega)
              have HE6 := Lib.hid (each_pau (pauF (p.pauses.contains x.status) x.at') (JPau x (.slice va x.vals.length vc) Pb D (p.pauses.contains x.status)) (.pointer (some ⟨D, 0, none⟩)) (.pointer (some ⟨Pb, 0, none⟩)) B Kp vp vl vk5 k5.lev l5 wi HM9.out ⟨HX9.out, HD9.out⟩ hBc
                (fun W W' hJ hb hk => ⟨hJ.1.keepsR hk (by decide) (by decide), hJ.2.keepsR hk (by decide) (by decide)⟩) hok1 hlen1
                (fun W b v r hJ hm hr hlr hBW => pau_show x _ Pb D B b _ v r W hJ hm hr hlr hBW))
              clear hok1 hlen1
              go_wp2_with fail
              refine HE6.out.mono ?_
              rintro e w9 ⟨⟨u, rfl⟩, ⟨l', hM, hRl⟩, hb9, hk9, hj9⟩
              have HZ := Lib.hid (show KepPost w B Kp vp vl Fin (.returned (.tuple #[])) w9 from by
                have e6 : Fin = ⟨k5.lev, runsOf l'⟩ := by
                  rw [HFN.out, hRl, HR8.out]
                  rfl
                rw [e6]
                exact ⟨⟨_, rfl⟩, ⟨vk5, l', hM, rfl⟩, HB3Q.out.1.trans (HI9.out.below.trans hb9), HB3Q.out.2.trans (HI9.out.keeps.trans (KeepsQ.of_R hk9))⟩)
              clear hM hRl hb9 hk9 hj9
              go_wp2_with fail
              go_end0
              exact HZ.out
end Go.Proofs.YtllcgcnebofdoaaGreatDoor
