/- The walk of porttop.TopClocks. -/
import Derived.Test.YtllcgcnebofdoaaGreatDoorQCkSt
import Derived.Test.YtllcgcnebofdoaaGreatDoorQCkFit
import Derived.Test.YtllcgcnebofdoaaGreatDoorQCkRW
namespace Go.Proofs.YtllcgcnebofdoaaGreatDoor
open Go.RowKit

theorem awakeTop_any (w : World) (hE : Env w) : Calls Tryz.prog 13 #[] w fun e w' => e = .returned (.bool true) ∧ Below w.heap.size w w' := by
  go_enter Tryz.func13, Tryz.ntmps13
  go_wp2_with fail
  refine (ReadPolicy_x w hE).mono ?_
  rintro e w1 ⟨rfl, hb⟩
  have HB := Lib.hid (below_up hb (box1 w1 #[.slice none 0 0, .slice none 0 0] 25).2 hb.size)
  clear hb
  go_wp2_with fail
  go_ret
  exact ⟨rfl, HB.out⟩
theorem SliceAt.taken {α : Type} {sz : Nat} {R : World → List Value → α → Prop} {w : World} {a : Option Addr} {cap : Nat} {l : List α} (h : SliceAt sz R w (.slice a l.length cap) l) {k : Nat} (hk : k ≤ l.length) : SliceAt sz R w (.slice a k cap) (l.take k) := by
  by_cases e : k = 0
  · subst e
    exact .inl ⟨_, _, rfl, by simp⟩
  · obtain ⟨b, off, cap', hv, hc, hb, hel⟩ := SliceAt.at h (by omega)
    cases hv
    have hl : (l.take k).length = k := by rw [List.length_take, Nat.min_eq_left hk]
    refine .inr ⟨b, off, cap, by rw [hl], by omega, hb, fun i hi => ?_⟩
    rw [List.getElem_take]
    exact hel i (by omega)
/-- the point's clocks before and behind it -/
structure TwR (x : PntD) (cs : List CalD) (A B : List ClkD) : Prop where
  le : A.length ≤ B.length
  fewA : A.length ≤ 18000
  fewB : B.length ≤ 18000
  okA : ∀ c ∈ A, ClkOk c
  okB : ∀ c ∈ B, ClkOk c
  rel : ∀ (i : Nat) (c : ClkD), A[i]? = some c → ∃ d, B[i]? = some d ∧ TopRel x cs c d
theorem twr_of {p : PolD} (hp : PolOk p) {l : List PntD} (hl : HistOk l) {k : Nat} (h0 : 0 < k) (h : k < l.length) (cs : List CalD) : TwR l[k] cs (clocksF p (l.take k)) (clocksF p (l.take (k + 1))) := by
  have hr := fun (i : Nat) (c : ClkD) hc => top_rel hp hl h0 h cs i c hc
  refine ⟨?_, clocks_few p _ (hist_take hl k), clocks_few p _ (hist_take hl (k + 1)), clocks_fit hp (hist_take hl k), clocks_fit hp (hist_take hl (k + 1)), hr⟩
  rcases Nat.lt_or_ge (clocksF p (l.take (k + 1))).length (clocksF p (l.take k)).length with g | g
  · obtain ⟨d, hd, _⟩ := hr (clocksF p (l.take (k + 1))).length _ (List.getElem?_eq_getElem g)
    have := (List.getElem?_eq_some_iff.1 hd).1
    omega
  · exact g

set_option maxRecDepth 100000 in
set_option maxHeartbeats 32000000 in
theorem top_walk (p : PolD) (l : List PntD) (cs : List CalD) (vp vl v vc : Value) (w : World) (hP : PolAt w vp vl p) (h : Pnts w v l) (hC : Cals w vc cs) (hE : Env w) (hcn : cs.length ≤ 140737488351232) :
    Calls Tryz.prog 5 #[.agg #[vp, vl], v, vc] w fun e w' => e = .returned (.bool true) ∧ Below w.heap.size w w' := by
  obtain ⟨pa, pn, pc, rfl⟩ : ∃ a n c, vp = .slice a n c := by
    obtain ⟨a, c, e⟩ := SliceAt.len hP.pauses
    exact ⟨a, _, c, e⟩
  obtain ⟨la, ln, lc, rfl⟩ : ∃ a n c, vl = .slice a n c := by
    obtain ⟨a, c, e⟩ := SliceAt.len hP.levs
    exact ⟨a, _, c, e⟩
  obtain ⟨va, cap, rfl⟩ := SliceAt.len h
  obtain ⟨ca, cc, rfl⟩ := SliceAt.len hC
  have hbx := box1 w #[.slice pa pn pc, .slice la ln lc] 25
  have HE := Lib.hid hE
  have H := Lib.hid (h.below hbx.2)
  have HC := Lib.hid (hC.below hbx.2)
  have HP := Lib.hid (hP.below hbx.2)
  have HX := Lib.hid hbx.1
  have HB := Lib.hid hbx.2
  clear h hE hbx hP hC
  go_enter Tryz.func5, Tryz.ntmps5
  go_upto_region 1 with fail
  generalize w.alloc (.cells #[.slice pa pn pc, .slice la ln lc] 25) = w2 at *
  go_wp2_with fail
  refine (awakeTop_any w2 (HE.out.below HB.out)).mono ?_
  rintro e w3 ⟨rfl, hb3⟩
  have HB3 := Lib.hid (below_up HB.out hb3 HB.out.size)
  have HX3 := Lib.hid (HX.out.below hb3 HX.out.lt)
  have HP3 := Lib.hid (HP.out.below hb3)
  have H3 := Lib.hid (H.out.below hb3)
  have HC3 := Lib.hid (HC.out.below hb3)
  have k0 := HX3.out.cell 0
  have k1 := HX3.out.cell 1
  have HCS := Lib.hid (Clocks_any p l _ _ _ w3 HP3.out H3.out)
  clear hb3 HX HB H HP HC
  go_wp2_with fail
  refine HCS.out.mono ?_
  rintro e w4 ⟨vx, k, rfl, hb4, hk1, hk2, hk3⟩
  have HB4 := Lib.hid (below_up HB3.out hb4 HB3.out.size)
  have HX4 := Lib.hid (HX3.out.below hb4 HX3.out.lt)
  have HP4 := Lib.hid (HP3.out.below hb4)
  have H4 := Lib.hid (H3.out.below hb4)
  have HC4 := Lib.hid (HC3.out.below hb4)
  clear hb4 HCS HB3 HX3 HP3 H3 HC3 k0 k1
  by_cases hk : k = 0
  rotate_left
  · obtain rfl := hk2 hk
    have q0 : (k == 0) = false := by simpa using hk
    have q1 : (k != 0) = true := by simpa using hk
    clear hk1 hk2 hk3 hk
    go_wp2_with fail
    go_ret
    exact ⟨rfl, HB4.out⟩
  subst hk
  obtain ⟨hp, hl⟩ := hk1.1 rfl
  obtain ⟨xa, xc, rfl⟩ := SliceAt.len (hk3 rfl)
  have HPO := Lib.hid hp
  have HHO := Lib.hid hl
  clear hk1 hk2 hk3 hp hl
  by_cases h40 : 40 < l.length
  · have q : decide ((40 : Int) < (l.length : Int)) = true := decide_eq_true (by omega)
    clear h40
    go_wp2_with fail
    go_ret
    exact ⟨rfl, HB4.out⟩
  have q40 : decide ((40 : Int) < (l.length : Int)) = false := decide_eq_false (by omega)
  have hl40 : l.length ≤ 40 := by omega
  clear h40
  have HI0 := Lib.hid (show CrI cs.length w4 w4 0 from ⟨Nat.zero_le _, Below.refl _ _⟩)
  go_wp2_with fail
  go_loopw [38] (fun iv wr => ∃ i : Nat, iv = .int .i64 ((i : Nat) : Int) ∧ CrI cs.length w4 wr i) (fun iv _ => cs.length - (intOf iv).toNat)
  case atStart => exact ⟨0, rfl, HI0.out⟩
  case round =>
    obtain ⟨i, rfl, hI⟩ := hrel
    have HI := Lib.hid hI
    have hi := hI.le
    clear hI HI0
    by_cases hlt : i < cs.length
    · obtain ⟨b, of', cap', hv, hb, hel⟩ := Cals.at HC4.out (by omega)
      cases hv
      obtain ⟨vcs, vwk, vsp, e0, e1, e2, e3, hca⟩ := hel i hlt
      obtain ⟨x1a, x1c, rfl⟩ := SliceAt.len hca.cs
      obtain ⟨x2a, x2c, rfl⟩ := SliceAt.len hca.wk
      obtain ⟨x3a, x3c, rfl⟩ := SliceAt.len hca.sps
      have c0 := (below_cell HI.out.below hb).trans e0
      have c1 := (below_cell HI.out.below hb).trans e1
      have c2 := (below_cell HI.out.below hb).trans e2
      have c3 := (below_cell HI.out.below hb).trans e3
      have HCA := Lib.hid hca
      have HBI := Lib.hid HI.out.below
      clear hca e0 e1 e2 e3 hel HI
      generalize cs[i] = x at *
      obtain ⟨bx, bbl⟩ := box1 wr #[.int .i64 x.off, .slice x1a x.cs.length x1c, .slice x2a x.wk.length x2c, .slice x3a x.sps.length x3c] 54
      have HI4 := Lib.hid (below_up HBI.out bbl HBI.out.size)
      have k0 := bx.cell 0
      have k1 := bx.cell 1
      have k2 := bx.cell 2
      have k3 := bx.cell 3
      clear bx bbl HBI
      go_upto_region 9 with fail
      generalize wr.alloc (.cells #[.int .i64 x.off, .slice x1a x.cs.length x1c, .slice x2a x.wk.length x2c, .slice x3a x.sps.length x3c] 54) = wb at *
      generalize wr.heap.size = Bx at *
      have HCC := Lib.hid (CheckCalendar_any x _ _ _ wb (HCA.out.below HI4.out))
      clear c0 c1 c2 c3
      go_wp2_with fail
      refine HCC.out.mono ?_
      rintro e w5 ⟨⟨k, rfl, hk⟩, hb5⟩
      have HI5 := Lib.hid (below_up HI4.out hb5 HI4.out.size)
      clear hk hb5 HI4 HCC k0 k1 k2 k3
      by_cases hz : k = 0
      · subst hz
        have HZ := Lib.hid (show CrI cs.length w4 w5 (i + 1) from ⟨hlt, HI5.out⟩)
        go_wp2_with fail
        go_roundw
        case rel => exact ⟨i + 1, by go_num, HZ.out⟩
        case measure => simp [intOf]; omega
      · have qz : (k == 0) = false := by simpa using hz
        have qz2 : (k != 0) = true := by simpa using hz
        have HBZ := Lib.hid (below_up HB4.out HI5.out HB4.out.size)
        clear hz
        go_wp2_with fail
        go_ret
        exact ⟨rfl, HBZ.out⟩
    · obtain rfl : i = cs.length := by omega
      have HBI := Lib.hid HI.out.below
      clear HI hi hlt
      have HJ0 := Lib.hid (Below.refl wr.heap.size wr)
      have HB5 := Lib.hid (below_up HB4.out HBI.out HB4.out.size)
      have HX5 := Lib.hid (HX4.out.below HBI.out HX4.out.lt)
      have HP5 := Lib.hid (HP4.out.below HBI.out)
      have H5 := Lib.hid (H4.out.below HBI.out)
      have HC5 := Lib.hid (HC4.out.below HBI.out)
      clear HB4 HX4 HP4 H4 HC4 HBI
      go_wp2_with fail
      go_loopw [11] (fun iv wk => ∃ k : Nat, iv = .int .i64 ((k : Nat) : Int) ∧ 0 < k ∧ Below wr.heap.size wr wk) (fun iv _ => l.length - (intOf iv).toNat)
      case atStart => exact ⟨1, rfl, Nat.one_pos, HJ0.out⟩
      case round =>
        rename World => wk
        obtain ⟨k, rfl, hk0, hbk⟩ := hrel
        have HBK := Lib.hid hbk
        clear hbk HJ0
        by_cases hkl : k < l.length
        · have qk : decide ((k : Int) < (l.length : Int)) = true := decide_eq_true (by omega)
          obtain ⟨b, of', cap', hv, hb, hel⟩ := Pnts.at H5.out (by omega)
          cases hv
          obtain ⟨vv, ⟨e0, _, _, _, _, _⟩, _⟩ := hel k hkl
          have HLK := Lib.hid (fun (W : World) (hW : Below wr.heap.size wr W) => (below_cell hW hb).trans e0)
          have HCL := Lib.hid (show ∀ n, n ≤ l.length → ∀ W, Below wr.heap.size wr W → Calls Tryz.prog 7 #[.agg #[.slice pa pn pc, .slice la ln lc], .slice (some ⟨b, of', none⟩) n cap] W fun e w' =>
              ∃ a c, e = .returned (.tuple #[.slice a (clocksF p (l.take n)).length c, .int .i64 0]) ∧ Clks w' (.slice a (clocksF p (l.take n)).length c) (clocksF p (l.take n)) ∧ Below W.heap.size W w' from fun n hn W hW =>
            (Clocks_any p (l.take n) _ _ _ W (HP5.out.below hW) (SliceAt.taken (H5.out.below hW) hn)).mono fun e w' ⟨vx, k', he, hb', g1, g2, g3⟩ => by
              obtain rfl : k' = 0 := g1.2 ⟨HPO.out, hist_take HHO.out n⟩
              have g := g3 rfl
              obtain ⟨a, c, rfl⟩ := SliceAt.len g
              exact ⟨a, c, he, g, hb'⟩)
          have HCA := Lib.hid (HCL.out k (by omega))
          obtain ⟨k1, hk1⟩ : ∃ n, n = k + 1 := ⟨_, rfl⟩
          have HCB := Lib.hid (HCL.out k1 (by omega))
          have HR := Lib.hid (show TwR l[k] cs (clocksF p (l.take k)) (clocksF p (l.take k1)) from by rw [hk1]; exact twr_of HPO.out HHO.out hk0 hkl cs)
          have HKS := Lib.hid (fun (W : World) (hW : Below wr.heap.size wr W) => (show W.cell? ⟨w.heap.size, 0, none⟩ = some (.slice pa pn pc) ∧ W.cell? ⟨w.heap.size, 1, none⟩ = some (.slice la ln lc) from
            ⟨(HX5.out.below hW HX5.out.lt).cell 0, (HX5.out.below hW HX5.out.lt).cell 1⟩))
          have hcap : l.length ≤ cap := by
            rcases H5.out with ⟨_, _, e, e'⟩ | ⟨_, _, _, e, e', _⟩
            · rw [e'] at hkl; simp at hkl
            · cases e; exact e'
          clear hel e0 HCL
          generalize l[k] = xk at *
          generalize clocksF p (l.take k) = A at *
          generalize clocksF p (l.take k1) = B at *
          have hA := HR.out.fewA
          have hB := HR.out.fewB
          have hAB := HR.out.le
          have w1 : IntKind.i64.wrap ((k : Int) + 1) = ((k1 : Nat) : Int) := by rw [IntWalk.i64_in _ (by omega)]; omega
          have u1 : (k : Int) ≤ (cap : Int) := by omega
          have u2 : (0 : Int) ≤ (k : Int) := by omega
          have u3 : (k1 : Int) ≤ (cap : Int) := by omega
          have u4 : (0 : Int) ≤ (k1 : Int) := by omega
          have HK1 := Lib.hid hk1
          clear hk1
          go_upto_region 15 with fail
          go_cut [12, 13] (fun a e wx => e = .int .i64 0 ∧ ∃ xa xc, a = .slice xa A.length xc ∧ Clks wx (.slice xa A.length xc) A ∧ Below wr.heap.size wr wx)
          case first =>
            go_region_held3 (fun W => W.cell? ⟨w.heap.size, 0, none⟩ = some (.slice pa pn pc) ∧ W.cell? ⟨w.heap.size, 1, none⟩ = some (.slice la ln lc))
              (first | exact HKS.out _ hB' | exact HKS.out _ HBK.out.drew)
              ((go_at_call 7; refine (HCA.out _ HBK.out.drew).mono ?_; rintro e w' ⟨xa, xc, rfl, hcl, hb⟩; have hB' := below_up HBK.out.drew hb HBK.out.drew.size))
            go_wp2
            go_meet
            exact ⟨rfl, _, _, rfl, hcl, hB'⟩
          case rest =>
            obtain ⟨rfl, xa, xc, rfl, hca, hbc⟩ := hcut
            have HCA2 := Lib.hid hca
            have HBC := Lib.hid hbc
            clear hca hbc HCA HBK
            generalize wc = wd at *
            go_upto_region 16 with fail
            go_cut [14, 15] (fun a e wx => e = .int .i64 0 ∧ ∃ xa xc, a = .slice xa B.length xc ∧ Clks wx (.slice xa B.length xc) B ∧ Below wd.heap.size wd wx)
            case first =>
              go_region_held3 (fun W => W.cell? ⟨w.heap.size, 0, none⟩ = some (.slice pa pn pc) ∧ W.cell? ⟨w.heap.size, 1, none⟩ = some (.slice la ln lc))
                (first | exact HKS.out _ (below_up HBC.out hB' HBC.out.size) | exact HKS.out _ HBC.out.drew)
                ((go_at_call 7; refine (HCB.out _ HBC.out.drew).mono ?_; rintro e w' ⟨ya, yc, rfl, hcl, hb⟩; have hB' := below_up' (Below.refl wd.heap.size wd).drew hb))
              go_wp2
              go_meet
              exact ⟨rfl, _, _, rfl, hcl, hB'⟩
            case rest =>
              obtain ⟨rfl, ya, yc, rfl, hcb, hbe⟩ := hcut
              have HB1 := Lib.hid hcb
              have HA1 := Lib.hid (HCA2.out.below hbe)
              have HBE := Lib.hid (below_up HBC.out hbe HBC.out.size)
              have HC1 := Lib.hid (HC5.out.below HBE.out)
              clear hcb hbe HCA2 HBC HCB HKS
              generalize wc = wz at *
              have qab : decide ((B.length : Int) < (A.length : Int)) = false := decide_eq_false (by omega)
              have qab2 : decide (B.length < A.length) = false := decide_eq_false (by omega)
              have HJ1 := Lib.hid (show CrI A.length wz wz 0 from ⟨Nat.zero_le _, Below.refl _ _⟩)
              go_wp2_with fail
              go_loopw [84] (fun iv wx => ∃ i : Nat, iv = .int .i64 ((i : Nat) : Int) ∧ CrI A.length wz wx i) (fun iv _ => A.length - (intOf iv).toNat)
              case atStart => exact ⟨0, rfl, HJ1.out⟩
              case round =>
                rename World => wx
                obtain ⟨i, rfl, hI⟩ := hrel
                have HI := Lib.hid hI
                have hi := hI.le
                clear hI HJ1
                by_cases hia : i < A.length
                · have hib : i < B.length := by omega
                  obtain ⟨ab, ao, acap, hv, hab, hael⟩ := Clks.at HA1.out (by omega)
                  cases hv
                  obtain ⟨bb, bo, bcap, hv, hbb, hbel⟩ := Clks.at HB1.out (by omega)
                  cases hv
                  obtain ⟨vps, ⟨a0, a1, a2, a3, a4, a5, a6⟩, hash⟩ := hael i hia
                  obtain ⟨vqs, ⟨b0, b1, b2, b3, b4, b5, b6⟩, hbsh⟩ := hbel i hib
                  obtain ⟨sa, sc, rfl⟩ := SliceAt.len hash
                  obtain ⟨ta, tc, rfl⟩ := SliceAt.len hbsh
                  have HTR := Lib.hid (show TopRel xk cs A[i] B[i] from by
                    obtain ⟨d, hd, ht⟩ := HR.out.rel i A[i] (List.getElem?_eq_getElem hia)
                    obtain ⟨_, rfl⟩ := List.getElem?_eq_some_iff.1 hd
                    exact ht)
                  have HOA := Lib.hid (HR.out.okA _ (List.getElem_mem hia))
                  have HOB := Lib.hid (HR.out.okB _ (List.getElem_mem hib))
                  have c0 := (below_cell HI.out.below hab).trans a0
                  have c1 := (below_cell HI.out.below hab).trans a1
                  have c2 := (below_cell HI.out.below hab).trans a2
                  have c3 := (below_cell HI.out.below hab).trans a3
                  have c4 := (below_cell HI.out.below hab).trans a4
                  have c5 := (below_cell HI.out.below hab).trans a5
                  have c6 := (below_cell HI.out.below hab).trans a6
                  have HBW := Lib.hid (fun (w8 : World) (h8 : Below wz.heap.size wz w8) => (⟨(below_cell h8 hbb).trans b0, (below_cell h8 hbb).trans b1, (below_cell h8 hbb).trans b2, (below_cell h8 hbb).trans b3, (below_cell h8 hbb).trans b4, (below_cell h8 hbb).trans b5, (below_cell h8 hbb).trans b6⟩ : _ ∧ _ ∧ _ ∧ _ ∧ _ ∧ _ ∧ _))
                  have HSA := Lib.hid hash
                  have HSB := Lib.hid hbsh
                  have HBI := Lib.hid HI.out.below
                  clear a0 a1 a2 a3 a4 a5 a6 b0 b1 b2 b3 b4 b5 b6 hash hbsh hael hbel HI
                  generalize A[i] = c at *
                  generalize B[i] = d at *
                  obtain ⟨bx, bbl⟩ := box1 wx (clkV c (.slice sa c.ps.length sc)) 34
                  have HI4 := Lib.hid (below_up HBI.out bbl HBI.out.size)
                  have HX4 := Lib.hid bx
                  have HDU := Lib.hid (Due_any c cs _ (.slice ca cs.length cc) _ (HSA.out.below HI4.out) (HC1.out.below HI4.out))
                  unfold clkV at HI4 HX4 HDU
                  clear bx bbl HBI
                  go_upto_region 22 with fail
                  generalize wx.alloc (.cells #[.int .i64 c.kind, .int .i64 c.lev, .int .i64 c.min, .int .i64 c.start, .int .i64 c.stop, .int .i64 c.fin, .slice sa c.ps.length sc] 34) = wb at *
                  generalize wx.heap.size = Bx at *
                  clear c0 c1 c2 c3 c4 c5 c6
                  have k0 := HX4.out.cell 0
                  have k1 := HX4.out.cell 1
                  have k2 := HX4.out.cell 2
                  have k3 := HX4.out.cell 3
                  have k4 := HX4.out.cell 4
                  have k5 := HX4.out.cell 5
                  have k6 := HX4.out.cell 6
                  go_wp2_with fail
                  refine HDU.out.mono ?_
                  rintro e w5 ⟨dd, ke, rfl, hb5, hk1, hk2⟩
                  have HI5 := Lib.hid (below_up HI4.out hb5 HI4.out.size)
                  have HX5 := Lib.hid (HX4.out.below hb5 HX4.out.lt)
                  have HZ := Lib.hid (show CrI A.length wz w5 (i + 1) from ⟨hia, HI5.out⟩)
                  clear hb5 HDU HI4 HX4 k0 k1 k2 k3 k4 k5 k6
                  have k4 := HX5.out.cell 4
                  by_cases hs : 0 ≤ c.stop
                  · have qs : decide (0 ≤ c.stop) = true := decide_eq_true hs
                    clear hs hk1 hk2
                    go_wp2_with fail
                    go_roundw
                    case rel => first | exact ⟨i + 1, by go_num, HZ.out⟩ | ((repeat apply Exists.intro); refine ⟨⟨i + 1, ?_, HZ.out⟩, rfl⟩; go_num)
                    case measure => simp [intOf]; omega
                  have qs : decide (0 ≤ c.stop) = false := decide_eq_false hs
                  have HST := Lib.hid (show c.stop = -1 by
                    have h1 := HOA.out.head.stop
                    have h2 := HOA.out.head.start
                    omega)
                  by_cases hz : ke = 0
                  rotate_left
                  · have qz : (ke == 0) = false := by simpa using hz
                    have qz2 : (ke != 0) = true := by simpa using hz
                    clear hs hk1 hk2 hz
                    go_wp2_with fail
                    go_roundw
                    case rel => first | exact ⟨i + 1, by go_num, HZ.out⟩ | ((repeat apply Exists.intro); refine ⟨⟨i + 1, ?_, HZ.out⟩, rfl⟩; go_num)
                    case measure => simp [intOf]; omega
                  subst hz
                  obtain ⟨hall, _, hd⟩ := hk2 rfl
                  have HALL := Lib.hid hall
                  have HDD := Lib.hid hd
                  clear hk1 hk2 hs hall hd
                  go_upto_region 24 with fail
                  obtain ⟨f0, f1, f2, f3, f4, f5, f6⟩ := HBW.out w5 HI5.out
                  have k0 := HX5.out.cell 0
                  have k3 := HX5.out.cell 3
                  rw [HTR.out.kind] at f0
                  rw [HTR.out.start] at f3
                  go_quiet (fail)
                  have HQ := Lib.hid (drewN_below (Below.refl w5.heap.size w5) nq)
                  generalize w5.drewN nq = w6 at *
                  have HI6 := Lib.hid (below_up HI5.out HQ.out HI5.out.size)
                  have HZ6 := Lib.hid (show CrI A.length wz w6 (i + 1) from ⟨hia, HI6.out⟩)
                  clear f0 f1 f2 f3 f4 f5 f6 k0 k3 k4 HX5 HQ HZ
                  obtain ⟨f0, f1, f2, f3, f4, f5, f6⟩ := HBW.out w6 HI6.out
                  by_cases hfin : d.fin = 1
                  rotate_left
                  · have qf : (d.fin == 1) = false := by simpa using hfin
                    have qf2 : (d.fin != 1) = true := by simpa using hfin
                    clear hfin
                    go_wp2_with fail
                    go_roundw
                    case rel => first | exact ⟨i + 1, by go_num, HZ6.out⟩ | ((repeat apply Exists.intro); refine ⟨⟨i + 1, ?_, HZ6.out⟩, rfl⟩; go_num)
                    case measure => simp [intOf]; omega
                  have HDA := Lib.hid (HTR.out.all HST.out hfin HALL.out)
                  have hdst := HTR.out.stop HST.out hfin
                  have HDS := Lib.hid (show d.stop = xk.at' from hdst)
                  have HKP := Lib.hid (HTR.out.kept HST.out hfin HALL.out)
                  have HDM := Lib.hid (show d.start ≤ d.stop ∧ d.stop ≤ 3000000 from by
                    rcases HOB.out.head.stop with g | g
                    · have := HOB.out.head.fin
                      have := (HDA.out.clk.ends).1 g
                      omega
                    · exact g)
                  have HSM := Lib.hid (fun W hW => StateAt_met d cs (.slice ta d.ps.length tc) (.slice ca cs.length cc) W (HSB.out.below hW) (HC1.out.below hW) HDA.out hfin HDM.out)
                  obtain ⟨r, hr⟩ : ∃ r : Int, r = (if elapF cs d.ps d.stop ≤ d.min then 4 else 5) := ⟨_, rfl⟩
                  rw [← hr] at HSM
                  have HRV := Lib.hid hr
                  unfold clkV at HSM
                  have HF1 := Lib.hid hfin
                  rw [hfin] at f5
                  rw [hfin] at HSM
                  clear hr hfin hdst
                  go_upto_region 27 with fail
                  go_cut [20, 19] (fun rv ev wx => rv = .int .i64 r ∧ ev = .int .i64 0 ∧ Below w6.heap.size w6 wx)
                  case first =>
                    have HFS := Lib.hid (fun (W : World) (hW : Below w6.heap.size w6 W) => HBW.out W (below_up HI6.out hW HI6.out.size))
                    rw [HF1.out] at HFS
                    go_region_held3 (fun W => W.cell? ⟨bb, bo + i * 7, none⟩ = some (.int .i64 d.kind) ∧ W.cell? ⟨bb, bo + i * 7 + 1, none⟩ = some (.int .i64 d.lev) ∧ W.cell? ⟨bb, bo + i * 7 + 2, none⟩ = some (.int .i64 d.min) ∧ W.cell? ⟨bb, bo + i * 7 + 3, none⟩ = some (.int .i64 d.start) ∧ W.cell? ⟨bb, bo + i * 7 + 4, none⟩ = some (.int .i64 d.stop) ∧ W.cell? ⟨bb, bo + i * 7 + 5, none⟩ = some (.int .i64 1) ∧ W.cell? ⟨bb, bo + i * 7 + 6, none⟩ = some (.slice ta d.ps.length tc))
                      (first | exact HFS.out _ hB' | exact HFS.out _ (Below.refl _ _).drew)
                      ((go_at_call 16; refine (HSM.out _ (below_up HI6.out (Below.refl _ _).drew HI6.out.size)).mono ?_; rintro e w' ⟨rfl, hb⟩; have hB' := below_up' (Below.refl w6.heap.size w6).drew hb))
                    go_wp2
                    go_meet
                    exact ⟨rfl, rfl, hB'⟩
                  case rest =>
                    obtain ⟨rfl, rfl, hbw⟩ := hcut
                    generalize wc = w7 at *
                    have HI7 := Lib.hid (below_up HI6.out hbw HI6.out.size)
                    clear f0 f1 f2 f3 f4 f5 f6 hbw HSM
                    obtain ⟨_, _, _, _, f4, _, _⟩ := HBW.out w7 HI7.out
                    rw [HDS.out] at f4
                    have hl4 := HLK.out w7 (below_up HBE.out HI7.out HBE.out.size)
                    have HZ7 := Lib.hid (show CrI A.length wz w7 (i + 1) from ⟨hia, HI7.out⟩)
                    have HV := Lib.hid (show (r = 4 ∧ decide (xk.at' ≤ dd) = true) ∨ (r = 5 ∧ decide (xk.at' ≤ dd) = false) from by
                      have h1 := HKP.out
                      rw [← HDD.out, HDS.out] at h1
                      rw [HRV.out, HDS.out]
                      by_cases g : elapF cs d.ps xk.at' ≤ d.min
                      · exact .inl ⟨if_pos g, decide_eq_true (h1.1 g)⟩
                      · exact .inr ⟨if_neg g, decide_eq_false (fun q => g (h1.2 q))⟩)
                    have HW7 := Lib.hid (fun n => drewN_below (Below.refl w7.heap.size w7) n)
                    have HZ8 := Lib.hid (fun n => show CrI A.length wz (w7.drewN n) (i + 1) from ⟨hia, below_up HI7.out (HW7.out n) HI7.out.size⟩)
                    clear HKP HRV HDS HDA HTR HBW HSB HSA
                    rcases HV.out with ⟨rfl, hv⟩ | ⟨rfl, hv⟩
                    · clear HV
                      go_upto_region 29 with fail
                      go_quiet (fail)
                      go_wp2_with fail
                      go_roundw
                      case rel => first | exact ⟨i + 1, by go_num, HZ8.out _⟩ | ((repeat apply Exists.intro); refine ⟨⟨i + 1, ?_, HZ8.out _⟩, rfl⟩; go_num)
                      case measure => simp [intOf]; omega
                    · clear HV
                      go_upto_region 29 with fail
                      go_quiet (fail)
                      go_wp2_with fail
                      go_roundw
                      case rel => first | exact ⟨i + 1, by go_num, HZ8.out _⟩ | ((repeat apply Exists.intro); refine ⟨⟨i + 1, ?_, HZ8.out _⟩, rfl⟩; go_num)
                      case measure => simp [intOf]; omega
                · obtain rfl : i = A.length := by omega
                  have HBY := Lib.hid (below_up HBE.out HI.out.below HBE.out.size)
                  go_wp2_with fail
                  go_roundw
                  case rel => first | exact ⟨k1, rfl, by have := HK1.out; omega, HBY.out⟩ | ((repeat apply Exists.intro); refine ⟨⟨k1, ?_, (by have := HK1.out; omega), HBY.out⟩, rfl⟩; rfl)
                  case measure => (have := HK1.out); simp [intOf]; omega
        · have q : decide ((k : Int) < (l.length : Int)) = false := decide_eq_false (by omega)
          have HBZ := Lib.hid (below_up HB5.out HBK.out HB5.out.size)
          go_wp2_with fail
          go_ret
          exact ⟨rfl, HBZ.out⟩
end Go.Proofs.YtllcgcnebofdoaaGreatDoor
