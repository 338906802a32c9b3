/- The walk of the iterator that (Calendar).shifts returns. -/
import Derived.Test.YtemikhnkjligdaaGreatDoorQVisit
import Derived.Test.YtemikhnkjligdaaGreatDoorQParts
namespace Go.Proofs.YtemikhnkjligdaaGreatDoor
open Go Go.RowKit Go.Shelf

/-- a calendar in memory stays while what lay there stays -/
theorem CalAt.held {w w' : World} {vcs vwk vsp : Value} {c : CalD} (h : CalAt w vcs vwk vsp c) (hs : w.heap.size ≤ w'.heap.size) (hb : ∀ k, k < w.heap.size → w'.heap[k]? = w.heap[k]?) : CalAt w' vcs vwk vsp c := by
  have hB : Below w.heap.size w { w' with os := w.os, tape := w.tape, output := w.output } := ⟨rfl, rfl, rfl, hs, hb⟩
  have := h.below hB
  exact ⟨this.cs, this.wk, this.sps⟩
theorem parts_at_elem {w : World} {N : Nat} {v : Value} {n : Nat} {l : List Pt} (h : w.ownsRow N 192 3 v n (rowOf l)) (hn : n = l.length) (hl : 0 < l.length) :
    ∃ g cap, v = .slice (some ⟨g, 0, none⟩) l.length cap ∧ N ≤ g ∧ g < w.heap.size ∧ ∀ i (hi : i < l.length), w.cell? ⟨g, i * 3, none⟩ = some (.int .i64 l[i].f) ∧ w.cell? ⟨g, i * 3 + 1, none⟩ = some (.int .i64 l[i].t) ∧ w.cell? ⟨g, i * 3 + 2, none⟩ = some (.int .i64 l[i].o) := by
  subst hn
  have hs : SliceAt 3 (fun _ cs (p : Pt) => cs = partCells p) w v l := slice_of_owns partCells h (fun _ _ => rfl) (fun _ _ => rfl)
  obtain ⟨b, off, cap, hv, hc, hb, hel⟩ := SliceAt.at hs hl
  rcases h.2 with ⟨_, h0⟩ | ⟨g, cap', cur, hv', hg, _⟩
  · omega
  · rw [hv] at hv'
    cases hv'
    refine ⟨_, _, hv, hg, hb, fun i hi => ?_⟩
    obtain ⟨cs, ⟨_, h2⟩, hr⟩ := hel i hi
    cases hr
    have z0 := h2 0 (by simp [partCells])
    have z1 := h2 1 (by simp [partCells])
    have z2 := h2 2 (by simp [partCells])
    rw [Nat.zero_add] at z0 z1 z2
    exact ⟨z0, z1, z2⟩

structure ShInv (J : List Sp → Blocks → World → Prop) (f : Pt → List Sp) (ps : List Pt) (R O : Blocks) (W w2 wr : World) (i : Nat) : Prop where
  le : i ≤ ps.length
  j : J ((ps.take i).flatMap f) O wr
  hO : ∀ k, O k → k < wr.heap.size
  mine : ∀ k, W.heap.size ≤ k → k < w2.heap.size → O k
  same : ∀ k, W.heap.size ≤ k → k < w2.heap.size → wr.heap[k]? = w2.heap[k]?
  held : ∀ k, R k → wr.heap[k]? = W.heap[k]?
  size : w2.heap.size ≤ wr.heap.size
structure DyInv (J : List Sp → Blocks → World → Prop) (pre : List Sp) (ds : Nat → List Sp) (n : Nat) (R O3 O : Blocks) (w3 wr : World) (d : Nat) : Prop where
  le : d ≤ n
  j : J (pre ++ ds d) O wr
  hO : ∀ k, O k → k < wr.heap.size
  mine : ∀ k, O3 k → O k
  held : ∀ k, k < w3.heap.size → O3 k ∨ R k → wr.heap[k]? = w3.heap[k]?
  size : w3.heap.size ≤ wr.heap.size
def ShPost (J Jx : List Sp → Blocks → World → Prop) (xs : List Sp) (e : Ending) (W' : World) : Prop :=
  (∃ v, e = .returned v) ∧ ((∃ O, J xs O W' ∧ ∀ k, O k → k < W'.heap.size) ∨ (∃ pre O, pre <+: xs ∧ Jx pre O W' ∧ ∀ k, O k → k < W'.heap.size))

/-- two new boxes, in either order -/
def TwoBoxes (x y : Int) (wb : World) (u7 u8 : Value) (wx : World) : Prop :=
  ∃ Ba Bb, u7 = .pointer (some ⟨Ba, 0, none⟩) ∧ u8 = .pointer (some ⟨Bb, 0, none⟩) ∧ Has wx Ba #[.int .i64 x] 3 ∧ Has wx Bb #[.int .i64 y] 3 ∧ wb.heap.size ≤ Ba ∧ wb.heap.size ≤ Bb ∧ Below wb.heap.size wb wx
theorem two_boxes (wb : World) (x y : Int) : TwoBoxes x y wb (.pointer (some ⟨wb.heap.size, 0, none⟩)) (.pointer (some ⟨wb.heap.size + 1, 0, none⟩)) ((wb.alloc (.cells #[.int .i64 x] 3)).alloc (.cells #[.int .i64 y] 3)).drew := by
  have h1 := Has.new wb #[.int .i64 x] 3
  have h2 := Has.new (wb.alloc (.cells #[.int .i64 x] 3)) #[.int .i64 y] 3
  rw [World.size_alloc] at h2
  exact ⟨_, _, rfl, rfl, h1.alloc _, h2, Nat.le_refl _, by omega, (((Below.refl _ wb).alloc (Nat.le_refl _) _).alloc (by simp) _).drew⟩
theorem two_boxes' (wb : World) (x y : Int) : TwoBoxes x y wb (.pointer (some ⟨wb.heap.size + 1, 0, none⟩)) (.pointer (some ⟨wb.heap.size, 0, none⟩)) ((wb.alloc (.cells #[.int .i64 y] 3)).alloc (.cells #[.int .i64 x] 3)).drew := by
  obtain ⟨Ba, Bb, h1, h2, h3, h4, h5, h6, h7⟩ := two_boxes wb y x
  exact ⟨Bb, Ba, h2, h1, h4, h3, h6, h5, h7⟩

set_option maxRecDepth 100000 in
set_option maxHeartbeats 4000000 in
theorem shifts_seq (c : CalD) (vcs vwk vsp : Value) (fr en : Int) (Bc Bf Bt : Nat) (R : Blocks) (w0 W : World) (hR : ∀ k, R k → k < W.heap.size) (hR0 : ∀ k, k < w0.heap.size → R k) (hRc : R Bc) (hRf : R Bf) (hRt : R Bt)
    (hs0 : w0.heap.size ≤ W.heap.size) (hb0 : ∀ k, k < w0.heap.size → W.heap[k]? = w0.heap[k]?) (hc : CalFine c) (h : CalAt w0 vcs vwk vsp c)
    (xc : Has W Bc #[.int .i64 c.off, vcs, vwk, vsp] 77) (xf : Has W Bf #[.int .i64 fr] 3) (xt : Has W Bt #[.int .i64 en] 3)
    (f1 : 0 ≤ fr) (f2 : fr ≤ 3000001) (t1 : 0 ≤ en) (t2 : en ≤ 3000001) :
    SeqAt Tryz.prog 123 #[.pointer (some ⟨Bc, 0, none⟩), .pointer (some ⟨Bf, 0, none⟩), .pointer (some ⟨Bt, 0, none⟩)] encsS R (shiftL c fr en) W := by
  intro l J Jx hJ hJx hRd h0
  change Calls _ _ _ _ (ShPost J Jx (shiftL c fr en))
  have hcl := hc.zone.len
  have HPB := Lib.hid (prts_bd c.cs 0 c.off hc.zone.ok (by omega) (by omega) hc.zone.o1 hc.zone.o2)
  have HFL := Lib.hid hc
  have HPL := Lib.hid (prts_length c.cs 0 c.off)
  have HCA := Lib.hid (show CalAt W vcs vwk vsp c from h.held hs0 hb0)
  have HCB := Lib.hid h
  have HRl := Lib.hid hR
  have HR0 := Lib.hid hR0
  have HB0 := Lib.hid (And.intro hs0 hb0)
  have HX := Lib.hid (And.intro xc (And.intro xf xt))
  have HRX := Lib.hid (And.intro hRc (And.intro hRf hRt))
  have HJ := Lib.hid hJ
  have HRD := Lib.hid (show Rounds Tryz.prog l R (shiftL c fr en) J Jx from hRd)
  have H0 := Lib.hid h0
  have hbx := box1 W #[.func (.yield l) #[] #[]] 161
  clear hc h hR hR0 hs0 hb0 xc xf xt hRc hRf hRt hJ hJx hRd h0
  go_enter Tryz.func123, Tryz.ntmps123
  go_upto_region 1 with fail
  obtain ⟨hy, hby⟩ := hbx
  generalize W.alloc (.cells #[.func (.yield l) #[] #[]] 161) = w1 at *
  have xc1 := HX.out.1.below hby HX.out.1.lt
  have k0 := xc1.cell 0
  have k1 := xc1.cell 1
  have hpa := parts_any c.off vcs c.cs w1 (HCA.out.cs.below hby) hcl
  have HY := Lib.hid hy
  have HBY := Lib.hid hby
  clear xc1 hy hby
  go_wp2_with fail
  refine hpa.mono ?_
  clear hpa
  rintro e w2 ⟨pa, pc, rfl, hown, hb2⟩
  have hlt1 : 0 < (prts 0 c.off c.cs).length := by rw [HPL.out]; omega
  obtain ⟨g, cap, hv, hgN, hgl, hel⟩ := parts_at_elem hown HPL.out.symm hlt1
  rw [HPL.out] at hv
  cases hv
  have hs12 := hb2.size
  have hsW := HBY.out.size
  have HB2 := Lib.hid (below_up HBY.out hb2 HBY.out.size)
  have HY2 := Lib.hid (HY.out.below hb2 HY.out.lt)
  have HEL := Lib.hid hel
  clear hown hb2 hel k0 k1 HY HBY
  have hst : ShInv J (partL c fr en) (prts 0 c.off c.cs) R (fun k => W.heap.size ≤ k ∧ k < w2.heap.size) W w2 w2 0 := by
    refine ⟨Nat.zero_le _, ?_, fun k hk => hk.2, fun k h1 h2 => ⟨h1, h2⟩, fun _ _ _ => rfl, fun k hk => HB2.out.block k (HRl.out k hk), Nat.le_refl _⟩
    exact HJ.out [] _ _ _ _ H0.out (Turns.of_below HB2.out _) (fun k hk => .inr hk.1) (fun k hk => hk.2)
  have HST := Lib.hid hst
  clear hst
  go_wp2_with fail
  go_loopw [15] (fun iv wr => ∃ (i : Nat) (O : Blocks), iv = .int .i64 i ∧ ShInv J (partL c fr en) (prts 0 c.off c.cs) R O W w2 wr i) (fun iv _ => c.cs.length + 1 - (intOf iv).toNat)
  case atStart => exact ⟨0, _, rfl, HST.out⟩
  case round =>
    obtain ⟨i, O, rfl, hI⟩ := hrel
    clear HST
    have HV := Lib.hid hI
    have hle := hI.le
    rw [HPL.out] at hle
    clear hI
    by_cases hlt : i < c.cs.length + 1
    · have hlt' : i < (prts 0 c.off c.cs).length := by rw [HPL.out]; exact hlt
      have hiw := HV.out.size
      obtain ⟨e0, e1, e2⟩ := HEL.out i hlt'
      have hsm := HV.out.same g (by omega) hgl
      have c0 := (cell_of_same hsm).trans e0
      have c1 := (cell_of_same hsm).trans e1
      have c2 := (cell_of_same hsm).trans e2
      obtain ⟨q1, q2, q3, q4, q5, q6⟩ := HPB.out _ (List.getElem_mem hlt')
      have HNX := Lib.hid (flat_next (partL c fr en) hlt')
      have HPX := Lib.hid (flat_prefix (partL c fr en) (prts 0 c.off c.cs) (i + 1))
      generalize (prts 0 c.off c.cs)[i] = p at *
      clear e0 e1 e2 hsm
      have hd : decide ((i : Int) < (c.cs.length : Int) + 1) = true := by simp; omega
      go_upto_region 4 with fail
      have hbx := box1 wr #[.int .i64 p.f, .int .i64 p.t, .int .i64 p.o] 192
      have kf := cell_of_same (o := 0) (HV.out.held Bf HRX.out.2.1)
      have kt := cell_of_same (o := 0) (HV.out.held Bt HRX.out.2.2)
      rw [HX.out.2.1.cell 0] at kf
      rw [HX.out.2.2.cell 0] at kt
      have hfl : Bf < wr.heap.size := by have := HRl.out Bf HRX.out.2.1; omega
      have htl : Bt < wr.heap.size := by have := HRl.out Bt HRX.out.2.2; omega
      have kf := (below_cell hbx.2 hfl).trans kf
      have kt := (below_cell hbx.2 htl).trans kt
      have kp0 := hbx.1.cell 0
      have kp1 := hbx.1.cell 1
      have hpl := hbx.1.lt
      have hsx := hbx.2.size
      have HBX := Lib.hid hbx
      clear hbx c0 c1 c2
      generalize wr.alloc (.cells #[.int .i64 p.f, .int .i64 p.t, .int .i64 p.o] 192) = wb at *
      generalize hBe : wr.heap.size = B at *
      have HBE := Lib.hid hBe
      clear hBe
      have HKS := Lib.hid (fun Wx (hW : Below wb.heap.size wb Wx) => And.intro ((below_cell hW (Nat.lt_of_lt_of_le hfl hsx)).trans kf) (And.intro ((below_cell hW (Nat.lt_of_lt_of_le htl hsx)).trans kt) (And.intro ((below_cell hW hpl).trans kp0) ((below_cell hW hpl).trans kp1))))
      obtain ⟨X, hX⟩ : ∃ X, (if fr < p.f then p.f else fr) = X := ⟨_, rfl⟩
      obtain ⟨Y, hY⟩ : ∃ Y, (if p.t < en then p.t else en) = Y := ⟨_, rfl⟩
      go_cut [7, 8] (TwoBoxes X Y wb)
      case first =>
        go_region_held3 (fun W => W.cell? ⟨Bf, 0, none⟩ = some (.int .i64 fr) ∧ W.cell? ⟨Bt, 0, none⟩ = some (.int .i64 en) ∧ W.cell? ⟨B, 0, none⟩ = some (.int .i64 p.f) ∧ W.cell? ⟨B, 1, none⟩ = some (.int .i64 p.t))
          (first
            | exact HKS.out _ (Below.refl _ _).drew
            | exact HKS.out _ ((Below.refl wb.heap.size wb).alloc (Nat.le_refl _) _).drew
            | exact HKS.out _ (((Below.refl wb.heap.size wb).alloc (Nat.le_refl _) _).alloc (by simp) _).drew
            | exact HKS.out _ ((((Below.refl wb.heap.size wb).alloc (Nat.le_refl _) _).alloc (by simp) _).drew.setCell (by simp) _)
            | exact HKS.out _ (((((Below.refl wb.heap.size wb).alloc (Nat.le_refl _) _).alloc (by simp) _).drew.setCell (by simp) _).setCell (by simp) _))
          (fail)
        all_goals (try simp only [hX, hY])
        all_goals go_wp2
        all_goals go_meet
        all_goals first
          | with_reducible exact two_boxes _ _ _
          | with_reducible exact two_boxes' _ _ _
      case rest =>
        obtain ⟨Ba, Bb, rfl, rfl, xa, xb, ha, hb, hbw⟩ := hcut
        have hXm : max fr p.f = X := by rw [← hX]; split <;> omega
        have hYm : min en p.t = Y := by rw [← hY]; split <;> omega
        have X1 : 0 ≤ X := by omega
        have X2 : X ≤ 3000001 := by omega
        have Y1 : 0 ≤ Y := by omega
        have Y2 : Y ≤ 3000001 := by omega
        have HPL2 := Lib.hid (show partL c fr en p = if Y ≤ X then [] else daysFrom c p.o X Y ((X + p.o) / 1440 - 1) (((Y - 1 + p.o) / 1440 - ((X + p.o) / 1440 - 1)).toNat + 1) by unfold partL; rw [hXm, hYm])
        clear hX hY hXm hYm kf kt kp0 kp1 HKS
        have hszx := hbw.size
        have hwx := HV.out.hO
        have HBX2 := Lib.hid (below_up HBX.out.2 hbw hsx)
        have HP := Lib.hid (HBX.out.1.below hbw hpl)
        have hpo := HP.out.cell 2
        have hca := xa.cell 0
        have hcb := xb.cell 0
        have hla := xa.lt
        have hlb := xb.lt
        have HXA := Lib.hid xa
        have HXB := Lib.hid xb
        have hBs : W.heap.size < w2.heap.size := by have := HY2.out.lt; exact this
        have HHR := Lib.hid (fun k (hk : R k) => (HBX2.out.block k (by have := HRl.out k hk; omega)).trans (HV.out.held k hk))
        have HHS := Lib.hid (fun k (h1 : W.heap.size ≤ k) (h2 : k < w2.heap.size) => (HBX2.out.block k (by omega)).trans (HV.out.same k h1 h2))
        have HJX := Lib.hid (HJ.out _ _ _ (fun k => O k ∨ (B ≤ k ∧ k < wc.heap.size)) wc HV.out.j (Turns.of_below (HBX2.out.mono (Nat.le_of_eq HBE.out)) O) (fun k hk => hk.imp id (fun g => by have := HBE.out; omega)) (fun k hk => by
          rcases hk with g | g
          · have := HV.out.hO k g; have := HBX2.out.size; omega
          · exact g.2))
        have HHO := Lib.hid (fun k (hk : O k) => (HBX2.out.block k (by have := HV.out.hO k hk; have := HBE.out; omega)))
        have HMN := Lib.hid HV.out.mine
        have HOL := Lib.hid (fun k (hk : O k) => Nat.lt_of_lt_of_le (HV.out.hO k hk) HBX2.out.size)
        clear HV HBX hbw
        by_cases hab : Y ≤ X
        · have q : decide (Y ≤ X) = true := by simpa using hab
          have HE := Lib.hid (show partL c fr en p = [] by rw [HPL2.out, if_pos hab])
          have HST := Lib.hid (show ShInv J (partL c fr en) (prts 0 c.off c.cs) R (fun k => O k ∨ (B ≤ k ∧ k < wc.heap.size)) W w2 wc (i + 1) from ⟨hlt', by rw [HNX.out, HE.out, List.append_nil]; exact HJX.out, fun k hk => by
            rcases hk with g | g
            · exact HOL.out k g
            · exact g.2, fun k h1 h2 => .inl (HMN.out k h1 h2), HHS.out, HHR.out, by omega⟩)
          clear hab
          go_wp2_with fail
          go_roundw
          case rel => exact ⟨i + 1, _, by go_num, HST.out⟩
          case measure => simp [intOf]; omega
        · have q : decide (Y ≤ X) = false := by simpa using hab
          obtain ⟨D0, hD0⟩ : ∃ D0, (X + p.o) / 1440 - 1 = D0 := ⟨_, rfl⟩
          obtain ⟨E0, hE0⟩ : ∃ E0, (Y - 1 + p.o) / 1440 = E0 := ⟨_, rfl⟩
          have g1 : -5 ≤ D0 := by omega
          have g2 : D0 < E0 := by omega
          have g3 : E0 ≤ 2100 := by omega
          obtain ⟨n, hn⟩ : ∃ n, (E0 - D0).toNat + 1 = n := ⟨_, rfl⟩
          have hn' : (n : Int) = E0 - D0 + 1 := by omega
          have HDL := Lib.hid (show partL c fr en p = daysFrom c p.o X Y D0 n by rw [HPL2.out, if_neg hab, hD0, hE0, hn])
          have HF1 := Lib.hid (show ∀ W : World, Calls Tryz.prog 127 #[.int .i64 (X + p.o), .int .i64 1440] W fun e w' => e = .returned (.int .i64 (D0 + 1)) ∧ W = w' from fun W => by
            have := floor_any (X + p.o) (by omega) (by omega) W
            rwa [show (X + p.o) / 1440 = D0 + 1 by omega] at this)
          have HF2 := Lib.hid (show ∀ W : World, Calls Tryz.prog 127 #[.int .i64 (Y - 1 + p.o), .int .i64 1440] W fun e w' => e = .returned (.int .i64 E0) ∧ W = w' from fun W => by
            have := floor_any (Y - 1 + p.o) (by omega) (by omega) W
            rwa [hE0] at this)
          have HN := Lib.hid hn'
          have HST := Lib.hid (show DyInv J (((prts 0 c.off c.cs).take i).flatMap (partL c fr en)) (fun d => daysFrom c p.o X Y D0 d) n R (fun k => O k ∨ (B ≤ k ∧ k < wc.heap.size)) (fun k => O k ∨ (B ≤ k ∧ k < wc.heap.size)) wc wc 0 from
            ⟨Nat.zero_le _, by rw [show daysFrom c p.o X Y D0 0 = [] from rfl, List.append_nil]; exact HJX.out, fun k hk => by
              rcases hk with g | g
              · exact HOL.out k g
              · exact g.2, fun k hk => hk, fun _ _ _ => rfl, Nat.le_refl _⟩)
          have HWC := Lib.hid (show B ≤ wb.heap.size from hsx)
          have HBL := Lib.hid hpl
          clear hab hD0 hE0 hn hn' HPL2 HJX
          go_wp2_with fail
          refine (HF1.out _).mono ?_
          rintro e w' ⟨rfl, rfl⟩
          go_wp2_with fail
          go_loopw [10] (fun uv wz => ∃ (d : Nat) (O' : Blocks), uv = .int .i64 (D0 + d) ∧ DyInv J (((prts 0 c.off c.cs).take i).flatMap (partL c fr en)) (fun d => daysFrom c p.o X Y D0 d) n R (fun k => O k ∨ (B ≤ k ∧ k < wc.heap.size)) O' wc wz d) (fun uv _ => (E0 + 1 - intOf uv).toNat)
          case atStart => exact ⟨0, _, by simp, HST.out⟩
          case round =>
            obtain ⟨d, O', rfl, hI⟩ := hrel
            have HV2 := Lib.hid hI
            have hle2 := hI.le
            clear hI HST
            have hsz2 := HV2.out.size
            have XB := (HV2.out.held Bb hlb (.inl (.inr ⟨Nat.le_trans HWC.out hb, hlb⟩))).trans HXB.out
            have XA := (HV2.out.held Ba hla (.inl (.inr ⟨Nat.le_trans HWC.out ha, hla⟩))).trans HXA.out
            have hpx : B < wc.heap.size := HP.out.lt
            have XP := (HV2.out.held B hpx (.inl (.inr ⟨Nat.le_refl _, hpx⟩))).trans HP.out
            have XY := (HV2.out.held W.heap.size (by omega) (.inl (.inl (HMN.out _ (Nat.le_refl _) hBs)))).trans ((HHS.out _ (Nat.le_refl _) hBs).trans HY2.out)
            have XC := (HV2.out.held Bc (by have := HRl.out Bc HRX.out.1; omega) (.inr HRX.out.1)).trans ((HHR.out Bc HRX.out.1).trans HX.out.1)
            have HK3 := Lib.hid (show Caught wr c vcs vwk vsp p X Y l Bc B Ba Bb W.heap.size from ⟨XC, XP, XA, XB, XY⟩)
            have hcb2 := HK3.out.b.cell 0
            have hpo2 := HK3.out.p.cell 2
            clear XB XA XP XY XC
            by_cases hlt2 : d < n
            · have hlt3 : D0 + (d : Int) ≤ E0 := by have := HN.out; omega
              have q2 : decide (D0 + (d : Int) ≤ E0) = true := by simpa using hlt3
              have hdx : (0 : Int) ≤ (d : Int) := by omega
              have HDS := Lib.hid (days_snoc c p.o X Y d D0)
              have hca3 : CalAt wr vcs vwk vsp c := HCB.out.held (by have := HB0.out.1; omega) (fun k hk => by
                have h1 := HR0.out k hk
                have h2 := HRl.out k h1
                exact (HV2.out.held k (by omega) (.inr h1)).trans ((HHR.out k h1).trans (HB0.out.2 k hk)))
              have hvis := visit_any c vcs vwk vsp p X Y l Bc B Ba Bb W.heap.size (D0 + d) R (shiftL c fr en) _ J Jx HJ.out HRD.out wr O' HK3.out (by
                rintro k (rfl | rfl | rfl | rfl | rfl)
                · exact .inr HRX.out.1
                · exact .inl (HV2.out.mine _ (.inr ⟨Nat.le_refl _, hpx⟩))
                · exact .inl (HV2.out.mine _ (.inr ⟨Nat.le_trans HWC.out ha, hla⟩))
                · exact .inl (HV2.out.mine _ (.inr ⟨Nat.le_trans HWC.out hb, hlb⟩))
                · exact .inl (HV2.out.mine _ (.inl (HMN.out _ (Nat.le_refl _) hBs)))) (fun k hk => by have := HRl.out k hk; omega) HFL.out hca3 (by omega) (by omega) q5 q6 X1 X2 Y1 Y2 HV2.out.j HV2.out.hO (by
                rw [List.append_assoc, ← HDS.out]
                refine List.IsPrefix.trans ?_ HPX.out
                rw [HNX.out, HDL.out, List.prefix_append_right_inj]
                exact days_prefix c p.o X Y D0 hlt2)
              have HVS := Lib.hid hvis
              clear hvis hca3 hlt2
              go_wp2_with fail
              refine (HF2.out _).mono ?_
              rintro e w' ⟨rfl, rfl⟩
              go_wp2_with fail
              refine HVS.out.mono ?_
              clear HVS
              rintro e W3 (⟨rfl, O4, hj4, ho4, hm4, hh4, hn4, hs4⟩ | ⟨rfl, q4, O4, hq4, hx4, ho4⟩)
              · have HST := Lib.hid (show DyInv J (((prts 0 c.off c.cs).take i).flatMap (partL c fr en)) (fun d => daysFrom c p.o X Y D0 d) n R (fun k => O k ∨ (B ≤ k ∧ k < wc.heap.size)) O4 wc W3 (d + 1) from
                  ⟨by have := HN.out; omega, by rw [HDS.out, ← List.append_assoc]; exact hj4, ho4, fun k hk => hm4 k (HV2.out.mine k hk), fun k h1 h2 => (hh4 k (by omega) (h2.imp (HV2.out.mine k) id)).trans (HV2.out.held k h1 h2), by omega⟩)
                clear hj4 ho4 hm4 hh4 hn4
                go_wp2_with fail
                go_roundw
                case rel => exact ⟨d + 1, O4, by rw [show D0 + ((d + 1 : Nat) : Int) = D0 + (d : Int) + 1 by omega], HST.out⟩
                case measure => simp [intOf]; omega
              · have HQ := Lib.hid (show ShPost J Jx (shiftL c fr en) (.returned (.tuple #[])) W3 from ⟨⟨_, rfl⟩, .inr ⟨q4, O4, hq4, hx4, ho4⟩⟩)
                clear hq4 hx4 ho4
                go_wp2_with fail
                refine bodyPost_ret (results_none rfl _ _ _) rfl ?_
                exact HQ.out
            · obtain rfl : d = n := by omega
              have q2 : decide (D0 + (d : Int) ≤ E0) = false := by have := HN.out; simp; omega
              have HST := Lib.hid (show ShInv J (partL c fr en) (prts 0 c.off c.cs) R O' W w2 wr (i + 1) from ⟨hlt', by rw [HNX.out, HDL.out]; exact HV2.out.j, HV2.out.hO, fun k h1 h2 => HV2.out.mine k (.inl (HMN.out k h1 h2)),
                fun k h1 h2 => (HV2.out.held k (by omega) (.inl (.inl (HMN.out k h1 h2)))).trans (HHS.out k h1 h2), fun k hk => (HV2.out.held k (by have := HRl.out k hk; omega) (.inr hk)).trans (HHR.out k hk), by omega⟩)
              have hdx : (0 : Int) ≤ (d : Int) := by omega
              have hdy : D0 + (d : Int) ≤ 3000 := by have := HN.out; omega
              go_wp2_with fail
              refine (HF2.out _).mono ?_
              rintro e w' ⟨rfl, rfl⟩
              go_wp2_with fail
              go_roundw
              case rel => exact ⟨i + 1, O', by go_num, HST.out⟩
              case measure => simp [intOf]; omega
    · obtain rfl : i = c.cs.length + 1 := by omega
      have hd : decide (((c.cs.length + 1 : Nat) : Int) < (c.cs.length : Int) + 1) = false := by simp
      go_wp2_with fail
      go_end0
      refine ⟨⟨_, rfl⟩, .inl ⟨O, ?_, HV.out.hO⟩⟩
      have h := HV.out.j
      rwa [← HPL.out, List.take_length] at h
end Go.Proofs.YtemikhnkjligdaaGreatDoor
