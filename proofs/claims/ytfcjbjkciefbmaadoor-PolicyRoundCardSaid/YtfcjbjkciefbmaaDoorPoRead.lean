/- The walk of level.ReadPolicy on a policy's own text. -/
import Derived.Test.YtfcjbjkciefbmaaDoorPoLn2
import Derived.Test.YtfcjbjkciefbmaaDoorPoLn3
import Derived.Test.YtfcjbjkciefbmaaDoorPoLn4
import Derived.Test.YtfcjbjkciefbmaaDoorPoAwk
namespace Go.Proofs.YtfcjbjkciefbmaaDoor
open Go.RowKit

def isPau : It → Bool
  | .pau _ => true
  | _ => false
theorem line_any (x : It) (B C U : Nat) (s : RdS) (ld : List LRec) (lc : Option LRec) (vp vl : Value) (w : World) (h : RdM w B C U s ld lc vp vl) (hx : RdOk s x) (hE : Env w) (hB : B ≤ w.heap.size) :
    Calls Tryd.prog 16 #[.pointer (some ⟨C, 0, none⟩), .string (bs x.line), .bool (isPau x)] w (LinePost B C (s.push x) w) := by
  cases x with
  | pau l => exact line_pau l B C U s ld lc vp vl w h hx.ok hE hB
  | lev n => exact line_lev n B C U s ld lc vp vl w h hx.ok (by have := hx.few; omega) hE hB
  | tst t => exact line_tst t B C U s ld lc vp vl w h hx hE hB
  | tgt t =>
    obtain ⟨k, x2, x3⟩ := t
    have h1 := hx.ok.tgt _ rfl
    unfold TgtOne at h1
    simp only at h1
    obtain ⟨m, rfl⟩ : ∃ m : Nat, k = (m : Int) + 1 := ⟨(k - 1).toNat, by omega⟩
    exact line_tgt m x2 x3 B C U s ld lc vp vl w h hx hE hB
structure RpInv (w wx : World) (fin : RdS) (n : Nat) (r : List It) (i : Nat) : Prop where
  mem : ∃ s ld lc vp vl U, RdM wx (w.heap.size + 1) (w.heap.size + 1) U s ld lc vp vl ∧ Fits s r ∧ r.foldl RdS.push s = fin
  one : i = 1 → ∃ l r', r = .pau l :: r' ∧ ∀ x ∈ r', isPau x = false
  more : i ≠ 1 → ∀ x ∈ r, isPau x = false
  pos : 1 ≤ i
  cnt : i + r.length = n
  res : Has wx w.heap.size #[.slice none 0 0, .slice none 0 0] 25
  below : Below w.heap.size w wx
theorem no_pau_levs : ∀ (ls : List LevD), ∀ x ∈ ls.flatMap levIts, isPau x = false
  | [], x, hx => by simp at hx
  | l :: r, x, hx => by
    rw [List.flatMap_cons] at hx
    rcases List.mem_append.1 hx with q | q
    · unfold levIts at q
      rcases List.mem_cons.1 q with rfl | q
      · rfl
      rcases List.mem_append.1 q with q | q
      · obtain ⟨t, _, rfl⟩ := List.mem_map.1 q
        rfl
      · obtain ⟨t, _, rfl⟩ := List.mem_map.1 q
        rfl
    · exact no_pau_levs r x q
theorem text_some (x : It) (r : List It) : (bs (textI (x :: r))).toList.isEmpty = false := by
  rw [ByteArray.toList_eq, bs_data, textI_cons]
  simp
theorem text_none : (bs (textI [])).toList.isEmpty = true := by
  rw [ByteArray.toList_eq, bs_data]
  rfl
theorem rdm_set {w : World} {B C U : Nat} {s : RdS} {ld : List LRec} {lc : Option LRec} {vp vl : Value} (h : RdM w B C U s ld lc vp vl) {A : Nat} (hA : A < B) (j : Nat) (u : Value) : RdM (w.setCell ⟨A, j, none⟩ u) B C U s ld lc vp vl :=
  ⟨h.box.set_other _ _ (by have := h.bc; omega), owns_set h.pau hA, owns_set h.row hA, h.dn, h.cr, fun x hx => ⟨owns_set (h.dts x hx).1 hA, (h.dts x hx).2⟩, fun x hx => ⟨owns_set (h.dgs x hx).1 hA, (h.dgs x hx).2⟩,
    fun x hx => owns_set (h.cts x hx) (by have := h.bu; omega), fun x hx => owns_set (h.cgs x hx) (by have := h.bu; omega), h.bc, h.bu, by rw [World.size_setCell]; exact h.uw⟩
def RpPost (p : PolD) (w : World) (e : Ending) (w' : World) : Prop := ∃ vp vl, e = .returned (.tuple #[.agg #[vp, vl], .int .i64 0, .int .i64 0]) ∧ PolAt w' vp vl p ∧ Below w.heap.size w w'
theorem pol_eq (p : PolD) : (⟨((polIts p).foldl RdS.push ⟨[], [], none⟩).pauses, ((polIts p).foldl RdS.push ⟨[], [], none⟩).all⟩ : PolD) = p := by
  obtain ⟨h1, h2⟩ := push_pol p
  rw [h1, h2]

set_option maxRecDepth 100000 in
set_option maxHeartbeats 4000000 in
theorem ReadPolicy_ok (p : PolD) (w : World) (hP : PolOk p) (hN : NumsOk p) (hE : Env w) :
    Calls Tryd.prog 6 #[.string (bs (textI (polIts p)))] w (RpPost p w) := by
  have HE := Lib.hid hE
  have HP := Lib.hid hP
  have hsz := pol_short hP hN
  have q0 : decide (400000 < ((bs (textI (polIts p))).size : Int)) = false := by rw [bs_size]; simp; omega
  have q1 : decide (400000 < (bs (textI (polIts p))).size) = false := by rw [bs_size]; simp; omega
  have hln := polIts_len hP
  have HFE := Lib.hid (pol_eq p)
  obtain ⟨fin, hfin⟩ : ∃ fin, (polIts p).foldl RdS.push ⟨[], [], none⟩ = fin := ⟨_, rfl⟩
  rw [hfin] at HFE
  have x1 := Has.new w #[.slice none 0 0, .slice none 0 0] 25
  have x2 := (Below.refl w.heap.size w).alloc (Nat.le_refl _) (.cells #[.slice none 0 0, .slice none 0 0] 25)
  have hz : (w.alloc (.cells #[.slice none 0 0, .slice none 0 0] 25)).heap.size = w.heap.size + 1 := by simp
  have y1 := Has.new (w.alloc (.cells #[.slice none 0 0, .slice none 0 0] 25)) #[.slice none 0 0, .slice none 0 0] 25
  rw [hz] at y1
  have y2 := (Below.refl (w.alloc (.cells #[.slice none 0 0, .slice none 0 0] 25)).heap.size (w.alloc (.cells #[.slice none 0 0, .slice none 0 0] 25))).alloc (Nat.le_refl _) (.cells #[.slice none 0 0, .slice none 0 0] 25)
  have hI : RpInv w ((w.alloc (.cells #[.slice none 0 0, .slice none 0 0] 25)).alloc (.cells #[.slice none 0 0, .slice none 0 0] 25)) fin (1 + (polIts p).length) (polIts p) 1 :=
    ⟨⟨⟨[], [], none⟩, [], none, .slice none 0 0, .slice none 0 0, w.heap.size + 1, ⟨y1, World.ownsRow_nil _ _ _ _, World.ownsRow_nil _ _ _ _, rfl, rfl, fun x hx => (by cases hx), fun x hx => (by cases hx), fun x hx => (by cases hx), fun x hx => (by cases hx), Nat.le_refl _, Nat.le_refl _, by simp⟩, fits_pol hP hN, hfin⟩,
      fun _ => ⟨p.pauses, p.levs.flatMap levIts, rfl, no_pau_levs _⟩, fun h => absurd rfl h, Nat.le_refl _, rfl, x1.alloc _, below_up x2 y2 x2.size⟩
  have HI := Lib.hid hI
  obtain ⟨nn, hnn⟩ : ∃ nn, 1 + (polIts p).length = nn := ⟨_, rfl⟩
  have hnl : nn ≤ 242 := by omega
  rw [hnn] at HI
  clear hE hsz hln hfin x1 x2 hz y1 y2 hI hN hP hnn
  generalize hT : bs (textI (polIts p)) = T at *
  have HT := Lib.hid hT
  clear hT
  go_enter Tryd.func6, Tryd.ntmps6
  go_upto_region 4 with fail
  generalize (w.alloc (.cells #[.slice none 0 0, .slice none 0 0] 25)).alloc (.cells #[.slice none 0 0, .slice none 0 0] 25) = w2 at *
  go_wp2_with fail
  go_loopw [0, 6] (fun sv av wx => ∃ (r : List It) (i : Nat), sv = .string (bs (textI r)) ∧ av = .int .i64 ((i : Nat) : Int) ∧ RpInv w wx fin nn r i) (fun _ av _ => nn - (intOf av).toNat)
  case atStart => exact ⟨polIts p, 1, by rw [HT.out], rfl, HI.out⟩
  case round =>
    obtain ⟨r, i, rfl, rfl, hI⟩ := hrel
    have HJ := Lib.hid hI
    have hpos := hI.pos
    have hcnt := hI.cnt
    obtain ⟨s, ld, lc, vp, vl, U, hM, hF, hfo⟩ := hI.mem
    have HM := Lib.hid hM
    clear hI HI q0 q1 hM
    cases r with
    | nil =>
      have htn := text_none
      have hi1 : i ≠ 1 := fun e => by
        obtain ⟨l, r', hr, _⟩ := HJ.out.one e
        cases hr
      have qi : ((i : Int) == 1) = false := by simp; omega
      have qi2 : decide ((i : Int) = 1) = false := decide_eq_false (by omega)
      have hsf : s = fin := hfo
      subst hsf
      obtain ⟨pa, pn, pc, rfl⟩ : ∃ a n c, vp = .slice a n c := by
        obtain ⟨a, c, e⟩ := owns_slice HM.out.pau
        exact ⟨a, _, c, e⟩
      obtain ⟨lna, lnn, lnc, rfl⟩ : ∃ a n c, vl = .slice a n c := by
        obtain ⟨a, c, e⟩ := owns_slice HM.out.row
        exact ⟨a, _, c, e⟩
      generalize hvp : Value.slice pa pn pc = vp at *
      generalize hvl : Value.slice lna lnn lnc = vl at *
      have hpo : PolAt wr vp vl p := by
        have := HM.out.pol (fun l hl => by
          have hl' : l ∈ p.levs := by
            have e := HFE.out
            rw [← e]
            exact hl
          obtain ⟨h1, h2⟩ := HP.out.levs.each l hl'
          refine ⟨by have := (nm_size h1).2; omega, fun t ht => ?_⟩
          have := (h2.tests.mem ht).short
          omega)
        rw [HFE.out] at this
        exact this
      have hCA : w.heap.size ≠ w.heap.size + 1 := by omega
      have k0 := HM.out.box.cell 0
      have k1 := HM.out.box.cell 1
      have HCC := Lib.hid (CheckPolicy_any p vp vl wr hpo)
      have HPO := Lib.hid hpo
      clear hF hfo hpo
      generalize bs (textI []) = T2 at *
      go_wp2_with fail
      refine HCC.out.mono ?_
      rintro e w3 ⟨⟨cd, rfl, hcd⟩, hb3⟩
      obtain rfl : cd = 0 := hcd.2 HP.out
      have HP3 := Lib.hid (HPO.out.below hb3)
      have HB3 := Lib.hid (below_up HJ.out.below hb3 HJ.out.below.size)
      have HBW := Lib.hid hb3
      have hR := HJ.out.res.below hb3 HJ.out.res.lt
      have hC := HM.out.box.below hb3 HM.out.box.lt
      clear hcd hb3 HCC k0 k1
      have k0 := hC.cell 0
      have k1 := hC.cell 1
      have r0 := hR.cell 0
      have r1 := hR.cell 1
      have f0 := hR.fz 0
      have f1 := hR.fz 1
      have HZ := Lib.hid (show Has _ w.heap.size #[vp, vl] 25 from (hR.set 0 vp).set 1 vl)
      have HBZ := Lib.hid ((HB3.out.setCell (p := ⟨w.heap.size, 0, none⟩) (Nat.le_refl _) vp).setCell (p := ⟨w.heap.size, 1, none⟩) (Nat.le_refl _) vl)
      have hPZ : PolAt ((w3.setCell ⟨w.heap.size, 0, none⟩ vp).setCell ⟨w.heap.size, 1, none⟩ vl) vp vl p := by
        have e := HFE.out
        rw [← e]
        refine RdM.pol (B := w.heap.size + 1) (C := w.heap.size + 1) (U := U) (ld := ld) (lc := lc) ?_ ?_
        · have hs1 := rdm_set (HM.out.below HBW.out) (Nat.lt_succ_self w.heap.size) 0 vp
          exact rdm_set hs1 (Nat.lt_succ_self w.heap.size) 1 vl
        · intro l hl
          have hl' : l ∈ p.levs := by
            rw [← e]
            exact hl
          obtain ⟨h1, h2⟩ := HP.out.levs.each l hl'
          refine ⟨by have := (nm_size h1).2; omega, fun t ht => ?_⟩
          have := (h2.tests.mem ht).short
          omega
      have HPZ := Lib.hid hPZ
      clear hPZ hR hC
      subst hvp hvl
      go_wp2_with fail
      try simp only [Exit.inBlock, Exit.then]
      refine bodyPost_ret (results_cell_tmps_row rfl _ _ w.heap.size _ _ (0, 0) _ rfl HZ.out Tryd.underlying25 rfl infoPol) rfl ?_
      exact ⟨_, _, rfl, HPZ.out, HBZ.out⟩
    | cons x r' =>
      have htn := text_some x r'
      obtain ⟨hRO, hF2⟩ := hF
      have hok := fits_ok (show Fits s (x :: r') from ⟨hRO, hF2⟩)
      have hts := text_short2 (x :: r') hok
      rw [List.length_cons] at hcnt hts
      have hrl : r'.length ≤ 242 := by omega
      have HCU := Lib.hid (fun W hW => cut_any (textI (x :: r')) 10 (by omega) W hW)
      rw [cut_it hRO.ok] at HCU
      have HLA := Lib.hid (fun W (h : RdM W (w.heap.size + 1) (w.heap.size + 1) U s ld lc vp vl) hE => line_any x (w.heap.size + 1) (w.heap.size + 1) U s ld lc vp vl W h hRO hE (Nat.le_trans h.bu h.uw))
      have HF2 := Lib.hid hF2
      have HFO := Lib.hid (show r'.foldl RdS.push (s.push x) = fin from hfo)
      have hx1 : isPau x = decide (i = 1) := by
        by_cases e : i = 1
        · obtain ⟨l, r2, hr, _⟩ := HJ.out.one e
          cases hr
          rw [decide_eq_true e]
          rfl
        · rw [HJ.out.more e x List.mem_cons_self, decide_eq_false e]
      have HMO := Lib.hid (show ∀ y ∈ r', isPau y = false from fun y hy => by
        by_cases e : i = 1
        · obtain ⟨l, r2, hr, h2⟩ := HJ.out.one e
          cases hr
          exact h2 y hy
        · exact HJ.out.more e y (List.mem_cons_of_mem _ hy))
      rw [hx1] at HLA
      clear hF2 hfo hRO hok hts hx1
      generalize bs (textI (x :: r')) = T1 at *
      simp only at HCU
      generalize hTr : bs (textI r') = Tr at *
      have HTR := Lib.hid hTr
      clear hTr
      generalize bs x.line = L at *
      by_cases h1 : i = 1
      · subst h1
        rw [decide_eq_true rfl] at HLA
        go_wp2_with fail
        refine (HCU.out wr (HE.out.below HJ.out.below)).mono ?_
        rintro e w3 ⟨rfl, hb3⟩
        have HB3 := Lib.hid (below_up HJ.out.below hb3 HJ.out.below.size)
        have HM3 := Lib.hid (HM.out.below hb3)
        have HX3 := Lib.hid (HJ.out.res.below hb3 HJ.out.res.lt)
        clear hb3 HCU HM
        go_wp2_with fail
        refine (HLA.out w3 HM3.out (HE.out.below HB3.out)).mono ?_
        rintro e w4 ⟨rfl, hb4, U2, ld2, lc2, vp2, vl2, hM2⟩
        have HIN := Lib.hid (show RpInv w w4 fin nn r' (1 + 1) from ⟨⟨s.push x, ld2, lc2, vp2, vl2, U2, hM2, HF2.out, HFO.out⟩, fun h => by omega, fun _ => HMO.out, by omega, by omega, HX3.out.below hb4 (Nat.lt_succ_self _), HB3.out.trans (hb4.mono (Nat.le_succ _))⟩)
        clear hb4 hM2 HLA HM3 HB3 HX3 HJ
        go_wp2_with fail
        go_roundw
        case rel => exact ⟨r', 1 + 1, by rw [← HTR.out], by go_num, HIN.out⟩
        case measure => simp [intOf]; omega
      · rw [decide_eq_false h1] at HLA
        have qi : ((i : Int) == 1) = false := by simp; omega
        have qi2 : decide ((i : Int) = 1) = false := decide_eq_false (by omega)
        go_wp2_with fail
        refine (HCU.out wr (HE.out.below HJ.out.below)).mono ?_
        rintro e w3 ⟨rfl, hb3⟩
        have HB3 := Lib.hid (below_up HJ.out.below hb3 HJ.out.below.size)
        have HM3 := Lib.hid (HM.out.below hb3)
        have HX3 := Lib.hid (HJ.out.res.below hb3 HJ.out.res.lt)
        clear hb3 HCU HM
        go_wp2_with fail
        refine (HLA.out w3 HM3.out (HE.out.below HB3.out)).mono ?_
        rintro e w4 ⟨rfl, hb4, U2, ld2, lc2, vp2, vl2, hM2⟩
        have HIN := Lib.hid (show RpInv w w4 fin nn r' (i + 1) from ⟨⟨s.push x, ld2, lc2, vp2, vl2, U2, hM2, HF2.out, HFO.out⟩, fun h => by omega, fun _ => HMO.out, by omega, by omega, HX3.out.below hb4 (Nat.lt_succ_self _), HB3.out.trans (hb4.mono (Nat.le_succ _))⟩)
        clear hb4 hM2 HLA HM3 HB3 HX3 HJ
        go_wp2_with fail
        go_roundw
        case rel => exact ⟨r', i + 1, by rw [← HTR.out], by go_num, HIN.out⟩
        case measure => simp [intOf]; omega
end Go.Proofs.YtfcjbjkciefbmaaDoor
