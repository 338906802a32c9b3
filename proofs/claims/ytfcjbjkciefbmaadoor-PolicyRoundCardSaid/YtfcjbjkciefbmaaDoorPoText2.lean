/- The walk of level.PolicyText. -/
import Derived.Test.YtfcjbjkciefbmaaDoorPoText
namespace Go.Proofs.YtfcjbjkciefbmaaDoor
open Go.RowKit

theorem joinTail_next (a : List (List UInt8)) (x : List UInt8) : Lib.joinTail [32] (a ++ [x]) = Lib.joinTail [32] a ++ 32 :: x := by
  simp [Lib.joinTail]
theorem lineU_next {l : List Int} {i : Nat} (hi : i < l.length) : lineU (l.take (i + 1)) = lineU (l.take i) ++ 32 :: Lib.itoa l[i] := by
  unfold lineU
  rw [List.take_succ_eq_append_getElem hi, List.map_append, Lib.join_cons, Lib.join_cons, List.map_cons, List.map_nil, joinTail_next, List.append_assoc]
/-- lines that may be written -/
def Wr (its : List It) : Prop := ∀ x ∈ its, x.Ok
theorem Wr.one {its : List It} {x : It} (h : Wr its) (hx : x.Ok) : Wr (its ++ [x]) := fun y hy => by
  rcases List.mem_append.1 hy with g | g
  · exact h y g
  · rw [List.mem_singleton.1 g]; exact hx
theorem write_it (B : Nat) (its : List It) (x : It) (w : World) (h : BuildsAt w B (textI its)) (hw : Wr its) (hx : x.Ok) (hl : its.length ≤ 300) :
    Calls Tryd.prog 8 #[.pointer (some ⟨B, 0, none⟩), .string (bs (x.line ++ [10]))] w fun e w' => (∃ n : Int, e = .returned (.tuple #[.int .i64 n, .nilIface])) ∧ BuildsAt w' B (textI (its ++ [x])) ∧ Below B w w' ∧ KeepsU B w w' := by
  have h1 := text_short2 its hw
  have h2 := line_short2 hx
  refine (write_any B (textI its) (x.line ++ [10]) w h (by rw [List.length_append, List.length_singleton]; omega)).mono ?_
  rintro e w' ⟨rfl, hb, hbb, hk⟩
  refine ⟨⟨_, rfl⟩, ?_, hbb, hk⟩
  rw [textI_append, textI_one]
  exact hb
/-- the lines up to level i -/
def upI (p : PolD) (i : Nat) : List It := .pau p.pauses :: (p.levs.take i).flatMap levIts
theorem upI_next {p : PolD} {i : Nat} (hi : i < p.levs.length) : upI p (i + 1) = upI p i ++ levIts p.levs[i] := by
  unfold upI
  rw [List.take_succ_eq_append_getElem hi, List.flatMap_append]
  simp
def NumsUp (p : PolD) (i : Nat) : Prop := ∀ l ∈ p.levs.take i, ∀ t ∈ l.tests, NumOk t
theorem upI_ok {p : PolD} (h : PolOk p) {i : Nat} (hi : i ≤ p.levs.length) (hn : NumsUp p i) : Wr (upI p i) ∧ (upI p i).length ≤ 241 := by
  have hs : PolOk ⟨p.pauses, p.levs.take i⟩ := by
    refine ⟨h.pauses, ?_, fun x hx => h.levs.each x (List.mem_of_mem_take hx), ?_⟩
    · rw [List.length_take]
      have := h.few
      omega
    · have := h.levs.once
      rw [List.map_take]
      exact this.sublist (List.take_sublist _ _)
  exact ⟨fits_ok (fits_pol hs hn), polIts_len hs⟩
theorem okV {n : ByteArray} (h : nm n = true) : (It.lev n).Ok := ⟨fun _ e => (by cases e), fun m e => (by cases e; exact h), fun _ e => (by cases e), fun _ e => (by cases e)⟩
theorem okT {t : TstD} (h : TstOne t) (hn : NumOk t) : (It.tst t).Ok := ⟨fun _ e => (by cases e), fun _ e => (by cases e), fun m e => (by cases e; exact ⟨h, hn⟩), fun _ e => (by cases e)⟩
theorem okG {t : TgtD} (h : TgtOne t) : (It.tgt t).Ok := ⟨fun _ e => (by cases e), fun _ e => (by cases e), fun _ e => (by cases e), fun m e => (by cases e; exact h)⟩
/-- the lines of a level up to test j -/
def upT (p : PolD) (i : Nat) (l : LevD) (j : Nat) : List It := upI p i ++ [.lev l.name] ++ (l.tests.take j).map .tst
def upG (p : PolD) (i : Nat) (l : LevD) (j : Nat) : List It := upI p i ++ [.lev l.name] ++ l.tests.map .tst ++ (l.tgts.take j).map .tgt
theorem upT_zero (p : PolD) (i : Nat) (l : LevD) : upT p i l 0 = upI p i ++ [.lev l.name] := by simp [upT]
theorem upT_next (p : PolD) (i : Nat) {l : LevD} {j : Nat} (hj : j < l.tests.length) : upT p i l (j + 1) = upT p i l j ++ [.tst l.tests[j]] := by
  unfold upT
  rw [List.take_succ_eq_append_getElem hj, List.map_append, ← List.append_assoc]
  rfl
theorem upT_all (p : PolD) (i : Nat) (l : LevD) : upT p i l l.tests.length = upG p i l 0 := by simp [upT, upG]
theorem upG_next (p : PolD) (i : Nat) {l : LevD} {j : Nat} (hj : j < l.tgts.length) : upG p i l (j + 1) = upG p i l j ++ [.tgt l.tgts[j]] := by
  unfold upG
  rw [List.take_succ_eq_append_getElem hj, List.map_append, ← List.append_assoc]
  rfl
theorem upG_all {p : PolD} {i : Nat} (hi : i < p.levs.length) : upG p i p.levs[i] p.levs[i].tgts.length = upI p (i + 1) := by
  rw [upI_next hi]
  simp [upG, levIts]
theorem upT_ok {p : PolD} {i : Nat} {l : LevD} {j : Nat} (h : Wr (upI p i) ∧ (upI p i).length ≤ 241) (hn : nm l.name = true) (hl : LevOk l) (hk : ∀ t ∈ l.tests.take j, NumOk t) : Wr (upT p i l j) ∧ (upT p i l j).length ≤ 260 := by
  unfold upT
  refine ⟨fun x hx => ?_, ?_⟩
  · rcases List.mem_append.1 hx with hx | hx
    · exact h.1.one (okV hn) x hx
    · obtain ⟨t, ht, rfl⟩ := List.mem_map.1 hx
      exact okT (hl.tests.mem (List.mem_of_mem_take ht)) (hk t ht)
  · rw [List.length_append, List.length_append, List.length_map, List.length_take, List.length_singleton]
    have := hl.few
    omega
theorem upG_ok {p : PolD} {i : Nat} {l : LevD} {j : Nat} (h : Wr (upI p i) ∧ (upI p i).length ≤ 241) (hn : nm l.name = true) (hl : LevOk l) (hk : ∀ t ∈ l.tests, NumOk t) : Wr (upG p i l j) ∧ (upG p i l j).length ≤ 270 := by
  have h1 := upT_ok (j := l.tests.length) h hn hl (fun t ht => hk t (List.mem_of_mem_take ht))
  rw [upT_all] at h1
  have e : upG p i l j = upG p i l 0 ++ (l.tgts.take j).map .tgt := by simp [upG]
  rw [e]
  refine ⟨fun x hx => ?_, ?_⟩
  · rcases List.mem_append.1 hx with hx | hx
    · exact h1.1 x hx
    · obtain ⟨t, ht, rfl⟩ := List.mem_map.1 hx
      exact okG (hl.tgts.mem (List.mem_of_mem_take ht))
  · rw [List.length_append, List.length_map, List.length_take]
    have := tgt_few hl.tgts
    omega
structure PaInv (p : PolD) (vp vl : Value) (w wr : World) (B i : Nat) : Prop where
  le : i ≤ p.pauses.length
  b : BuildsAt wr B (lineU (p.pauses.take i))
  box : Has wr w.heap.size #[vp, vl] 25
  below : Below w.heap.size w wr
structure PbInv (p : PolD) (vp vl : Value) (w wr : World) (B i : Nat) : Prop where
  le : i ≤ p.levs.length
  b : BuildsAt wr B (textI (upI p i))
  nums : NumsUp p i
  box : Has wr w.heap.size #[vp, vl] 25
  below : Below w.heap.size w wr
/-- inside a level: its box at D -/
structure PcInv (p : PolD) (vp vl : Value) (w wr : World) (B i : Nat) (D : Nat) (l : LevD) (vt vg : Value) (its : List It) : Prop where
  b : BuildsAt wr B (textI its)
  box : Has wr w.heap.size #[vp, vl] 25
  lev : Has wr D #[.string l.name, vt, vg] 47
  below : Below w.heap.size w wr
  base : w.heap.size < B ∧ B < D
def PtPost (p : PolD) (w : World) (e : Ending) (w' : World) : Prop :=
  ∃ s k, e = .returned (.tuple #[.string s, .int .i64 k]) ∧ Below w.heap.size w w' ∧ (k ≠ 0 → s = ⟨#[]⟩) ∧ (k = 0 → PolOk p ∧ NumsOk p ∧ s = bs (textI (polIts p))) ∧ (PolOk p → NumsOk p → k = 0)

set_option maxRecDepth 100000 in
set_option maxHeartbeats 16000000 in
theorem PolicyText_any (p : PolD) (vp vl : Value) (w : World) (h : PolAt w vp vl p) (hE : Env w) :
    Calls Tryd.prog 5 #[.agg #[vp, vl]] w (PtPost p w) := by
  obtain ⟨pa, pc, rfl⟩ := SliceAt.len h.pauses
  obtain ⟨la, lc, rfl⟩ := SliceAt.len h.levs
  have HP := Lib.hid h.pauses
  have HL := Lib.hid h.levs
  have HE := Lib.hid hE
  have hbx := box1 w #[.slice pa p.pauses.length pc, .slice la p.levs.length lc] 25
  have HCK := Lib.hid (CheckPolicy_any p _ _ (w.alloc (.cells #[.slice pa p.pauses.length pc, .slice la p.levs.length lc] 25)) (h.below hbx.2))
  have HX := Lib.hid hbx.1
  have HB := Lib.hid hbx.2
  have k0 := hbx.1.cell 0
  have k1 := hbx.1.cell 1
  clear h hbx hE
  go_enter Tryd.func5, Tryd.ntmps5
  go_upto_region 1 with fail
  generalize w.alloc (.cells #[.slice pa p.pauses.length pc, .slice la p.levs.length lc] 25) = w1 at *
  go_wp2_with fail
  refine HCK.out.mono ?_
  rintro e w2 ⟨⟨k, rfl, hk⟩, hb2⟩
  have HK := Lib.hid hk
  have HB2 := Lib.hid (below_up HB.out hb2 HB.out.size)
  have HX2 := Lib.hid (HX.out.below hb2 HX.out.lt)
  clear hk hb2 HCK k0 k1 HX HB
  by_cases hkz : k = 0
  rotate_left
  · have q1 : (k == 0) = false := by simpa using hkz
    have q2 : (k != 0) = true := by simpa using hkz
    have HKZ := Lib.hid hkz
    clear hkz
    go_wp2_with fail
    go_ret2
    exact ⟨_, _, rfl, HB2.out, fun _ => rfl, fun h => absurd h HKZ.out, fun h _ => absurd (HK.out.2 h) HKZ.out⟩
  subst hkz
  have HF := Lib.hid (HK.out.1 rfl)
  have hl20 : p.levs.length ≤ 20 := HF.out.few
  have hp4 : p.pauses.length ≤ 4 := pau_few HF.out.pauses
  clear HK
  go_upto_region 5 with fail
  have hbb := BuildsAt.new w2
  have hba : Below w2.heap.size w2 (w2.alloc (.cells #[.pointer none, .slice none 0 0] 37)) := (Below.refl _ _).alloc (Nat.le_refl _) _
  have HB3 := Lib.hid (below_up HB2.out hba HB2.out.size)
  have HX3 := Lib.hid (HX2.out.below hba HX2.out.lt)
  have hBw : w.heap.size < w2.heap.size := HX2.out.lt
  generalize w2.alloc (.cells #[.pointer none, .slice none 0 0] 37) = w3 at *
  generalize w2.heap.size = B at *
  have hw3 := write_any B [] pauseW w3 hbb (by decide)
  have HW3 := Lib.hid hw3
  clear hbb hba hw3 HB2 HX2
  have hBwl : w.heap.size ≤ B := by omega
  have hBne : w.heap.size ≠ B := by omega
  go_wp2_with fail
  refine HW3.out.mono ?_
  rintro e w4 ⟨rfl, hbu, hbb, hku⟩
  have HI4 := Lib.hid (show PaInv p (.slice pa p.pauses.length pc) (.slice la p.levs.length lc) w w4 B 0 from ⟨Nat.zero_le _, hbu, HX3.out.keepsU hku (by decide) hBne, HB3.out.trans (hbb.mono hBwl)⟩)
  have k0 := HI4.out.box.cell 0
  clear hbu hbb hku HX3 HB3 HW3
  go_wp2_with fail
  go_loopw [23] (fun iv wr => ∃ i : Nat, iv = .int .i64 ((i : Nat) : Int) ∧ PaInv p (.slice pa p.pauses.length pc) (.slice la p.levs.length lc) w wr B i) (fun iv _ => p.pauses.length - (intOf iv).toNat)
  case atStart => exact ⟨0, rfl, HI4.out⟩
  case round =>
    obtain ⟨i, rfl, hI⟩ := hrel
    have HI := Lib.hid hI
    have hi := hI.le
    clear hI HI4 k0
    by_cases hlt : i < p.pauses.length
    · obtain ⟨b, of', cap', hv, hb, hcp, hel⟩ := Ints.at HP.out (by omega)
      cases hv
      have c0 := (below_cell HI.out.below hb).trans (hel i hlt)
      have hone : PauOne p.pauses[i] := HF.out.pauses.each i hlt
      have HNX := Lib.hid (lineU_next hlt)
      have hln : (lineU (p.pauses.take i)).length ≤ 240 := line_short2 (x := .pau (p.pauses.take i)) ⟨fun l e => (by
        cases e
        exact ⟨by rw [List.length_take]; omega, fun n hn => HF.out.pauses.mem (List.mem_of_mem_take hn)⟩), fun _ e => (by cases e), fun _ e => (by cases e), fun _ e => (by cases e)⟩
      clear hel
      generalize p.pauses[i] = n at *
      unfold PauOne at hone
      have hsh := itoa_short18 n (small18 (by omega))
      have HIT := Lib.hid (fun W hW => itoa_any n (by omega) (by omega) W hW)
      have HCAT := Lib.hid (show (⟨#[32]⟩ : ByteArray) ++ bs (Lib.itoa n) = bs (32 :: Lib.itoa n) from bs_append [32] (Lib.itoa n))
      have HWR := Lib.hid (fun W (hW : BuildsAt W B (lineU (p.pauses.take i))) => write_any B (lineU (p.pauses.take i)) (32 :: Lib.itoa n) W hW (by rw [List.length_cons]; omega))
      rw [← HCAT.out] at HWR
      have htz : (bs (Lib.itoa n)).size ≤ 19 := by rw [bs_size]; exact hsh
      clear hsh HCAT hln hone
      generalize hTN : bs (Lib.itoa n) = t at *
      go_wp2_with fail
      refine (HIT.out wr (HE.out.below HI.out.below)).mono ?_
      rintro e w5 ⟨rfl, hb5⟩
      have HB5 := Lib.hid (below_up HI.out.below hb5 HI.out.below.size)
      have HX5 := Lib.hid (HI.out.box.below hb5 HI.out.box.lt)
      have HU5 := Lib.hid (HI.out.b.below hb5)
      clear hb5 HIT c0
      go_wp2_with fail
      refine (HWR.out w5 HU5.out).mono ?_
      rintro e w6 ⟨rfl, hbu, hbb, hku⟩
      have HIN := Lib.hid (show PaInv p (.slice (some ⟨b, of', none⟩) p.pauses.length pc) (.slice la p.levs.length lc) w w6 B (i + 1) from ⟨hlt, by rw [HNX.out]; exact hbu, HX5.out.keepsU hku (by decide) hBne, HB5.out.trans (hbb.mono hBwl)⟩)
      clear hbu hbb hku HWR
      go_wp2_with fail
      go_roundw
      case rel => exact ⟨i + 1, by go_num, HIN.out⟩
      case measure => simp [intOf]; omega
    · obtain rfl : i = p.pauses.length := by omega
      have hbt := HI.out.b
      rw [List.take_length] at hbt
      have hln : (lineU p.pauses).length ≤ 240 := line_short2 (x := .pau p.pauses) ⟨fun l e => (by cases e; exact ⟨hp4, fun n hn => HF.out.pauses.mem hn⟩), fun _ e => (by cases e), fun _ e => (by cases e), fun _ e => (by cases e)⟩
      have HWB := Lib.hid (writeByte_any B (lineU p.pauses) 10 10 rfl wr hbt (by omega))
      clear hbt hln
      go_wp2_with fail
      refine HWB.out.mono ?_
      rintro e w5 ⟨rfl, hbu, hbb, hku⟩
      have HI5 := Lib.hid (show PbInv p (.slice pa p.pauses.length pc) (.slice la p.levs.length lc) w w5 B 0 from ⟨Nat.zero_le _, by
        have e : textI (upI p 0) = lineU p.pauses ++ [10] := by
          unfold upI
          rw [List.take_zero, List.flatMap_nil, textI_one]
          rfl
        rw [e]
        exact hbu, fun l hl => absurd hl (by simp), HI.out.box.keepsU hku (by decide) hBne, HI.out.below.trans (hbb.mono hBwl)⟩)
      have k1 := HI5.out.box.cell 1
      clear hbu hbb hku HWB HI hi
      go_wp2_with fail
      go_loopw [36] (fun iv wx => ∃ i : Nat, iv = .int .i64 ((i : Nat) : Int) ∧ PbInv p (.slice pa p.pauses.length pc) (.slice la p.levs.length lc) w wx B i) (fun iv _ => p.levs.length - (intOf iv).toNat)
      case atStart => exact ⟨0, rfl, HI5.out⟩
      case round =>
        obtain ⟨i, rfl, hI⟩ := hrel
        rename World => wx
        have HI := Lib.hid hI
        have hi := hI.le
        clear hI HI5 k1
        by_cases hlt : i < p.levs.length
        · have ql : decide ((i : Int) < (p.levs.length : Int)) = true := decide_eq_true (by omega)
          obtain ⟨b, of', cap', hv, hb, hel⟩ := Levs.at HL.out (by omega)
          cases hv
          obtain ⟨vt, vg, ⟨e0, e1, e2⟩, hsz, ht, hg⟩ := hel i hlt
          obtain ⟨ta, tc, rfl⟩ := SliceAt.len ht
          obtain ⟨ga, gc, rfl⟩ := SliceAt.len hg
          have c0 := (below_cell HI.out.below hb).trans e0
          have c1 := (below_cell HI.out.below hb).trans e1
          have c2 := (below_cell HI.out.below hb).trans e2
          have HT := Lib.hid ht
          have HG := Lib.hid hg
          obtain ⟨hnm, hlo⟩ := HF.out.levs.each _ (List.getElem_mem hlt)
          have HOK := Lib.hid (upI_ok HF.out HI.out.le HI.out.nums)
          have HALL := Lib.hid (upG_all hlt)
          have HNM := Lib.hid hnm
          have HLO := Lib.hid hlo
          have HNK := Lib.hid (show NumsOk p → ∀ t ∈ p.levs[i].tests, NumOk t from fun g => g _ (List.getElem_mem hlt))
          have HNU := Lib.hid (show (∀ t ∈ p.levs[i].tests, NumOk t) → NumsUp p (i + 1) from fun g l hl => by
            rw [List.take_succ_eq_append_getElem hlt] at hl
            rcases List.mem_append.1 hl with q | q
            · exact HI.out.nums l q
            · rw [List.mem_singleton.1 q]; exact g)
          have hnz := (nm_size hnm).2
          have h8 := hlo.few
          clear e0 e1 e2 hel hsz ht hg hnm hlo
          generalize p.levs[i] = l at *
          obtain ⟨n, ts, gs⟩ := l
          simp only at c0 c1 c2 HT HG HNM hnz h8 HNK HNU HALL
          go_upto_region 15 with fail
          obtain ⟨bx, bbl⟩ := box1 wx #[.string n, .slice ta ts.length tc, .slice ga gs.length gc] 47
          have hBD : B < wx.heap.size := HI.out.b.lt
          have HWI := Lib.hid (write_it B (upI p i) (.lev n) _ (HI.out.b.below bbl) HOK.out.1 (okV HNM.out) (by have := HOK.out.2; omega))
          have HB4 := Lib.hid (below_up HI.out.below bbl HI.out.below.size)
          have HX4 := Lib.hid (HI.out.box.below bbl HI.out.box.lt)
          have m0 := bx.cell 0
          have HBX := Lib.hid bx
          clear bx bbl c0 c1 c2
          generalize wx.alloc (.cells #[.string n, .slice ta ts.length tc, .slice ga gs.length gc] 47) = wb at *
          generalize wx.heap.size = D at *
          have HCAT := Lib.hid (show ((⟨#[108, 101, 118, 101, 108, 32]⟩ : ByteArray) ++ n) ++ ⟨#[10]⟩ = bs ((It.lev n).line ++ [10]) from bs_inj (by
            show _ = (Lib.join [levelW, n.data.toList] [32] ++ [10])
            simp [Lib.join_cons, Lib.joinTail, levelW]))
          rw [← HCAT.out] at HWI
          have hDne : D ≠ B := by omega
          go_wp2_with fail
          refine HWI.out.mono ?_
          rintro e w5 ⟨⟨n1, rfl⟩, hbu, hbb, hku⟩
          have HC5 := Lib.hid (show PcInv p (.slice pa p.pauses.length pc) (.slice (some ⟨b, of', none⟩) p.levs.length lc) w w5 B i D ⟨n, ts, gs⟩ (.slice ta ts.length tc) (.slice ga gs.length gc) (upT p i ⟨n, ts, gs⟩ 0) from
            ⟨by rw [upT_zero]; exact hbu, HX4.out.keepsU hku (by decide) hBne, HBX.out.keepsU hku (by decide) hDne, HB4.out.trans (hbb.mono hBwl), by omega⟩)
          have m1 := HC5.out.lev.cell 1
          clear hbu hbb hku m0 HWI HCAT HX4 HBX HB4 HI
          go_wp2_with fail
          go_loopw [48] (fun jv wy => ∃ j : Nat, jv = .int .i64 ((j : Nat) : Int) ∧ j ≤ ts.length ∧ (∀ t ∈ ts.take j, NumOk t) ∧ PcInv p (.slice pa p.pauses.length pc) (.slice (some ⟨b, of', none⟩) p.levs.length lc) w wy B i D ⟨n, ts, gs⟩ (.slice ta ts.length tc) (.slice ga gs.length gc) (upT p i ⟨n, ts, gs⟩ j)) (fun jv _ => ts.length - (intOf jv).toNat)
          case atStart => exact ⟨0, rfl, Nat.zero_le _, by simp, HC5.out⟩
          case round =>
            obtain ⟨j, rfl, hj, hnu, hJ⟩ := hrel
            rename World => wy
            have HJ := Lib.hid hJ
            have HNJ := Lib.hid hnu
            clear hJ hnu HC5 m1
            by_cases hltj : j < ts.length
            · obtain ⟨tb, to', tcp, hv, htb, htl⟩ := Tsts.at HT.out (show 0 < ts.length by omega)
              cases hv
              obtain ⟨⟨e0, e1, e2, e3⟩, hsz⟩ := htl j hltj
              have c0 := (below_cell HJ.out.below htb).trans e0
              have c1 := (below_cell HJ.out.below htb).trans e1
              have c2 := (below_cell HJ.out.below htb).trans e2
              have c3 := (below_cell HJ.out.below htb).trans e3
              have HTO := Lib.hid (show TstOne ts[j] from HLO.out.tests.each j hltj)
              have HUT := Lib.hid (upT_ok HOK.out HNM.out HLO.out HNJ.out)
              have HNX := Lib.hid (upT_next p i (l := ⟨n, ts, gs⟩) hltj)
              have HNN := Lib.hid (show NumOk ts[j] → ∀ t ∈ ts.take (j + 1), NumOk t from fun g t ht => by
                rw [List.take_succ_eq_append_getElem hltj] at ht
                rcases List.mem_append.1 ht with q | q
                · exact HNJ.out t q
                · rw [List.mem_singleton.1 q]; exact g)
              have HNO := Lib.hid (show NumsOk p → NumOk ts[j] from fun g => HNK.out g _ (List.getElem_mem hltj))
              simp only at HNX
              clear e0 e1 e2 e3 htl hsz
              generalize ts[j] = t at *
              have HTT := Lib.hid (fun W hW => testText_any t W hW HTO.out)
              have hsz5 : ∀ hn : NumOk t, (bs (lineT t)).size ≤ 240 := fun hn => by rw [bs_size]; exact lineT_short HTO.out hn
              have HSZ5 := Lib.hid hsz5
              have HWJ := Lib.hid (fun W (hn : NumOk t) hW => write_it B (upT p i ⟨n, ts, gs⟩ j) (.tst t) W hW HUT.out.1 (okT HTO.out hn) (by have := HUT.out.2; omega))
              have hnq : NumOk t ↔ (decide ((-999999999999999999 : Int) ≤ t.num) && decide (t.num ≤ 999999999999999999)) = true := by
                unfold NumOk
                have hp18 : (10 : Nat) ^ 18 = 1000000000000000000 := by decide
                simp
                omega
              have HNQ := Lib.hid hnq
              clear hsz5 hnq
              obtain ⟨L, hL⟩ : ∃ L, bs (lineT t) = L := ⟨_, rfl⟩
              have HCAT := Lib.hid (show bs ((It.tst t).line ++ [10]) = L ++ ⟨#[10]⟩ by rw [← hL]; exact (bs_append _ [10]).symm)
              rw [HCAT.out] at HWJ
              rw [hL] at HTT HSZ5
              clear hL HCAT
              go_upto_region 19 with fail
              obtain ⟨bx, bbl⟩ := box1 wy #[.int .i64 t.fld, .int .i64 t.kind, .int .i64 t.num, .string t.text] 51
              have HJ4 := Lib.hid (show PcInv p (.slice pa p.pauses.length pc) (.slice (some ⟨b, of', none⟩) p.levs.length lc) w _ B i D ⟨n, ts, gs⟩ (.slice (some ⟨tb, to', none⟩) ts.length tc) (.slice ga gs.length gc) (upT p i ⟨n, ts, gs⟩ j) from ⟨HJ.out.b.below bbl, HJ.out.box.below bbl HJ.out.box.lt, HJ.out.lev.below bbl HJ.out.lev.lt, below_up HJ.out.below bbl HJ.out.below.size, HJ.out.base⟩)
              have m0 := bx.cell 0
              have m1 := bx.cell 1
              have m2 := bx.cell 2
              have m3 := bx.cell 3
              clear bx bbl c0 c1 c2 c3 HJ
              generalize wy.alloc (.cells #[.int .i64 t.fld, .int .i64 t.kind, .int .i64 t.num, .string t.text] 51) = wz at *
              generalize wy.heap.size = G at *
              cases hq : (decide ((-999999999999999999 : Int) ≤ t.num) && decide (t.num ≤ 999999999999999999)) with
              | false =>
                have HNE := Lib.hid (show ¬ NumsOk p from fun g => by have := HNQ.out.1 (HNO.out g); rw [hq] at this; cases this)
                clear HNN HNO HTT HSZ5 HWJ HNQ HNX
                go_wp2_with (go_at_call 11; refine (within_any _ _ _ _).mono ?_; rw [hq]; rintro e w' ⟨rfl, rfl⟩)
                go_ret2
                exact ⟨_, _, rfl, HJ4.out.below, fun _ => rfl, fun h => absurd h (by decide), fun _ h => absurd h HNE.out⟩
              | true =>
                have hno := HNQ.out.2 hq
                have HTJ := Lib.hid (fun W hW => HTT.out W hW hno)
                have HWK := Lib.hid (fun W hW => HWJ.out W hno hW)
                have hsz5 := HSZ5.out hno
                have HNN2 := Lib.hid (HNN.out hno)
                clear HTT HWJ HSZ5 HNN hno HNQ HNO
                go_wp2_with (go_at_call 11; refine (within_any _ _ _ _).mono ?_; rw [hq]; rintro e w' ⟨rfl, rfl⟩)
                refine (HTJ.out wz (HE.out.below HJ4.out.below)).mono ?_
                rintro e w5 ⟨rfl, hb5⟩
                have HJ5 := Lib.hid (show PcInv p (.slice pa p.pauses.length pc) (.slice (some ⟨b, of', none⟩) p.levs.length lc) w w5 B i D ⟨n, ts, gs⟩ (.slice (some ⟨tb, to', none⟩) ts.length tc) (.slice ga gs.length gc) (upT p i ⟨n, ts, gs⟩ j) from ⟨HJ4.out.b.below hb5, HJ4.out.box.below hb5 HJ4.out.box.lt, HJ4.out.lev.below hb5 HJ4.out.lev.lt, below_up HJ4.out.below hb5 HJ4.out.below.size, HJ4.out.base⟩)
                clear hb5 m0 m1 m2 m3 hq HJ4 HTJ
                go_wp2_with fail
                refine (HWK.out w5 HJ5.out.b).mono ?_
                rintro e w6 ⟨⟨n6, rfl⟩, hbu, hbb, hku⟩
                have HJ6 := Lib.hid (show PcInv p (.slice pa p.pauses.length pc) (.slice (some ⟨b, of', none⟩) p.levs.length lc) w w6 B i D ⟨n, ts, gs⟩ (.slice (some ⟨tb, to', none⟩) ts.length tc) (.slice ga gs.length gc) (upT p i ⟨n, ts, gs⟩ (j + 1)) from ⟨by rw [HNX.out]; exact hbu, HJ5.out.box.keepsU hku (by decide) hBne, HJ5.out.lev.keepsU hku (by decide) hDne, HJ5.out.below.trans (hbb.mono hBwl), HJ5.out.base⟩)
                clear hbu hbb hku HJ5 HWK hsz5
                go_wp2_with fail
                go_roundw
                case rel => exact ⟨j + 1, by go_num, hltj, HNN2.out, HJ6.out⟩
                case measure => simp [intOf]; omega
            · obtain rfl : j = ts.length := by omega
              have hnk := HNJ.out
              rw [List.take_length] at hnk
              have HNK2 := Lib.hid hnk
              have HNU2 := Lib.hid (HNU.out hnk)
              have HJ2 := Lib.hid (show PcInv p (.slice pa p.pauses.length pc) (.slice (some ⟨b, of', none⟩) p.levs.length lc) w wy B i D ⟨n, ts, gs⟩ (.slice ta ts.length tc) (.slice ga gs.length gc) (upG p i ⟨n, ts, gs⟩ 0) from ⟨by rw [← upT_all]; exact HJ.out.b, HJ.out.box, HJ.out.lev, HJ.out.below, HJ.out.base⟩)
              have m2 := HJ2.out.lev.cell 2
              have hg3 := tgt_few HLO.out.tgts
              simp only at hg3
              clear hnk HJ HNJ HNU HNK
              go_wp2_with fail
              go_loopw [65] (fun jv wy => ∃ j : Nat, jv = .int .i64 ((j : Nat) : Int) ∧ j ≤ gs.length ∧ PcInv p (.slice pa p.pauses.length pc) (.slice (some ⟨b, of', none⟩) p.levs.length lc) w wy B i D ⟨n, ts, gs⟩ (.slice ta ts.length tc) (.slice ga gs.length gc) (upG p i ⟨n, ts, gs⟩ j)) (fun jv _ => gs.length - (intOf jv).toNat)
              case atStart => exact ⟨0, rfl, Nat.zero_le _, HJ2.out⟩
              case round =>
                obtain ⟨j, rfl, hj, hJ⟩ := hrel
                rename World => wv
                have HJ := Lib.hid hJ
                clear hJ HJ2 m2
                by_cases hltj : j < gs.length
                · obtain ⟨tb, to', tcp, hv, htb, htcp, htl⟩ := Tgts.at HG.out (show 0 < gs.length by omega)
                  cases hv
                  obtain ⟨e0, e1, e2⟩ := htl j hltj
                  have c0 := (below_cell HJ.out.below htb).trans e0
                  have c1 := (below_cell HJ.out.below htb).trans e1
                  have c2 := (below_cell HJ.out.below htb).trans e2
                  have HTO := Lib.hid (show TgtOne gs[j] from HLO.out.tgts.each j hltj)
                  have HUG := Lib.hid (upG_ok (j := j) HOK.out HNM.out HLO.out HNK2.out)
                  have HNX := Lib.hid (upG_next p i (l := ⟨n, ts, gs⟩) hltj)
                  simp only at HNX
                  clear e0 e1 e2 htl
                  generalize gs[j] = t at *
                  obtain ⟨x1, x2, x3⟩ := t
                  have hone := HTO.out
                  unfold TgtOne at hone
                  simp only at c0 c1 c2 hone
                  obtain ⟨m, rfl⟩ : ∃ m : Nat, x1 = (m : Int) + 1 := ⟨(x1 - 1).toNat, by omega⟩
                  have hm3 : m < 3 := by omega
                  have HWJ := Lib.hid (fun W hW => write_it B (upG p i ⟨n, ts, gs⟩ j) (.tgt ((m : Int) + 1, x2, x3)) W hW HUG.out.1 (okG HTO.out) (by have := HUG.out.2; omega))
                  obtain ⟨kw, hkwd⟩ : ∃ kw, bs (tgtsL.getD m []) = kw := ⟨_, rfl⟩
                  have hkw : kw.size ≤ 5 := by
                    rw [← hkwd, bs_size]
                    have : m = 0 ∨ m = 1 ∨ m = 2 := by omega
                    rcases this with rfl | rfl | rfl <;> decide
                  have hz2 : (bs (Lib.itoa x2)).size ≤ 19 := by rw [bs_size]; exact itoa_short18 x2 (small18 (by omega))
                  have hz3 : (bs (Lib.itoa x3)).size ≤ 19 := by rw [bs_size]; exact itoa_short18 x3 (small18 (by omega))
                  have HCAT := Lib.hid (show bs ((It.tgt ((m : Int) + 1, x2, x3)).line ++ [10]) = ((((kw ++ ⟨#[32]⟩) ++ bs (Lib.itoa x2)) ++ ⟨#[32]⟩) ++ bs (Lib.itoa x3)) ++ ⟨#[10]⟩ from by
                    rw [← hkwd]
                    refine bs_inj ?_
                    show Lib.join [tgtsL.getD (((m : Int) + 1).toNat - 1) [], Lib.itoa x2, Lib.itoa x3] [32] ++ [10] = _
                    rw [show ((m : Int) + 1).toNat - 1 = m by omega]
                    simp [Lib.join_cons, Lib.joinTail, bs])
                  have HKWD := Lib.hid hkwd
                  clear hkwd
                  rw [HCAT.out] at HWJ
                  have HI2 := Lib.hid (fun W hW => itoa_any x2 (by omega) (by omega) W hW)
                  have HI3 := Lib.hid (fun W hW => itoa_any x3 (by omega) (by omega) W hW)
                  clear HCAT
                  go_upto_region 26 with fail
                  obtain ⟨bx, bbl⟩ := box1 wv #[.int .i64 ((m : Int) + 1), .int .i64 x2, .int .i64 x3] 55
                  have HJ4 := Lib.hid (show PcInv p (.slice pa p.pauses.length pc) (.slice (some ⟨b, of', none⟩) p.levs.length lc) w _ B i D ⟨n, ts, gs⟩ (.slice ta ts.length tc) (.slice (some ⟨tb, to', none⟩) gs.length gc) (upG p i ⟨n, ts, gs⟩ j) from ⟨HJ.out.b.below bbl, HJ.out.box.below bbl HJ.out.box.lt, HJ.out.lev.below bbl HJ.out.lev.lt, below_up HJ.out.below bbl HJ.out.below.size, HJ.out.base⟩)
                  have HBX := Lib.hid bx
                  have hBG : B < wv.heap.size := HJ.out.b.lt
                  clear bx bbl c0 c1 c2 HJ
                  generalize wv.alloc (.cells #[.int .i64 ((m : Int) + 1), .int .i64 x2, .int .i64 x3] 55) = wz at *
                  generalize wv.heap.size = G at *
                  have hGne : G ≠ B := by omega
                  have hS0 : (fun W : World => W.cell? ⟨G, 0, none⟩ = some (.int .i64 ((m : Int) + 1)) ∧ W.cell? ⟨G, 1, none⟩ = some (.int .i64 x2) ∧ W.cell? ⟨G, 2, none⟩ = some (.int .i64 x3)) wz.drew := ⟨HBX.out.cell 0, HBX.out.cell 1, HBX.out.cell 2⟩
                  refine anyT_start (S := fun W : World => W.cell? ⟨G, 0, none⟩ = some (.int .i64 ((m : Int) + 1)) ∧ W.cell? ⟨G, 1, none⟩ = some (.int .i64 x2) ∧ W.cell? ⟨G, 2, none⟩ = some (.int .i64 x3)) (t := 18) (by kernel_rfl) ?_
                  have hbd := (Below.refl wz.heap.size wz).drew
                  have HJD := Lib.hid (show PcInv p (.slice pa p.pauses.length pc) (.slice (some ⟨b, of', none⟩) p.levs.length lc) w wz.drew B i D ⟨n, ts, gs⟩ (.slice ta ts.length tc) (.slice (some ⟨tb, to', none⟩) gs.length gc) (upG p i ⟨n, ts, gs⟩ j) from ⟨HJ4.out.b.below hbd, HJ4.out.box.below hbd HJ4.out.box.lt, HJ4.out.lev.below hbd HJ4.out.lev.lt, below_up HJ4.out.below hbd HJ4.out.below.size, HJ4.out.base⟩)
                  have HXD := Lib.hid (HBX.out.below hbd HBX.out.lt)
                  clear hbd HJ4 HBX
                  generalize wz.drew = wd at *
                  have w1m : IntKind.i64.wrap (m : Int) = (m : Int) := IntWalk.i64_in _ (by omega)
                  have hm3i : (m : Int) < 3 := by omega
                  refine takeS (i := 1) (v := ?_) rfl rfl (by kernel_rfl) (by kernel_rfl) (by kernel_rfl) (fun _ _ _ h => h) (by decide) (by kernel_rfl) ?_ hS0 ?_
                  rotate_left
                  · intro w hSw; (try dsimp only at hSw); go_simp; (try with_reducible rfl)
                  simp only [List.setIfInBounds_toArray, List.set_cons_zero, List.set_cons_succ]
                  refine takeS (i := 2) (v := ?_) rfl rfl (by kernel_rfl) (by kernel_rfl) (by kernel_rfl) (fun _ _ _ h => h) (by decide) (by kernel_rfl) ?_ hS0 ?_
                  rotate_left
                  · intro w hSw; (try dsimp only at hSw); go_simp; (try with_reducible rfl)
                  simp only [List.setIfInBounds_toArray, List.set_cons_zero, List.set_cons_succ]
                  refine takeS (i := 3) (v := .int .i64 (m : Int)) rfl rfl (by kernel_rfl) (by kernel_rfl) (by kernel_rfl) (fun _ _ _ h => h) (by decide) (by kernel_rfl) ?_ hS0 ?_
                  · intro w hSw; (try dsimp only at hSw); go_simp; try rw [w1m]
                  simp only [List.setIfInBounds_toArray, List.set_cons_zero, List.set_cons_succ]
                  refine takeS (i := 7) (v := ?_) rfl rfl (by kernel_rfl) (by kernel_rfl) (by kernel_rfl) (fun _ _ _ h => h) (by decide) (by kernel_rfl) ?_ hS0 ?_
                  rotate_left
                  · intro w hSw; (try dsimp only at hSw); go_simp; (try with_reducible rfl)
                  simp only [List.setIfInBounds_toArray, List.set_cons_zero, List.set_cons_succ]
                  refine takeS (i := 8) (v := ?_) rfl rfl (by kernel_rfl) (by kernel_rfl) (by kernel_rfl) (fun _ _ _ h => h) (by decide) (by kernel_rfl) ?_ hS0 ?_
                  rotate_left
                  · intro w hSw; (try dsimp only at hSw); go_simp; (try with_reducible rfl)
                  simp only [List.setIfInBounds_toArray, List.set_cons_zero, List.set_cons_succ]
                  refine takeS (i := 12) (v := ?_) rfl rfl (by kernel_rfl) (by kernel_rfl) (by kernel_rfl) (fun _ _ _ h => h) (by decide) (by kernel_rfl) ?_ hS0 ?_
                  rotate_left
                  · intro w hSw; (try dsimp only at hSw); go_simp; (try with_reducible rfl)
                  simp only [List.setIfInBounds_toArray, List.set_cons_zero, List.set_cons_succ]
                  refine takeS (i := 13) (v := ?_) rfl rfl (by kernel_rfl) (by kernel_rfl) (by kernel_rfl) (fun _ _ _ h => h) (by decide) (by kernel_rfl) ?_ hS0 ?_
                  rotate_left
                  · intro w hSw; (try dsimp only at hSw); go_simp; (try with_reducible rfl)
                  simp only [List.setIfInBounds_toArray, List.set_cons_zero, List.set_cons_succ]
                  refine oneT (i := 0) rfl (by kernel_rfl) (fun K hK => ?_)
                  go_simp
                  refine (targetWords_any wd).mono ?_
                  rintro e we ⟨rfl, hb6, hw6⟩
                  have HCW := Lib.hid (fun W (q : WordsB W wd.heap.size tgtsL) => (show W.cell? ⟨wd.heap.size, m, none⟩ = some (.string kw) from by rw [q.cell m hm3, HKWD.out]))
                  have HKB := Lib.hid hw6
                  have HJ6 := Lib.hid (show PcInv p (.slice pa p.pauses.length pc) (.slice (some ⟨b, of', none⟩) p.levs.length lc) w we B i D ⟨n, ts, gs⟩ (.slice ta ts.length tc) (.slice (some ⟨tb, to', none⟩) gs.length gc) (upG p i ⟨n, ts, gs⟩ j) from ⟨HJD.out.b.below hb6, HJD.out.box.below hb6 HJD.out.box.lt, HJD.out.lev.below hb6 HJD.out.lev.lt, below_up HJD.out.below hb6 HJD.out.below.size, HJD.out.base⟩)
                  have HX6 := Lib.hid (HXD.out.below hb6 HXD.out.lt)
                  have hBK : B < wd.heap.size := HJD.out.b.lt
                  clear hb6 hw6 HJD HXD
                  generalize wd.heap.size = Kb at *
                  have hKne : Kb ≠ B := by omega
                  have hS1 : (fun W : World => W.cell? ⟨G, 0, none⟩ = some (.int .i64 ((m : Int) + 1)) ∧ W.cell? ⟨G, 1, none⟩ = some (.int .i64 x2) ∧ W.cell? ⟨G, 2, none⟩ = some (.int .i64 x3)) we := ⟨HX6.out.cell 0, HX6.out.cell 1, HX6.out.cell 2⟩
                  have hS2 : (fun W : World => (W.cell? ⟨G, 0, none⟩ = some (.int .i64 ((m : Int) + 1)) ∧ W.cell? ⟨G, 1, none⟩ = some (.int .i64 x2) ∧ W.cell? ⟨G, 2, none⟩ = some (.int .i64 x3)) ∧ W.cell? ⟨Kb, m, none⟩ = some (.string kw)) we := ⟨⟨HX6.out.cell 0, HX6.out.cell 1, HX6.out.cell 2⟩, HCW.out _ HKB.out⟩
                  refine hK.out _ _ (fun _ => hS1) ?_
                  clear hK
                  try simp only [List.setIfInBounds_toArray, List.set_cons_zero, List.set_cons_succ, Act.put]
                  refine anyT_imp (S2 := fun W : World => (W.cell? ⟨G, 0, none⟩ = some (.int .i64 ((m : Int) + 1)) ∧ W.cell? ⟨G, 1, none⟩ = some (.int .i64 x2) ∧ W.cell? ⟨G, 2, none⟩ = some (.int .i64 x3)) ∧ W.cell? ⟨Kb, m, none⟩ = some (.string kw)) (fun _ q => q.1) _ ?_
                  refine takeS (i := 4) (v := ?_) rfl rfl (by kernel_rfl) (by kernel_rfl) (by kernel_rfl) (fun _ _ _ h => h) (by decide) (by kernel_rfl) ?_ hS2 ?_
                  rotate_left
                  · intro w hSw; (try dsimp only at hSw); go_simp; (try with_reducible rfl)
                  simp only [List.setIfInBounds_toArray, List.set_cons_zero, List.set_cons_succ]
                  refine takeS (i := 5) (v := ?_) rfl rfl (by kernel_rfl) (by kernel_rfl) (by kernel_rfl) (fun _ _ _ h => h) (by decide) (by kernel_rfl) ?_ hS2 ?_
                  rotate_left
                  · intro w hSw; (try dsimp only at hSw); go_simp; (try with_reducible rfl)
                  simp only [List.setIfInBounds_toArray, List.set_cons_zero, List.set_cons_succ]
                  refine takeS (i := 6) (v := .string (kw ++ ⟨#[32]⟩)) rfl rfl (by kernel_rfl) (by kernel_rfl) (by kernel_rfl) (fun _ _ _ h => h) (by decide) (by kernel_rfl) ?_ hS2 ?_
                  · intro w hSw; (try dsimp only at hSw); go_simp; first | (with_reducible rfl) | omega | (rw [if_neg (by omega)]) | (rw [if_neg (by simp only [ByteArray.size_append]; omega)]) | (rw [if_neg (by simp; omega)])
                  simp only [List.setIfInBounds_toArray, List.set_cons_zero, List.set_cons_succ]
                  refine oneT (i := 9) rfl (by kernel_rfl) (fun K hK => ?_)
                  go_simp
                  refine (HI2.out we (HE.out.below HJ6.out.below)).mono ?_
                  rintro e wf ⟨rfl, hb7⟩
                  have HJ7 := Lib.hid (show PcInv p (.slice pa p.pauses.length pc) (.slice (some ⟨b, of', none⟩) p.levs.length lc) w wf B i D ⟨n, ts, gs⟩ (.slice ta ts.length tc) (.slice (some ⟨tb, to', none⟩) gs.length gc) (upG p i ⟨n, ts, gs⟩ j) from ⟨HJ6.out.b.below hb7, HJ6.out.box.below hb7 HJ6.out.box.lt, HJ6.out.lev.below hb7 HJ6.out.lev.lt, below_up HJ6.out.below hb7 HJ6.out.below.size, HJ6.out.base⟩)
                  have HX7 := Lib.hid (HX6.out.below hb7 HX6.out.lt)
                  have HK7 := Lib.hid (HKB.out.below hb7 (Has.lt HKB.out))
                  have hS3 : (fun W : World => (W.cell? ⟨G, 0, none⟩ = some (.int .i64 ((m : Int) + 1)) ∧ W.cell? ⟨G, 1, none⟩ = some (.int .i64 x2) ∧ W.cell? ⟨G, 2, none⟩ = some (.int .i64 x3)) ∧ W.cell? ⟨Kb, m, none⟩ = some (.string kw)) wf := ⟨⟨HX7.out.cell 0, HX7.out.cell 1, HX7.out.cell 2⟩, HCW.out _ HK7.out⟩
                  clear hb7 HJ6 HX6 HKB
                  refine hK.out _ _ (fun _ => hS3) ?_
                  clear hK
                  try simp only [List.setIfInBounds_toArray, List.set_cons_zero, List.set_cons_succ, Act.put]
                  refine takeS (i := 10) (v := .string ((kw ++ ⟨#[32]⟩) ++ bs (Lib.itoa x2))) rfl rfl (by kernel_rfl) (by kernel_rfl) (by kernel_rfl) (fun _ _ _ h => h) (by decide) (by kernel_rfl) ?_ hS3 ?_
                  · intro w hSw; (try dsimp only at hSw); go_simp; first | (with_reducible rfl) | omega | (rw [if_neg (by omega)]) | (rw [if_neg (by simp only [ByteArray.size_append]; omega)]) | (rw [if_neg (by simp; omega)])
                  simp only [List.setIfInBounds_toArray, List.set_cons_zero, List.set_cons_succ]
                  refine takeS (i := 11) (v := .string (((kw ++ ⟨#[32]⟩) ++ bs (Lib.itoa x2)) ++ ⟨#[32]⟩)) rfl rfl (by kernel_rfl) (by kernel_rfl) (by kernel_rfl) (fun _ _ _ h => h) (by decide) (by kernel_rfl) ?_ hS3 ?_
                  · intro w hSw; (try dsimp only at hSw); go_simp; first | (with_reducible rfl) | omega | (rw [if_neg (by omega)]) | (rw [if_neg (by simp only [ByteArray.size_append]; omega)]) | (rw [if_neg (by simp; omega)])
                  simp only [List.setIfInBounds_toArray, List.set_cons_zero, List.set_cons_succ]
                  refine oneT (i := 14) rfl (by kernel_rfl) (fun K hK => ?_)
                  go_simp
                  refine (HI3.out wf (HE.out.below HJ7.out.below)).mono ?_
                  rintro e wg ⟨rfl, hb8⟩
                  have HJ8 := Lib.hid (show PcInv p (.slice pa p.pauses.length pc) (.slice (some ⟨b, of', none⟩) p.levs.length lc) w wg B i D ⟨n, ts, gs⟩ (.slice ta ts.length tc) (.slice (some ⟨tb, to', none⟩) gs.length gc) (upG p i ⟨n, ts, gs⟩ j) from ⟨HJ7.out.b.below hb8, HJ7.out.box.below hb8 HJ7.out.box.lt, HJ7.out.lev.below hb8 HJ7.out.lev.lt, below_up HJ7.out.below hb8 HJ7.out.below.size, HJ7.out.base⟩)
                  have HX8 := Lib.hid (HX7.out.below hb8 HX7.out.lt)
                  have HK8 := Lib.hid (HK7.out.below hb8 (Has.lt HK7.out))
                  have hS4 : (fun W : World => (W.cell? ⟨G, 0, none⟩ = some (.int .i64 ((m : Int) + 1)) ∧ W.cell? ⟨G, 1, none⟩ = some (.int .i64 x2) ∧ W.cell? ⟨G, 2, none⟩ = some (.int .i64 x3)) ∧ W.cell? ⟨Kb, m, none⟩ = some (.string kw)) wg := ⟨⟨HX8.out.cell 0, HX8.out.cell 1, HX8.out.cell 2⟩, HCW.out _ HK8.out⟩
                  clear hb8 HJ7 HX7 HK7
                  refine hK.out _ _ (fun _ => hS4) ?_
                  clear hK
                  try simp only [List.setIfInBounds_toArray, List.set_cons_zero, List.set_cons_succ, Act.put]
                  refine oneT (i := 15) rfl (by kernel_rfl) (fun K hK => ?_)
                  go_simp
                  rw [if_neg (by omega)]
                  go_simp
                  refine hK.out _ _ (fun _ => hS4) ?_
                  clear hK
                  try simp only [List.setIfInBounds_toArray, List.set_cons_zero, List.set_cons_succ, Act.put]
                  refine oneT (i := 16) rfl (by kernel_rfl) (fun K hK => ?_)
                  go_simp
                  rw [if_neg (by omega)]
                  go_simp
                  refine hK.out _ _ (fun _ => hS4) ?_
                  clear hK
                  try simp only [List.setIfInBounds_toArray, List.set_cons_zero, List.set_cons_succ, Act.put]
                  refine oneT (i := 17) rfl (by kernel_rfl) (fun K hK => ?_)
                  go_simp
                  refine (HWJ.out wg HJ8.out.b).mono ?_
                  rintro e w6 ⟨⟨n6, rfl⟩, hbu, hbb, hku⟩
                  have HJ9 := Lib.hid (show PcInv p (.slice pa p.pauses.length pc) (.slice (some ⟨b, of', none⟩) p.levs.length lc) w w6 B i D ⟨n, ts, gs⟩ (.slice ta ts.length tc) (.slice (some ⟨tb, to', none⟩) gs.length gc) (upG p i ⟨n, ts, gs⟩ (j + 1)) from ⟨by rw [HNX.out]; exact hbu, HJ8.out.box.keepsU hku (by decide) hBne, HJ8.out.lev.keepsU hku (by decide) hDne, HJ8.out.below.trans (hbb.mono hBwl), HJ8.out.base⟩)
                  have hX9 := HX8.out.keepsU hku (by decide) hGne
                  have hK9 : WordsB w6 Kb tgtsL := Has.keepsU HK8.out hku (by decide) hKne
                  have hS5 : (fun W : World => (W.cell? ⟨G, 0, none⟩ = some (.int .i64 ((m : Int) + 1)) ∧ W.cell? ⟨G, 1, none⟩ = some (.int .i64 x2) ∧ W.cell? ⟨G, 2, none⟩ = some (.int .i64 x3)) ∧ W.cell? ⟨Kb, m, none⟩ = some (.string kw)) w6 := ⟨⟨hX9.cell 0, hX9.cell 1, hX9.cell 2⟩, HCW.out _ hK9⟩
                  refine hK.out _ _ (fun _ => hS5) ?_
                  clear hK hX9 hK9 hbu hbb hku
                  refine doneT (by kernel_rfl) ?_ _
                  clear hS0 hS1 hS2 hS3 hS4 hS5 HCW HJ8 HX8 HK8 hkw hz2 hz3 HWJ HI2 HI3
                  go_wp2_with fail
                  go_roundw
                  case rel => exact ⟨j + 1, by go_num, hltj, HJ9.out⟩
                  case measure => simp [intOf]; omega
                · obtain rfl : j = gs.length := by omega
                  have HIN := Lib.hid (show PbInv p (.slice pa p.pauses.length pc) (.slice (some ⟨b, of', none⟩) p.levs.length lc) w wv B (i + 1) from ⟨hlt, by rw [← HALL.out]; exact HJ.out.b, HNU2.out, HJ.out.box, HJ.out.below⟩)
                  clear HJ
                  go_wp2_with fail
                  go_roundw
                  case rel => exact ⟨i + 1, by go_num, HIN.out⟩
                  case measure => simp [intOf]; omega
        · have ql : decide ((i : Int) < (p.levs.length : Int)) = false := decide_eq_false (by omega)
          obtain rfl : i = p.levs.length := by omega
          have hbt := HI.out.b
          have hnn := HI.out.nums
          have hft : upI p p.levs.length = polIts p := by
            unfold upI polIts
            rw [List.take_length]
          unfold NumsUp at hnn
          rw [List.take_length] at hnn
          rw [hft] at hbt
          have HNN := Lib.hid (show NumsOk p from hnn)
          have HST := Lib.hid (Tryd.Builder_String_any B B _ wx hbt (Nat.le_of_lt hbt.lt))
          obtain ⟨T, hT⟩ : ∃ T, textI (polIts p) = T := ⟨_, rfl⟩
          have HT := Lib.hid hT
          rw [hT] at HST
          clear hbt hT hnn hft
          go_wp2_with fail
          refine HST.out.mono ?_
          rintro e w8 ⟨rfl, hb8⟩
          have HPO := Lib.hid (show PtPost p w (.returned (.tuple #[.string ⟨T.toArray⟩, .int .i64 0])) w8 from ⟨_, _, rfl, HI.out.below.trans (hb8.mono hBwl), fun h => absurd rfl h, fun _ => ⟨HF.out, HNN.out, by rw [HT.out]; rfl⟩, fun _ _ => rfl⟩)
          clear hb8
          go_wp2_with fail
          go_ret2
          exact HPO.out
end Go.Proofs.YtfcjbjkciefbmaaDoor
