/- The walk of level.Clocks. -/
import Derived.Test.YtllcgcnebofdoaaGreatDoorQCkPnt
import Derived.Test.YtllcgcnebofdoaaGreatDoorQPoChk3
namespace Go.Proofs.YtllcgcnebofdoaaGreatDoor
open Go.RowKit

def lastSt (b : Option Int) (l : List PntD) : Option Int := match l.getLast? with | none => b | some x => some x.status
theorem keepFrom_snoc (p : PolD) : ∀ (l : List PntD) (b : Option Int) (k : KepD) (x : PntD), keepFrom p b k (l ++ [x]) = pointF p x (lastSt b l) (keepFrom p b k l)
  | [], _, _, _ => rfl
  | y :: r, b, k, x => by
    show keepFrom p (some y.status) (pointF p y b k) (r ++ [x]) = _
    rw [keepFrom_snoc p r]
    have e : lastSt (some y.status) r = lastSt b (y :: r) := by
      unfold lastSt
      rw [List.getLast?_cons]
      cases r.getLast? <;> rfl
    rw [e]
    rfl
def keepTo (p : PolD) (l : List PntD) (i : Nat) : KepD := keepFrom p none ⟨-1, []⟩ (l.take i)
theorem keepTo_one (p : PolD) (l : List PntD) (h : 0 < l.length) : keepTo p l 1 = pointF p l[0] none (keepTo p l 0) := by
  unfold keepTo
  rw [List.take_succ_eq_append_getElem h, keepFrom_snoc]
  rfl
theorem keepTo_succ (p : PolD) (l : List PntD) (i : Nat) (h0 : 0 < i) (h : i < l.length) : keepTo p l (i + 1) = pointF p l[i] (some (l[i - 1]'(by omega)).status) (keepTo p l i) := by
  unfold keepTo
  rw [List.take_succ_eq_append_getElem h, keepFrom_snoc]
  congr 1
  unfold lastSt
  have e : (l.take i).getLast? = some (l[i - 1]'(by omega)) := by
    rw [List.getLast?_eq_getElem?, List.length_take, Nat.min_eq_left (by omega), List.getElem?_take, if_pos (by omega), List.getElem?_eq_getElem (by omega)]
  rw [e]
theorem keepTo_ok (p : PolD) (l : List PntD) : ∀ i, i ≤ l.length → KepOk p (2 * i) (3 * i) (keepTo p l i)
  | 0, _ => ⟨⟨by show (-1 : Int) ≤ -1; decide, by show (-1 : Int) < _; omega⟩, fun r h => absurd h (by simp [keepTo, keepFrom]), by simp [keepTo, keepFrom]⟩
  | i + 1, h => by
    have ih := keepTo_ok p l i (by omega)
    by_cases h0 : i = 0
    · subst h0
      rw [keepTo_one p l (by omega)]
      exact pointF_ok ih _ _
    · rw [keepTo_succ p l i (by omega) (by omega)]
      exact (pointF_ok ih _ _).up (by omega) (by omega)
theorem keepTo_all (p : PolD) (l : List PntD) : (keepTo p l l.length).run.map (·.c) = clocksF p l := by
  unfold keepTo clocksF
  rw [List.take_length]

/-- clocks in memory -/
def clkR (w : World) (cs : List Value) (c : ClkD) : Prop := ∃ vps, cs = (clkV c vps).toList ∧ Shifts w vps c.ps
theorem clkR_stable : Stable clkR := fun _ _ _ _ ⟨v, h1, h2⟩ hb => ⟨v, h1, h2.below hb⟩
def Clks (w : World) (v : Value) (l : List ClkD) : Prop := SliceAt 7 clkR w v l
theorem Clks.below {w w' : World} {v : Value} {l : List ClkD} (h : Clks w v l) (hb : Below w.heap.size w w') : Clks w' v l := SliceAt.stable clkR_stable h hb
theorem Clks.at {w : World} {v : Value} {l : List ClkD} (h : Clks w v l) (hl : 0 < l.length) : ∃ b off cap, v = .slice (some ⟨b, off, none⟩) l.length cap ∧ b < w.heap.size ∧
    ∀ i (hi : i < l.length), ∃ vps, (w.cell? ⟨b, off + i * 7, none⟩ = some (.int .i64 l[i].kind) ∧ w.cell? ⟨b, off + i * 7 + 1, none⟩ = some (.int .i64 l[i].lev) ∧ w.cell? ⟨b, off + i * 7 + 2, none⟩ = some (.int .i64 l[i].min) ∧
      w.cell? ⟨b, off + i * 7 + 3, none⟩ = some (.int .i64 l[i].start) ∧ w.cell? ⟨b, off + i * 7 + 4, none⟩ = some (.int .i64 l[i].stop) ∧ w.cell? ⟨b, off + i * 7 + 5, none⟩ = some (.int .i64 l[i].fin) ∧ w.cell? ⟨b, off + i * 7 + 6, none⟩ = some vps) ∧ Shifts w vps l[i].ps := by
  obtain ⟨b, off, cap, hv, hc, hb, hel⟩ := SliceAt.at h hl
  refine ⟨b, off, cap, hv, hb, fun i hi => ?_⟩
  obtain ⟨cs, ⟨_, h2⟩, vps, hr, hs⟩ := hel i hi
  cases hr
  exact ⟨vps, ⟨h2 0 (by simp [clkV]), h2 1 (by simp [clkV]), h2 2 (by simp [clkV]), h2 3 (by simp [clkV]), h2 4 (by simp [clkV]), h2 5 (by simp [clkV]), h2 6 (by simp [clkV])⟩, hs⟩
theorem SliceAt.mapped {α β : Type} {sz : Nat} {R : World → List Value → β → Prop} {w : World} {v : Value} {l : List α} (g : α → β) (h : SliceAt sz (fun w cs x => R w cs (g x)) w v l) : SliceAt sz R w v (l.map g) := by
  rcases h with ⟨a, cap, rfl, rfl⟩ | ⟨b, off, cap, rfl, hcp, hbl, h⟩
  · exact .inl ⟨a, cap, rfl, rfl⟩
  · refine .inr ⟨b, off, cap, by rw [List.length_map], by rw [List.length_map]; exact hcp, hbl, fun i hi => ?_⟩
    have hi' : i < l.length := by simpa using hi
    obtain ⟨cs, h1, h2⟩ := h i hi'
    exact ⟨cs, h1, by rw [List.getElem_map]; exact h2⟩
def encRc (x : Rc) : List Value := (clkV x.2.2.c x.2.1).toList
theorem clks_of {w : World} {B B2 K : Nat} {vp vl vk v : Value} {lev : Int} {l : List Rc} (h : KM w B K vp vl lev vk l) (ho : w.ownsRow B2 34 7 v l.length (l.flatMap encRc)) : Clks w v ((runsOf l).map (·.c)) := by
  have e : (runsOf l).map (·.c) = l.map fun x => x.2.2.c := by simp [runsOf]
  rw [e]
  refine SliceAt.mapped (fun x : Rc => x.2.2.c) (slice_of_owns encRc ho (fun _ _ => rfl) (fun x hx => ?_))
  obtain ⟨i, hi, rfl⟩ := List.mem_iff_getElem.1 hx
  exact ⟨_, rfl, slice_of_owns encPc (h.has i hi).ps (fun _ _ => rfl) (fun _ _ => rfl)⟩
theorem infoClk : (Tryz.prog.info? 34).map (fun i => (i.zero, i.size, i.bytes)) = some (some (.agg #[.int .i64 0, .int .i64 0, .int .i64 0, .int .i64 0, .int .i64 0, .int .i64 0, .slice none 0 0]), 7, 72) := by kernel_rfl

structure CsI (p : PolD) (l : List PntD) (w2 wr : World) (B K : Nat) (vp vl : Value) (i : Nat) : Prop where
  le : i ≤ l.length
  mem : ∃ vk l', KM wr B K vp vl (keepTo p l i).lev vk l' ∧ runsOf l' = (keepTo p l i).run
  below : Below B w2 wr
def ClocksPost (p : PolD) (l : List PntD) (w : World) (e : Ending) (w' : World) : Prop :=
  ∃ v k, e = .returned (.tuple #[v, .int .i64 k]) ∧ Below w.heap.size w w' ∧ (k = 0 ↔ PolOk p ∧ HistOk l) ∧ (k ≠ 0 → v = .slice none 0 0) ∧ (k = 0 → Clks w' v (clocksF p l))

set_option maxRecDepth 100000 in
set_option maxHeartbeats 16000000 in
theorem Clocks_any (p : PolD) (l : List PntD) (vp vl v : Value) (w : World) (hP : PolAt w vp vl p) (h : Pnts w v l) :
    Calls Tryz.prog 7 #[.agg #[vp, vl], v] w (ClocksPost p l w) := by
  obtain ⟨a, cap, rfl⟩ := SliceAt.len h
  obtain ⟨x1, x2⟩ := box1 w #[vp, vl] 25
  have HX := Lib.hid x1
  have HB := Lib.hid x2
  have HP := Lib.hid (hP.below x2)
  have HL := Lib.hid (h.below x2)
  clear x1 x2 hP h
  go_enter Tryz.func7, Tryz.ntmps7
  go_upto_region 1 with fail
  generalize w.alloc (.cells #[vp, vl] 25) = w1 at *
  have p0 := HX.out.cell 0
  have p1 := HX.out.cell 1
  have HCP := Lib.hid (CheckPolicy_any p vp vl w1 HP.out)
  go_wp2_with fail
  refine HCP.out.mono ?_
  rintro e wa ⟨⟨k1, rfl, hk1⟩, hba⟩
  have HK1 := Lib.hid hk1
  have HBA := Lib.hid (below_up' HB.out hba)
  have HXA := Lib.hid (HX.out.below hba HX.out.lt)
  have HPA := Lib.hid (HP.out.below hba)
  have HLA := Lib.hid (HL.out.below hba)
  clear hk1 hba HCP HX HB HP HL p0 p1
  by_cases hz : k1 = 0
  rotate_left
  · have qz : (k1 == 0) = false := by simpa using hz
    have qz2 : (k1 != 0) = true := by simpa using hz
    have HZ := Lib.hid hz
    clear hz
    go_wp2_with fail
    go_ret2
    exact ⟨_, _, rfl, HBA.out, ⟨fun g => absurd g HZ.out, fun g => absurd (HK1.out.2 g.1) HZ.out⟩, fun _ => rfl, fun g => absurd g HZ.out⟩
  subst hz
  have HPO := Lib.hid (HK1.out.1 rfl)
  clear HK1
  have HCH := Lib.hid (CheckHistory_any l _ wa HLA.out)
  go_wp2_with fail
  refine HCH.out.mono ?_
  rintro e wb ⟨⟨k2, rfl, hk2⟩, hbb⟩
  have HK2 := Lib.hid hk2
  have HBB := Lib.hid (below_up' HBA.out hbb)
  have HXB := Lib.hid (HXA.out.below hbb HXA.out.lt)
  have HPB := Lib.hid (HPA.out.below hbb)
  have HLB := Lib.hid (HLA.out.below hbb)
  clear hk2 hbb HCH HXA HBA HPA HLA
  by_cases hz : k2 = 0
  rotate_left
  · have qz : (k2 == 0) = false := by simpa using hz
    have qz2 : (k2 != 0) = true := by simpa using hz
    have HZ := Lib.hid hz
    clear hz
    go_wp2_with fail
    go_ret2
    exact ⟨_, _, rfl, HBB.out, ⟨fun g => absurd g HZ.out, fun g => absurd (HK2.out.2 g.2) HZ.out⟩, fun _ => rfl, fun g => absurd g HZ.out⟩
  subst hz
  have HHO := Lib.hid (HK2.out.1 rfl)
  clear HK2
  have p0 := HXB.out.cell 0
  have p1 := HXB.out.cell 1
  have hl6 : l.length ≤ 6000 := HHO.out.few
  go_upto_region 8 with fail
  obtain ⟨y1, y2⟩ := box1 wb #[vp, vl, .int .i64 (-1), .slice none 0 0] 67
  have HB0 := Lib.hid (show Below wb.heap.size wb (wb.alloc (.cells #[vp, vl, .int .i64 (-1), .slice none 0 0] 67)) from y2)
  have HKM := Lib.hid (show KM (wb.alloc (.cells #[vp, vl, .int .i64 (-1), .slice none 0 0] 67)) wb.heap.size wb.heap.size vp vl (keepTo p l 0).lev (.slice none 0 0) [] from
    ⟨y1, World.ownsRow_nil _ _ _ _, fun i hi => absurd hi (by simp), fun i _ hi => absurd hi (by simp), fun i _ hi => absurd hi (by simp), Nat.le_refl _⟩)
  have hBb : w1.heap.size ≤ w1.heap.size := Nat.le_refl _
  clear y1 y2 p0 p1 HXB hBb
  generalize wb.alloc (.cells #[vp, vl, .int .i64 (-1), .slice none 0 0] 67) = wc at *
  have HRO := Lib.hid (show Pnts wb (.slice a l.length cap) l → 0 < l.length → ∃ b off, a = some ⟨b, off, none⟩ ∧ b < wb.heap.size ∧
    ∀ i (hi : i < l.length), ∃ vv, (wb.cell? ⟨b, off + i * 6, none⟩ = some (.int .i64 l[i].at') ∧ wb.cell? ⟨b, off + i * 6 + 1, none⟩ = some (.int .i64 l[i].kind) ∧ wb.cell? ⟨b, off + i * 6 + 2, none⟩ = some (.int .i64 l[i].who) ∧
      wb.cell? ⟨b, off + i * 6 + 3, none⟩ = some (.int .i64 l[i].status) ∧ wb.cell? ⟨b, off + i * 6 + 4, none⟩ = some (.int .i64 l[i].prio) ∧ wb.cell? ⟨b, off + i * 6 + 5, none⟩ = some vv) ∧ Vals wb vv l[i].vals from fun g hl => by
    obtain ⟨b, off, cap', hv, hb, hel⟩ := Pnts.at g hl
    cases hv
    exact ⟨b, off, rfl, hb, hel⟩)
  go_wp2_with fail
  go_loopw [29] (fun iv wr => ∃ i : Nat, iv = .int .i64 ((i : Nat) : Int) ∧ CsI p l wb wr wb.heap.size wb.heap.size vp vl i) (fun iv _ => l.length - (intOf iv).toNat)
  case atStart => exact ⟨0, rfl, Nat.zero_le _, ⟨_, [], HKM.out, rfl⟩, HB0.out⟩
  case round =>
    obtain ⟨i, rfl, hI⟩ := hrel
    have HI := Lib.hid hI
    have hi := hI.le
    clear hI
    by_cases hlt : i < l.length
    · obtain ⟨b, of', rfl, hb, hel⟩ := HRO.out HLB.out (by omega)
      obtain ⟨vv, ⟨e0, e1, e2, e3, e4, e5⟩, hvv⟩ := hel i hlt
      obtain ⟨va, vc, rfl⟩ := SliceAt.len hvv
      have hbr := Nat.lt_of_lt_of_le hb HI.out.below.size
      have c0 := (below_cell HI.out.below hb).trans e0
      have c1 := (below_cell HI.out.below hb).trans e1
      have c2 := (below_cell HI.out.below hb).trans e2
      have c3 := (below_cell HI.out.below hb).trans e3
      have c4 := (below_cell HI.out.below hb).trans e4
      have c5 := (below_cell HI.out.below hb).trans e5
      have HVV := Lib.hid hvv
      have HE := Lib.hid hel
      have HVL := Lib.hid (show (l[i]).vals.length ≤ 20 from (HHO.out.pts.each i hlt).vals)
      have HKO := Lib.hid (keepTo_ok p l i hi)
      have HK1 := Lib.hid (fun g : i = 0 => (show keepTo p l (i + 1) = pointF p l[i] none (keepTo p l i) from by subst g; exact keepTo_one p l hlt))
      have HK2 := Lib.hid (fun g : 0 < i => keepTo_succ p l i g hlt)
      obtain ⟨vk, l', hM, hR⟩ := HI.out.mem
      have HM := Lib.hid hM
      have HR := Lib.hid hR
      have hrs : wb.heap.size ≤ wr.heap.size := HI.out.below.size
      have HBF := Lib.hid (fun g : 0 < i => (show BefAt wb (.pointer (some ⟨b, of' + (i - 1) * 6, none⟩)) (some (l[i - 1]'(by omega)).status) from by
        obtain ⟨_, h1, _⟩ := hel (i - 1) (by omega)
        exact ⟨b, of' + (i - 1) * 6, rfl, h1.2.2.2.1, hb⟩))
      clear e0 e1 e2 e3 e4 e5 hel hvv hM hR HE
      generalize l[i] = t at *
      go_upto_region 11 with fail
      obtain ⟨bx, bbl⟩ := box1 wr #[.int .i64 t.at', .int .i64 t.kind, .int .i64 t.who, .int .i64 t.status, .int .i64 t.prio, .slice va t.vals.length vc] 43
      have HB4 := Lib.hid (HI.out.below.trans (bbl.mono hrs))
      have HM4 := Lib.hid (HM.out.below bbl)
      have hb4 : b < (wr.alloc (.cells #[.int .i64 t.at', .int .i64 t.kind, .int .i64 t.who, .int .i64 t.status, .int .i64 t.prio, .slice va t.vals.length vc] 43)).heap.size := Nat.lt_of_lt_of_le hbr bbl.size
      have HBX := Lib.hid bx
      clear bx bbl c0 c1 c2 c3 c4 c5 hbr hrs HM
      generalize wr.alloc (.cells #[.int .i64 t.at', .int .i64 t.kind, .int .i64 t.who, .int .i64 t.status, .int .i64 t.prio, .slice va t.vals.length vc] 43) = wd at *
      generalize wr.heap.size = D at *
      have m0 := HBX.out.cell 0
      have m1 := HBX.out.cell 1
      have m2 := HBX.out.cell 2
      have m3 := HBX.out.cell 3
      have m4 := HBX.out.cell 4
      have m5 := HBX.out.cell 5
      by_cases h0 : i = 0
      · have HPT := Lib.hid (point_any p wb wb.heap.size wb.heap.size vp vl (.slice va t.vals.length vc) (.pointer none) vk t none (keepTo p l i) (2 * i) (3 * i) l' wd HM4.out HR.out HKO.out (by omega) (by omega) HPB.out HPO.out HVV.out HVL.out rfl HB4.out.size HB4.out (Nat.le_refl _))
        rw [← HK1.out h0] at HPT
        subst h0
        clear HK1 HK2 HBF HI HM4 HKO
        unfold pntV at HPT
        go_wp2_with fail
        refine HPT.out.mono ?_
        rintro e w5 ⟨⟨u, rfl⟩, hm, hb5, _⟩
        have HZ := Lib.hid (show CsI p l wb w5 wb.heap.size wb.heap.size vp vl (0 + 1) from ⟨hlt, hm, HB4.out.trans hb5⟩)
        clear hm hb5 HPT
        go_wp2_with fail
        go_roundw
        case rel => exact ⟨0 + 1, by go_num, HZ.out⟩
        case measure => simp [intOf]; omega
      · have r0 : ((i : Int) == 0) = false := by simpa using h0
        have r00 : i ≠ 0 := h0
        have r1 : IntKind.i64.wrap ((i : Int) - 1) = ((i - 1 : Nat) : Int) := by rw [IntWalk.i64_in _ (by omega)]; omega
        have r3 : i - 1 < l.length := by omega
        have HPT := Lib.hid (fun (W : World) (hb : Below wd.heap.size wd W) => point_any p wb wb.heap.size wb.heap.size vp vl (.slice va t.vals.length vc) _ vk t _ (keepTo p l i) (2 * i) (3 * i) l' W (HM4.out.below hb) HR.out HKO.out (by omega) (by omega) HPB.out HPO.out HVV.out HVL.out (HBF.out (by omega)) (Nat.le_trans HB4.out.size hb.size) (HB4.out.trans (hb.mono HB4.out.size)) (Nat.le_refl _))
        rw [← HK2.out (by omega)] at HPT
        clear HK1 HK2 HBF HI HM4 HKO
        unfold pntV at HPT
        go_upto_region 13 with fail
        have hbd := (Below.refl wd.heap.size wd).drew
        have hS0 : (fun W : World => W.cell? ⟨D, 0, none⟩ = some (.int .i64 t.at') ∧ W.cell? ⟨D, 1, none⟩ = some (.int .i64 t.kind) ∧ W.cell? ⟨D, 2, none⟩ = some (.int .i64 t.who) ∧ W.cell? ⟨D, 3, none⟩ = some (.int .i64 t.status) ∧ W.cell? ⟨D, 4, none⟩ = some (.int .i64 t.prio) ∧ W.cell? ⟨D, 5, none⟩ = some (.slice va t.vals.length vc)) wd.drew := ⟨m0, m1, m2, m3, m4, m5⟩
        have HPD := Lib.hid (HPT.out _ hbd)
        have HBD := Lib.hid (HB4.out.trans (hbd.mono HB4.out.size))
        have HXD := Lib.hid (HBX.out.below hbd HBX.out.lt)
        refine anyT_start (S := fun W : World => W.cell? ⟨D, 0, none⟩ = some (.int .i64 t.at') ∧ W.cell? ⟨D, 1, none⟩ = some (.int .i64 t.kind) ∧ W.cell? ⟨D, 2, none⟩ = some (.int .i64 t.who) ∧ W.cell? ⟨D, 3, none⟩ = some (.int .i64 t.status) ∧ W.cell? ⟨D, 4, none⟩ = some (.int .i64 t.prio) ∧ W.cell? ⟨D, 5, none⟩ = some (.slice va t.vals.length vc)) (t := 7) (by kernel_rfl) ?_
        clear hbd m0 m1 m2 m3 m4 m5 HPT HB4 HBX
        generalize wd.drew = we at *
        refine takeS (i := 0) (v := ?_) rfl rfl (by kernel_rfl) (by kernel_rfl) (by kernel_rfl) (fun _ _ _ h => h) (by decide) (by kernel_rfl) ?_ hS0 ?_
        rotate_left
        · intro w hSw; (try dsimp only at hSw); go_simp; (try with_reducible rfl)
        simp only [List.setIfInBounds_toArray, List.set_cons_zero, List.set_cons_succ]
        refine takeS (i := 1) (v := ?_) rfl rfl (by kernel_rfl) (by kernel_rfl) (by kernel_rfl) (fun _ _ _ h => h) (by decide) (by kernel_rfl) ?_ hS0 ?_
        rotate_left
        · intro w hSw; (try dsimp only at hSw); go_simp; (try with_reducible rfl)
        simp only [List.setIfInBounds_toArray, List.set_cons_zero, List.set_cons_succ]
        refine takeS (i := 2) (v := ?_) rfl rfl (by kernel_rfl) (by kernel_rfl) (by kernel_rfl) (fun _ _ _ h => h) (by decide) (by kernel_rfl) ?_ hS0 ?_
        rotate_left
        · intro w hSw; (try dsimp only at hSw); go_simp; (try with_reducible rfl)
        simp only [List.setIfInBounds_toArray, List.set_cons_zero, List.set_cons_succ]
        refine takeS (i := 3) (v := ?_) rfl rfl (by kernel_rfl) (by kernel_rfl) (by kernel_rfl) (fun _ _ _ h => h) (by decide) (by kernel_rfl) ?_ hS0 ?_
        rotate_left
        · intro w hSw; (try dsimp only at hSw); go_simp; (try with_reducible rfl)
        simp only [List.setIfInBounds_toArray, List.set_cons_zero, List.set_cons_succ]
        refine takeS (i := 4) (v := ?_) rfl rfl (by kernel_rfl) (by kernel_rfl) (by kernel_rfl) (fun _ _ _ h => h) (by decide) (by kernel_rfl) ?_ hS0 ?_
        rotate_left
        · intro w hSw; (try dsimp only at hSw); go_simp; (try with_reducible rfl)
        simp only [List.setIfInBounds_toArray, List.set_cons_zero, List.set_cons_succ]
        refine takeS (i := 5) (v := ?_) rfl rfl (by kernel_rfl) (by kernel_rfl) (by kernel_rfl) (fun _ _ _ h => h) (by decide) (by kernel_rfl) ?_ hS0 ?_
        rotate_left
        · intro w hSw; (try dsimp only at hSw); go_simp; (try with_reducible rfl)
        simp only [List.setIfInBounds_toArray, List.set_cons_zero, List.set_cons_succ]
        refine oneT (i := 6) rfl (by kernel_rfl) (fun K hK => ?_)
        go_simp
        refine HPD.out.mono ?_
        rintro e w5 ⟨⟨u, rfl⟩, hm, hb5, hk5⟩
        have hx5 := HXD.out.keepsQ hk5 (by decide) (by decide) (by decide) (by decide)
        refine hK.out _ _ (fun _ => ⟨hx5.cell 0, hx5.cell 1, hx5.cell 2, hx5.cell 3, hx5.cell 4, hx5.cell 5⟩) ?_
        refine doneT (by kernel_rfl) ?_ _
        have HZ := Lib.hid (show CsI p l wb w5 wb.heap.size wb.heap.size vp vl (i + 1) from ⟨hlt, hm, HBD.out.trans hb5⟩)
        clear hm hb5 hk5 hx5 HXD HPD hS0 hK
        go_wp2_with fail
        go_roundw
        case rel => exact ⟨i + 1, by go_num, HZ.out⟩
        case measure => simp [intOf]; omega
    · obtain rfl : i = l.length := by omega
      obtain ⟨vk, l', hM, hR⟩ := HI.out.mem
      have HFC := Lib.hid (show clocksF p l = (runsOf l').map (·.c) from by rw [hR, keepTo_all])
      have HKO := keepTo_ok p l l.length (Nat.le_refl _)
      have hl' : l'.length ≤ 18000 := by
        have h1 := HKO.few
        rw [← hR] at h1
        have h2 : (runsOf l').length = l'.length := by simp [runsOf]
        omega
      have HM := Lib.hid hM
      have HBR := Lib.hid HI.out.below
      have hrs : wb.heap.size ≤ wr.heap.size := HI.out.below.size
      obtain ⟨ka, kc, rfl⟩ := owns_slice hM.row
      have k3 := hM.box.cell 3
      generalize (keepTo p l l.length).lev = lv at *
      clear hM hR HKO HI HRO
      go_wp2_with fail
      go_loopw [11, 52] (fun ov iv wx => ∃ i : Nat, iv = .int .i64 ((i : Nat) : Int) ∧ i ≤ l'.length ∧ wx.ownsRow wr.heap.size 34 7 ov i ((l'.take i).flatMap encRc) ∧ Below wr.heap.size wr wx) (fun _ iv _ => l'.length - (intOf iv).toNat)
      case atStart => exact ⟨0, rfl, Nat.zero_le _, by rw [List.take_zero]; exact World.ownsRow_nil _ _ _ _, Below.refl _ _⟩
      case round =>
        rename World => wx
        obtain ⟨i, rfl, hi, ho, hbx⟩ := hrel
        have HOW := Lib.hid ho
        have HBX := Lib.hid hbx
        have HMX := Lib.hid (HM.out.below hbx)
        have hws : wr.heap.size ≤ wx.heap.size := hbx.size
        obtain ⟨oa, oc, rfl⟩ := owns_slice ho
        clear ho hbx
        by_cases hlt : i < l'.length
        · have hrow : ∃ g, ka = some ⟨g, 0, none⟩ ∧ wx.cell? ⟨g, i, none⟩ = some (.pointer (some ⟨l'[i].1, 0, none⟩)) := by
            rcases HMX.out.row.2 with ⟨g, h0⟩ | ⟨g, cap2, cur, hv, _⟩
            · have h1 : l'.length = 0 := h0
              omega
            · cases hv
              refine ⟨g, rfl, ?_⟩
              have h1 := HMX.out.row.cells (g := g) rfl i (.pointer (some ⟨l'[i].1, 0, none⟩)) (by rw [List.getElem?_map, List.getElem?_eq_getElem hlt]; rfl)
              rw [← h1]
              congr 1
              unfold Addr.add
              simp
          obtain ⟨g, rfl, hg⟩ := hrow
          have hrm := HMX.out.has i hlt
          have HTK := Lib.hid (show (l'.take (i + 1)).flatMap encRc = (l'.take i).flatMap encRc ++ encRc l'[i] by rw [List.take_succ_eq_append_getElem hlt, List.flatMap_append]; simp)
          generalize l'[i] = y at *
          obtain ⟨yb, yv, yr⟩ := y
          simp only at hrm hg
          obtain ⟨ya, yc, rfl⟩ := owns_slice hrm.ps
          have hx := hrm.box
          unfold runV at hx
          have d0 := hx.cell 0
          have d1 := hx.cell 1
          have d2 := hx.cell 2
          have d3 := hx.cell 3
          have d4 := hx.cell 4
          have d5 := hx.cell 5
          have d6 := hx.cell 6
          clear hrm hx
          go_wp2_with (at_builtin; go_must (refine append_one rfl _ _ 28 rfl wr.heap.size 34 (.agg #[.int .i64 0, .int .i64 0, .int .i64 0, .int .i64 0, .int .i64 0, .int .i64 0, .slice none 0 0]) 7 72 Tryz.underlying28 infoClk rfl (by decide) wx wx _ _ _ rfl HOW.out (encRc (yb, .slice ya yr.c.ps.length yc, yr)) rfl rfl rfl (by simp [Value.oneCell', encRc, clkV]) (by omega) (by omega) hws (Below.refl _ _) ?_); intro v' w6 ho hb6 hg6 hnn; have HO6 := Lib.hid ho; have HB6 := Lib.hid hb6; clear ho hb6 hg6 hnn)
          go_roundw
          case rel => exact ⟨i + 1, by go_num, hlt, by rw [HTK.out]; exact HO6.out, HBX.out.trans HB6.out⟩
          case measure => simp [intOf]; omega
        · obtain rfl : i = l'.length := by omega
          have HF := Lib.hid (show Clks wx (.slice oa l'.length oc) (clocksF p l) from by
            rw [HFC.out]
            refine clks_of HMX.out (B2 := wr.heap.size) ?_
            have := HOW.out
            rwa [List.take_length] at this)
          have HBF := Lib.hid (below_up' (below_up' HBB.out HBR.out) HBX.out)
          clear HFC HOW HBX HMX HM HBR
          go_wp2_with fail
          go_ret2
          exact ⟨_, _, rfl, HBF.out, ⟨fun _ => ⟨HPO.out, HHO.out⟩, fun _ => rfl⟩, fun g => absurd rfl g, fun _ => HF.out⟩
end Go.Proofs.YtllcgcnebofdoaaGreatDoor
