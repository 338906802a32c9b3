/- The walk of staff.Spare, of a plan that covers and of which nothing can be left out. -/
import Derived.Test.YtfoehmieklldkaaDoorPlanW
namespace Go.Proofs.YtfoehmieklldkaaDoor
open Go.RowKit

theorem Plan_any (v dv : Value) (l : List (Int × Int)) (D : List Int) (w : World) (h : SliceAt 2 formR w v l) (hd : SliceAt 1 intR w dv D) :
    Calls Tryd.prog 11 #[v, dv] w (PlanPost l D w) := by
  by_cases hno : formsE l = 0 ∧ demandE D 60 = 0
  · obtain ⟨h1, h2⟩ := hno
    obtain ⟨hfl, hfo⟩ := formsE_ok h1
    obtain ⟨fs, rfl, hok⟩ := forms_nat l hfo
    obtain ⟨ds, rfl, hdl, hd60⟩ := demandE_nat (m := 60) h2
    exact Plan_ok v dv fs ds w h hd (by simpa using hfl) hok h1 hdl hd60
  · exact Plan_no v dv l D w h hd hno

theorem ints_range {w : World} {v : Value} {fs : List FN} {ps : List Nat} {n : Nat} (h : SliceAt 1 intR w v (covList fs ps n)) (hl : 0 < n) : ∃ b off cap, v = .slice (some ⟨b, off, none⟩) n cap ∧ b < w.heap.size ∧
    ∀ i (hi : i < n), w.cell? ⟨b, off + i, none⟩ = some (.int .i64 (cov (fmOf fs) (pOf ps) fs.length i : Nat)) := by
  have hlen : (covList fs ps n).length = n := by simp [covList]
  obtain ⟨b, off, cap, hv, hc, hb, hel⟩ := SliceAt.at h (by omega)
  rw [hlen] at hv hc
  refine ⟨b, off, cap, hv, hb, fun i hi => ?_⟩
  exact ints_cell hel i _ (by simp [covList, hi])
theorem covList_slice {w : World} {v : Value} {fs : List FN} {ps : List Nat} {n : Nat} (h : SliceAt 1 intR w v (covList fs ps n)) : ∃ a c, v = .slice a n c := by
  obtain ⟨a, c, e⟩ := SliceAt.len h
  exact ⟨a, c, by rw [e]; simp [covList]⟩

/-- while form i is looked at: what could be left out of it so far -/
structure SpIn (fs : List FN) (ds ps : List Nat) (w wr : World) (Bo i s m : Nat) : Prop where
  out : IntsB wr Bo (rangeL (fun j => if j = i then m else 0) fs.length)
  below : Below Bo w wr
  lo : (fmOf fs i).f ≤ s
  hi : s ≤ (fmOf fs i).e
  hn : s ≤ ds.length ∨ s = (fmOf fs i).f
  mp : m ≤ pOf ps i
  mt : ∀ t, (fmOf fs i).f ≤ t → t < s → m ≤ cov (fmOf fs) (pOf ps) fs.length t - pOf ds t
theorem SpIn.step {fs : List FN} {ds ps : List Nat} {w wr : World} {Bo i s m x : Nat} (h : SpIn fs ds ps w wr Bo i s m) (h1 : s < ds.length) (h2 : s < (fmOf fs i).e) (hx1 : x ≤ m) (hx2 : x ≤ cov (fmOf fs) (pOf ps) fs.length s - pOf ds s) :
    SpIn fs ds ps w (wr.setCell ⟨Bo, i, none⟩ (.int .i64 (x : Nat))) Bo i (s + 1) x := by
  have hlo := h.lo
  refine ⟨?_, h.below.setCell (Nat.le_refl _) _, by omega, by omega, .inl (by omega), Nat.le_trans hx1 h.mp, fun t ht1 ht2 => ?_⟩
  · exact set_range h.out (by simp) (fun t _ hne => by simp [hne])
  · by_cases e : t = s
    · subst e; exact hx2
    · exact Nat.le_trans hx1 (h.mt t ht1 (by omega))
theorem SpIn.drew {fs : List FN} {ds ps : List Nat} {w wr : World} {Bo i s m : Nat} (h : SpIn fs ds ps w wr Bo i s m) : SpIn fs ds ps w wr.drew Bo i s m := ⟨h.out, h.below.drew, h.lo, h.hi, h.hn, h.mp, h.mt⟩
theorem SpIn.zero {fs : List FN} {ds ps : List Nat} {w wr : World} {Bo i s m : Nat} (h : SpIn fs ds ps w wr Bo i s m) (hi : i < fs.length) (hs : ¬ (s < ds.length ∧ s < (fmOf fs i).e)) (hinv : PlanInv (fmOf fs) (pOf ds) fs.length ds.length (pOf ps)) :
    IntsB wr Bo (rangeL (fun _ => 0) fs.length) := by
  have hm : m = 0 := by
    by_cases h0 : 0 < pOf ps i
    · obtain ⟨t, ht, hl, hc⟩ := hinv.tight i hi h0
      have hh := hitB_iff.1 hl.2.1
      have hhi := h.hi
      have := h.mt t hh.1 (by omega)
      omega
    · have := h.mp; omega
  have := h.out
  subst hm
  have e : (fun j => if j = i then 0 else 0) = fun (_ : Nat) => 0 := by funext j; split <;> rfl
  rwa [e] at this

structure SpJ (fs : List FN) (ds ps : List Nat) (w wr : World) (Bo i s m B xf xn : Nat) : Prop where
  inn : SpIn fs ds ps w wr Bo i s m
  k0 : wr.cell? ⟨B, 0, none⟩ = some (.int .i64 (xf : Nat))
  k1 : wr.cell? ⟨B, 1, none⟩ = some (.int .i64 (xn : Nat))

def SparePost (n : Nat) (w : World) (e : Ending) (w' : World) : Prop := ∃ a c, e = .returned (.tuple #[.slice a n c, .int .i64 0]) ∧ NatsAt w' (.slice a n c) (List.replicate n 0) ∧ Below w.heap.size w w'

set_option maxRecDepth 100000 in
set_option maxHeartbeats 8000000 in
theorem Spare_any (v dv pv : Value) (fs : List FN) (ds ps : List Nat) (w : World) (h : FormsAt w v fs) (hd : NatsAt w dv ds) (hp : NatsAt w pv ps) (hl : fs.length ≤ 60) (hok : ∀ x ∈ fs, x.ok) (hfe : formsE (fs.map FN.pair) = 0)
    (hdl : ds.length ≤ 400) (hd60 : ∀ d ∈ ds, d ≤ 60) (hpl : ps.length = fs.length) (hp60 : ∀ p ∈ ps, p ≤ 60) (hinv : PlanInv (fmOf fs) (pOf ds) fs.length ds.length (pOf ps)) :
    Calls Tryd.prog 16 #[v, dv, pv] w (SparePost fs.length w) := by
  have hcf := CheckForms_any v (fs.map FN.pair) w h
  rw [hfe] at hcf
  have e60 : demandE (intsOf ds) 60 = 0 := demandE_ok (m := 60) hdl hd60
  have hcd : ∀ W, NatsAt W dv ds → Calls Tryd.prog 36 #[dv, .int .i64 60] W fun e w' => e = .returned (.int .i64 0) ∧ W = w' := fun W hW => by
    have := checkDemand_any dv (intsOf ds) 60 W hW
    rw [e60] at this
    exact this
  have epl := planE_ok hp60
  rw [hpl] at epl
  have hcp : ∀ (a : Option Addr) (cap : Nat) (W : World), NatsAt W pv ps → Calls Tryd.prog 38 #[.slice a fs.length cap, pv] W fun e w' => e = .returned (.int .i64 0) ∧ W = w' := fun a cap W hW => by
    have := checkPlan_any a fs.length cap pv (intsOf ps) W hW (by omega)
    rw [epl] at this
    exact this
  obtain ⟨a, cap, rfl⟩ := h.len
  obtain ⟨ad, cd, rfl⟩ := hd.len
  obtain ⟨ap, cp, rfl⟩ := hp.len
  have HCF := Lib.hid hcf
  have HCD := Lib.hid hcd
  have HCP := Lib.hid hcp
  have H := Lib.hid h
  have HD := Lib.hid hd
  have HP := Lib.hid hp
  have HOK := Lib.hid hok
  have HD60 := Lib.hid (pOf_le hd60)
  have HP60 := Lib.hid (pOf_le hp60)
  have HP60' := Lib.hid hp60
  have HPL := Lib.hid hpl
  have HINV := Lib.hid hinv
  clear h hd hp hcf hcd hcp hok hfe hd60 hp60 e60 epl hpl hinv
  go_enter Tryd.func16, Tryd.ntmps16
  go_wp2_with fail
  refine HCF.out.mono ?_
  rintro e w1 ⟨rfl, hb1⟩
  have HB1 := Lib.hid hb1
  go_wp2_with fail
  refine (HCP.out a cap w1 (HP.out.below hb1)).mono ?_
  rintro e w2 ⟨rfl, rfl⟩
  go_wp2_with fail
  refine (HCD.out w1 (HD.out.below hb1)).mono ?_
  rintro e w2 ⟨rfl, rfl⟩
  clear hb1
  go_wp2_with fail
  refine (or_any _ [0, 0, 0] _ (ints3_at w1 _ _ _ _) (by simp)).mono ?_
  rintro e w2 ⟨rfl, rfl⟩
  have ho : orI [0, 0, 0] = 0 := by rw [orI3, if_pos rfl, if_pos rfl]
  rw [ho]
  have hb2 : Below w.heap.size w (w1.alloc (.cells #[.int .i64 0, .int .i64 0, .int .i64 0] 27)) := HB1.out.alloc HB1.out.size _
  generalize w1.alloc (.cells #[.int .i64 0, .int .i64 0, .int .i64 0] 27) = w2 at *
  have HB2 := Lib.hid hb2
  clear ho
  go_wp2_with fail
  refine (cover_any _ _ fs ps ds.length _ (H.out.below hb2) (HP.out.below hb2) hl HOK.out HPL.out HP60'.out hdl).mono ?_
  rintro e w3 ⟨ac, cc, rfl, hs3, hb3⟩
  have HS3 := Lib.hid hs3
  have HB3 := Lib.hid (below_up HB2.out hb3 HB2.out.size)
  have hmk1 := fun W => make_ints W fs.length (by omega)
  clear hs3 hb3 hb2
  go_wp2_with fail
  clear hmk1
  have hout := madeInts w3 fs.length
  rw [← rangeL_zero] at hout
  have hb4 : Below w3.heap.size w3 (w3.alloc (.cells (madeCells #[.int .i64 0] fs.length) 3)) := (Below.refl _ _).alloc (Nat.le_refl _) _
  have HOUT := Lib.hid hout
  have HB4' := Lib.hid hb4
  have HB4 := Lib.hid (below_up HB3.out hb4 HB3.out.size)
  have hws := HB3.out.size
  generalize w3.alloc (.cells (madeCells #[.int .i64 0] fs.length) 3) = w4 at *
  generalize hbo : w3.heap.size = Bo at *
  have HBO := Lib.hid hbo
  clear hout hb4 hbo
  go_loop [11, 12, 38] (fun _ _ iv => ∃ i : Nat, iv = .int .i64 i ∧ i ≤ ds.length) (fun _ _ iv => ds.length - (intOf iv).toNat)
  case atStart => exact ⟨0, rfl, Nat.zero_le _⟩
  case round =>
    obtain ⟨i, rfl, hi⟩ := hrel
    by_cases hlt : i < ds.length
    · obtain ⟨b, off, cap', hv, hb, hel⟩ := HD.out.at (by omega)
      cases hv
      obtain ⟨bt, ot, ct, hvt, hbt, helt⟩ := ints_range HS3.out (by omega)
      cases hvt
      have c0 := (below_cell HB4.out hb).trans (hel i hlt)
      have hdi : pOf ds i = ds[i] := by unfold pOf; simp [hlt]
      rw [← hdi] at c0
      have c1 := (below_cell HB4'.out (by rw [← HBO.out]; exact hbt)).trans (helt i hlt)
      have hdd := HD60.out i
      have hcv := HINV.out.covers i hlt
      have hcc := cov_le HP60.out fs.length i (F := fmOf fs)
      generalize cov (fmOf fs) (pOf ps) fs.length i = cv at *
      generalize pOf ds i = dv at *
      have q1 : decide ((cv : Int) < (dv : Int)) = false := by simp; omega
      have q2 : decide (cv < dv) = false := by simp; omega
      clear hel helt hdi
      go_wp2_with fail
      go_round
      case rel => exact ⟨i + 1, by go_num, by omega⟩
      case measure => simp [intOf]; omega
    · obtain rfl : i = ds.length := by omega
      go_wp2_with fail
      go_loopw [13, 14, 15, 53] (fun _ _ _ iv wr => ∃ i : Nat, iv = .int .i64 i ∧ i ≤ fs.length ∧ IntsB wr Bo (rangeL (fun _ => 0) fs.length) ∧ Below Bo w4 wr) (fun _ _ _ iv _ => fs.length - (intOf iv).toNat)
      case atStart => exact ⟨0, rfl, Nat.zero_le _, HOUT.out, Below.refl _ _⟩
      case round =>
        obtain ⟨i, rfl, hi2, hO, hbr⟩ := hrel
        have HO := Lib.hid hO
        have HBR := Lib.hid hbr
        clear hO hbr
        by_cases hlt2 : i < fs.length
        · obtain ⟨bf, of', capf, hvf, hcapf, hbf, helf⟩ := H.out.at (by omega)
          cases hvf
          obtain ⟨bp, op, cpp, hvp, hbp, help⟩ := HP.out.at (by rw [HPL.out]; omega)
          cases hvp
          have hlp : i < ps.length := by rw [HPL.out]; exact hlt2
          obtain ⟨f0, f1⟩ := helf i hlt2
          have g0 := (below_cell HBR.out (by omega : bf < Bo)).trans ((below_cell HB4.out hbf).trans f0)
          have g1 := (below_cell HBR.out (by omega : bf < Bo)).trans ((below_cell HB4.out hbf).trans f1)
          have g2 := (below_cell HBR.out (by omega : bp < Bo)).trans ((below_cell HB4.out hbp).trans (help i hlp))
          have hpi : pOf ps i = ps[i] := by unfold pOf; simp [hlp]
          rw [← hpi] at g2
          have hpp := HP60.out i
          obtain ⟨y0, y1⟩ := cells_range HO.out hlt2
          have hx := HOK.out fs[i] (List.getElem_mem hlt2)
          have hF := fmOf_at hlt2
          have hF1 : (fmOf fs i).f = fs[i].f := by rw [hF]
          have hF2 : (fmOf fs i).e = fs[i].f + fs[i].n := by rw [hF]
          generalize fs[i] = x at *
          obtain ⟨xf, xn⟩ := x
          obtain ⟨o1, o2, o3⟩ := hx
          simp only at g0 g1 hF1 hF2 o1 o2 o3
          have HF1 := Lib.hid hF1
          have HF2 := Lib.hid hF2
          have hBl := HO.out.lt
          have hbfl : bf < wr.heap.size := by omega
          have hbpl : bp < wr.heap.size := by omega
          clear f0 f1 helf help hpi hF hF1 hF2
          go_upto_region 15 with fail
          obtain ⟨bx, bb⟩ := box1 wr #[.int .i64 (xf : Nat), .int .i64 (xn : Nat)] 76
          have BX := Lib.hid bx
          have hO2 := Lib.hid (HO.out.below bb hBl)
          have hbr2 := Lib.hid (HBR.out.trans (bb.mono (by omega)))
          have g2' := (below_cell bb hbpl).trans g2
          have y0' := (below_cell bb hBl).trans y0
          have y1' := (below_frozen bb hBl).trans y1
          have hbps : bp < (wr.alloc (.cells #[.int .i64 (xf : Nat), .int .i64 (xn : Nat)] 76)).heap.size := Nat.lt_of_lt_of_le hbpl bb.size
          generalize wr.alloc (.cells #[.int .i64 (xf : Nat), .int .i64 (xn : Nat)] 76) = wb at *
          generalize hBq : wr.heap.size = B at *
          have k0 : wb.cell? ⟨B, 0, none⟩ = some (.int .i64 (xf : Nat)) := BX.out.cell 0
          have k1 : wb.cell? ⟨B, 1, none⟩ = some (.int .i64 (xn : Nat)) := BX.out.cell 1
          have s0 : IntKind.i64.wrap ((xf : Int) + (xn : Int)) = (xf : Int) + (xn : Int) := IntWalk.i64_in _ (by omega)
          have hbne : Bo ≠ B := by omega
          have hbne' : B ≠ Bo := by omega
          have hJ0 : SpJ fs ds ps w4 (wb.setCell ⟨Bo, i, none⟩ (.int .i64 (pOf ps i : Nat))) Bo i xf (pOf ps i) B xf xn := by
            refine ⟨⟨?_, hbr2.out.setCell (Nat.le_refl _) _, by rw [HF1.out]; exact Nat.le_refl _, by rw [HF2.out]; omega, .inr HF1.out.symm, Nat.le_refl _, fun t h1 h2 => by rw [HF1.out] at h1; omega⟩, (set_block hbne).trans k0, (set_block hbne).trans k1⟩
            exact set_range hO2.out (by simp) (fun t _ hne => by simp [hne])
          have HJ0 := Lib.hid hJ0
          clear bx bb hJ0 y0 y1 g0 g1 g2
          go_wp2_with fail
          go_loopw [15] (fun sv wx => ∃ s m : Nat, sv = .int .i64 s ∧ SpJ fs ds ps w4 wx Bo i s m B xf xn) (fun sv _ => xf + xn - (intOf sv).toNat)
          case atStart => exact ⟨xf, _, rfl, HJ0.out⟩
          case round =>
            clear k0 k1 y0' y1' g2'
            obtain ⟨s, m, rfl, hJ⟩ := hrel
            have k0 := hJ.k0
            have k1 := hJ.k1
            have hJlo := hJ.inn.lo
            have hJhi := hJ.inn.hi
            have hJn := hJ.inn.hn
            have hJm := hJ.inn.mp
            rw [HF1.out] at hJlo hJn
            rw [HF2.out] at hJhi
            have HJ := Lib.hid hJ
            clear hJ
            by_cases hs : s < ds.length ∧ s < xf + xn
            · obtain ⟨hs1, hs2⟩ := hs
              obtain ⟨b, off, cap', hv, hb, hel⟩ := HD.out.at (by omega)
              cases hv
              obtain ⟨bt, ot, ct, hvt, hbt, helt⟩ := ints_range HS3.out (by omega)
              cases hvt
              have c0 := (below_cell HJ.out.inn.below (by omega : b < Bo)).trans ((below_cell HB4.out hb).trans (hel s hs1))
              have hdi : pOf ds s = ds[s] := by unfold pOf; simp [hs1]
              rw [← hdi] at c0
              have c1 := (below_cell HJ.out.inn.below (by rw [← HBO.out]; exact hbt)).trans ((below_cell HB4'.out (by rw [← HBO.out]; exact hbt)).trans (helt s hs1))
              have hdd := HD60.out s
              have hcv := HINV.out.covers s hs1
              have hcc := cov_le HP60.out fs.length s (F := fmOf fs)
              obtain ⟨z0, z1⟩ := cells_range HJ.out.inn.out hlt2
              simp only [if_true] at z0
              have hst := fun (x : Nat) h1 h2 => HJ.out.inn.step (x := x) hs1 (by rw [HF2.out]; exact hs2) h1 h2
              have HST := Lib.hid hst
              generalize cov (fmOf fs) (pOf ps) fs.length s = cv at *
              generalize pOf ds s = dv at *
              have q1 : IntKind.i64.wrap ((cv : Int) - (dv : Int)) = (cv : Int) - (dv : Int) := IntWalk.i64_in _ (by omega)
              have q2 : (cv : Int) - (dv : Int) = ((cv - dv : Nat) : Int) := by omega
              have Q2 := Lib.hid q2
              clear hel helt hdi hst q2
              rcases (show (cv : Int) - (dv : Int) < (m : Int) ∨ (m : Int) ≤ (cv : Int) - (dv : Int) by omega) with gm | gm
              · have hst2 : SpJ fs ds ps w4 (wr.setCell ⟨Bo, i, none⟩ (.int .i64 ((cv - dv : Nat) : Int))) Bo i (s + 1) (cv - dv) B xf xn := ⟨HST.out (cv - dv) (by omega) (Nat.le_refl _), (set_block hbne).trans HJ.out.k0, (set_block hbne).trans HJ.out.k1⟩
                rw [← Q2.out] at hst2
                have HST2 := Lib.hid hst2
                clear hst2
                go_wp2_with fail
                all_goals
                  go_region
                  all_goals go_wp2
                  all_goals
                    go_roundw
                    case rel => exact ⟨s + 1, cv - dv, by go_num, ⟨HST2.out.inn.drew, HST2.out.k0, HST2.out.k1⟩⟩
                    case measure => simp [intOf]; omega
              · have hst2 : SpJ fs ds ps w4 (wr.setCell ⟨Bo, i, none⟩ (.int .i64 (m : Nat))) Bo i (s + 1) m B xf xn := ⟨HST.out m (Nat.le_refl _) (by omega), (set_block hbne).trans HJ.out.k0, (set_block hbne).trans HJ.out.k1⟩
                have HST2 := Lib.hid hst2
                clear hst2
                go_wp2_with fail
                all_goals
                  go_region
                  all_goals go_wp2
                  all_goals
                    go_roundw
                    case rel => exact ⟨s + 1, m, by go_num, ⟨HST2.out.inn.drew, HST2.out.k0, HST2.out.k1⟩⟩
                    case measure => simp [intOf]; omega
            · have HS := Lib.hid hs
              go_wp2_with fail
              all_goals
                go_roundw
                case rel => exact ⟨i + 1, by go_num, by omega, HJ.out.inn.zero hlt2 (by rw [HF2.out]; exact HS.out) HINV.out, HJ.out.inn.below⟩
                case measure => simp [intOf]; omega
        · obtain rfl : i = fs.length := by omega
          have hsl := HO.out.slice (cap := fs.length) (by rw [rangeL_length]; exact Nat.le_refl _)
          rw [rangeL_length, rangeL_ints] at hsl
          have e : (List.range fs.length).map (fun _ => 0) = List.replicate fs.length 0 := by
            apply List.ext_getElem
            · simp
            · intro i h1 h2; simp
          rw [e] at hsl
          have HSL := Lib.hid (show NatsAt wr (.slice (some ⟨Bo, 0, none⟩) fs.length fs.length) (List.replicate fs.length 0) from hsl)
          clear hsl e
          go_wp2_with fail
          go_ret2
          exact ⟨_, _, rfl, HSL.out, HB4.out.trans (HBR.out.mono (by omega))⟩

end Go.Proofs.YtfoehmieklldkaaDoor
