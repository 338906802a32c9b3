/- The walks of route.ReadPeople: on people's own text, and on a text that is none. -/
import Derived.Test.YtefdijgglakccaaDoorPpRead
namespace Go.Proofs.YtefdijgglakccaaDoor
open Go.RowKit

theorem SliceAt.map {α β : Type} {sz : Nat} {R : World → List Value → α → Prop} {R' : World → List Value → β → Prop} {w : World} {v : Value} {l : List α} (f : α → β) (h : SliceAt sz R w v l) (hR : ∀ cs, ∀ x ∈ l, R w cs x → R' w cs (f x)) : SliceAt sz R' w v (l.map f) := by
  rcases h with ⟨a, cap, rfl, rfl⟩ | ⟨b, off, cap, rfl, hcp, hb, h⟩
  · exact .inl ⟨a, cap, rfl, rfl⟩
  · refine .inr ⟨b, off, cap, by rw [List.length_map], by rw [List.length_map]; exact hcp, hb, fun i hi => ?_⟩
    rw [List.length_map] at hi
    obtain ⟨cs, h1, h2⟩ := h i hi
    refine ⟨cs, h1, ?_⟩
    rw [List.getElem_map]
    exact hR cs _ (List.getElem_mem hi) h2
/-- a person that was read, and the value of the skills' slice -/
abbrev Pr := PerD × Value
def encPr (x : Pr) : List Value := [.int .i64 x.1.no, .int .i64 x.1.cap, .int .i64 x.1.cl, x.2]
theorem infoPr : (Tryd.prog.info? 37).map (fun i => (i.zero, i.size, i.bytes)) = some (some (.agg #[.int .i64 0, .int .i64 0, .int .i64 0, .slice none 0 0]), 4, 48) := by kernel_rfl
structure RlInv (w wx : World) (l ls : List PerD) (lg : List Pr) (v : Value) : Prop where
  sum : lg.map (fun x => x.1) ++ ls = l
  row : wx.ownsRow w.heap.size 37 4 v lg.length (lg.flatMap encPr)
  each : ∀ x ∈ lg, wx.ownsRow w.heap.size 41 2 x.2 x.1.sk.length (x.1.sk.flatMap encSk)
  below : Below w.heap.size w wx
theorem RlInv.to {w wx w' : World} {l ls : List PerD} {lg : List Pr} {v : Value} (h : RlInv w wx l ls lg v) (hb : Below wx.heap.size wx w') : RlInv w w' l ls lg v :=
  ⟨h.sum, owns_below h.row hb, fun x hx => owns_below (h.each x hx) hb, below_up h.below hb h.below.size⟩
theorem RlInv.pers {w wx : World} {l : List PerD} {lg : List Pr} {v : Value} (h : RlInv w wx l [] lg v) (hl : ∀ p ∈ l, PerOk p) : Pers wx v l := by
  have e := h.sum
  rw [List.append_nil] at e
  have hs : SliceAt 4 (fun _ cs (x : Pr) => cs = encPr x) wx v lg := slice_of_owns encPr h.row (fun _ _ => rfl) (fun _ _ => rfl)
  rw [← e]
  refine SliceAt.map (R' := perR) (fun x : Pr => x.1) hs (fun cs x hx q => ⟨x.2, q, slice_of_owns encSk (h.each x hx) (fun _ _ => rfl) (fun s hs2 => ⟨rfl, ?_⟩)⟩)
  have hm : x.1 ∈ l := by rw [← e]; exact List.mem_map_of_mem hx
  have := (nm_size ((hl _ hm).nms s hs2)).2
  omega
theorem RlInv.len {w wx : World} {l ls : List PerD} {lg : List Pr} {v : Value} (h : RlInv w wx l ls lg v) : lg.length + ls.length = l.length := by
  rw [← h.sum, List.length_append, List.length_map]
theorem text_cons_some (x : PerD) (r : List PerD) : (bs (textP (x :: r))).toList.isEmpty = false := by
  rw [ByteArray.toList_eq, bs_data]
  have e2 : textP (x :: r) = (lineP x ++ [10]) ++ textP r := by unfold textP; rw [List.flatMap_cons]
  rw [e2]
  simp
theorem text_nil_none : (bs (textP [])).toList.isEmpty = true := by
  rw [ByteArray.toList_eq, bs_data]
  rfl
def RlPost (l : List PerD) (w : World) (e : Ending) (w' : World) : Prop := ∃ v, e = .returned (.tuple #[v, .int .i64 0, .int .i64 0]) ∧ Pers w' v l ∧ Below w.heap.size w w'

set_option maxRecDepth 100000 in
set_option maxHeartbeats 4000000 in
theorem ReadPeople_ok (l : List PerD) (w : World) (hF : PpFine l) (hE : Env w) :
    Calls Tryd.prog 6 #[.string (bs (textP l))] w (RlPost l w) := by
  have HF := Lib.hid hF
  have HE := Lib.hid hE
  have hl40 : l.length ≤ 40 := hF.1
  have HOK := Lib.hid hF.ok
  have hts := text_short l hF.ok
  have q0 : decide (400000 < ((bs (textP l)).size : Int)) = false := by rw [bs_size]; simp; omega
  have q1 : decide (400000 < (bs (textP l)).size) = false := by rw [bs_size]; simp; omega
  have HI := Lib.hid (show RlInv w w l l [] (.slice none 0 0) from ⟨rfl, World.ownsRow_nil _ _ _ _, (fun x hx => by cases hx), Below.refl _ _⟩)
  clear hF hE hts
  go_enter Tryd.func6, Tryd.ntmps6
  go_wp2_with fail
  go_loopw [0, 5, 6] (fun sv lv av wx => ∃ (ls : List PerD) (lg : List Pr), sv = .string (bs (textP ls)) ∧ av = .int .i64 ((lg.length : Nat) + 1) ∧ RlInv w wx l ls lg lv) (fun _ _ av _ => 45 - (intOf av).toNat)
  case atStart => exact ⟨l, [], rfl, rfl, HI.out⟩
  case round =>
    obtain ⟨ls, lg, rfl, rfl, hI⟩ := hrel
    have hlen := hI.len
    obtain ⟨la, lc, rfl⟩ := owns_slice hI.row
    have HI := Lib.hid hI
    clear hI q0 q1
    cases ls with
    | nil =>
      have htn := text_nil_none
      have HCC := Lib.hid (CheckPeople_any l _ wr (HI.out.pers HOK.out))
      generalize bs (textP []) = T at *
      go_wp2_with fail
      refine HCC.out.mono ?_
      rintro e w3 ⟨⟨cd, rfl, hcd⟩, hb3⟩
      obtain rfl : cd = 0 := hcd.2 HF.out
      have HP3 := Lib.hid ((HI.out.pers HOK.out).below hb3)
      have HB3 := Lib.hid (below_up HI.out.below hb3 HI.out.below.size)
      clear hcd hb3 HCC
      go_wp2_with fail
      refine bodyPost_ret (results_tmp3 rfl _ _ _) rfl ?_
      exact ⟨_, rfl, HP3.out, HB3.out⟩
    | cons p r =>
      have htn := text_cons_some p r
      have hp : PerOk p := HOK.out p (by rw [← HI.out.sum]; exact List.mem_append_right _ List.mem_cons_self)
      have hts := text_short (p :: r) (fun q hq => HOK.out q (by rw [← HI.out.sum]; exact List.mem_append_right _ hq))
      rw [List.length_cons] at hlen hts
      have HCU := Lib.hid (fun W hW => cut_any (textP (p :: r)) 10 (by omega) W hW)
      rw [cut_person hp r] at HCU
      have HRP := Lib.hid (fun W hW => readPerson_ok p W hp hW)
      have HSUM := Lib.hid (show (lg.map (fun x => x.1) ++ [p]) ++ r = l by rw [← HI.out.sum]; simp)
      clear hp hts
      generalize bs (textP (p :: r)) = T at *
      simp only at HCU
      generalize hTr : bs (textP r) = Tr at *
      generalize bs (lineP p) = L at *
      go_wp2_with fail
      refine (HCU.out wr (HE.out.below HI.out.below)).mono ?_
      rintro e w3 ⟨rfl, hb3⟩
      have HI3 := Lib.hid (HI.out.to hb3)
      clear hb3 HI HCU
      go_wp2_with fail
      refine (HRP.out w3 (HE.out.below HI3.out.below)).mono ?_
      rintro e w4 ⟨a, c, rfl, hown, hb4, hz4⟩
      have HI4 := Lib.hid (HI3.out.to hb4)
      have HO4 := Lib.hid (owns_base hown HI3.out.below.size)
      have hw4 := HI4.out.below.size
      clear hown hb4 hz4 HI3 HRP
      go_upto_region 11 with fail
      obtain ⟨bx, bbl⟩ := box1 w4 #[.int .i64 p.no, .int .i64 p.cap, .int .i64 p.cl, .slice a p.sk.length c] 37
      have HI5 := Lib.hid (HI4.out.to bbl)
      have HO5 := Lib.hid (owns_below HO4.out bbl)
      have k0 := bx.cell 0
      have k1 := bx.cell 1
      have k2 := bx.cell 2
      have k3 := bx.cell 3
      clear bx bbl HI4 HO4 hw4
      generalize w4.alloc (.cells #[.int .i64 p.no, .int .i64 p.cap, .int .i64 p.cl, .slice a p.sk.length c] 37) = w5 at *
      have hw5 := HI5.out.below.size
      have hlg : lg.length ≤ 40 := by omega
      have hown4 := Lib.hid (HI5.out.row.alloc (.cells #[.int .i64 p.no, .int .i64 p.cap, .int .i64 p.cl, .slice a p.sk.length c] 37))
      go_wp2_with (at_builtin; go_must (refine append_one rfl _ _ 22 rfl w.heap.size 37 (.agg #[.int .i64 0, .int .i64 0, .int .i64 0, .slice none 0 0]) 4 48 Tryd.underlying22 infoPr rfl (by decide) w5 w5 _ _ _ rfl HI5.out.row [.int .i64 p.no, .int .i64 p.cap, .int .i64 p.cl, .slice a p.sk.length c] rfl rfl rfl (by simp [Value.oneCell']) (by omega) (by omega) hw5 (Below.refl _ _) ?_); intro v' w6 ho hb6 hg6 hnn; have hg6 : w5.grownBy w6 (Value.slice la lg.length lc).ownBlock := hg6; obtain ⟨a2, c2, rfl⟩ := owns_slice ho; have HO6 := Lib.hid ho; have HG6 := Lib.hid hg6; have HB6 := Lib.hid hb6; clear ho hg6 hb6 hnn)
      have H7 := Lib.hid (show RlInv w w6 l r (lg ++ [(p, .slice a p.sk.length c)]) (.slice a2 (lg.length + 1) c2) from by
        refine ⟨by rw [List.map_append]; exact HSUM.out, ?_, fun x hx => ?_, HI5.out.below.trans HB6.out⟩
        · rw [List.length_append, List.flatMap_append]
          simpa [encPr] using HO6.out
        · rcases List.mem_append.1 hx with q | q
          · exact owns_kept_own (HI5.out.each x q) HI5.out.row (by decide) HG6.out
          · obtain rfl := List.mem_singleton.1 q
            exact owns_kept_own HO5.out HI5.out.row (by decide) HG6.out)
      go_roundw
      case rel => exact ⟨r, lg ++ [(p, .slice a p.sk.length c)], by rw [← hTr], by simp, H7.out⟩
      case measure => simp [intOf]; omega

set_option maxRecDepth 100000 in
set_option maxHeartbeats 2000000 in
theorem readPerson_x (w : World) (hE : Env w) :
    Calls Tryd.prog 13 #[.string ⟨#[120]⟩] w fun e w' => (∃ u, e = .returned (.tuple #[.agg #[.int .i64 0, .int .i64 0, .int .i64 0, .slice none 0 0], .bool false]) ∧ u = 0) ∧ Below w.heap.size w w' := by
  have hbx := boxes2 w #[.int .i64 0, .int .i64 0, .int .i64 0, .slice none 0 0] #[.int .i64 0, .int .i64 0, .int .i64 0, .slice none 0 0] 37 37
  have HX := Lib.hid hbx
  have HE := Lib.hid hE
  have HSP := Lib.hid (fun W hW => split_words [120] [] (by simp) (by decide) W hW)
  clear hE hbx
  go_enter Tryd.func13, Tryd.ntmps13
  go_upto_region 2 with fail
  have hzz : ((w.alloc (.cells #[.int .i64 0, .int .i64 0, .int .i64 0, .slice none 0 0] 37)).alloc (.cells #[.int .i64 0, .int .i64 0, .int .i64 0, .slice none 0 0] 37)).heap.size = w.heap.size + 2 := by simp
  generalize (w.alloc (.cells #[.int .i64 0, .int .i64 0, .int .i64 0, .slice none 0 0] 37)).alloc (.cells #[.int .i64 0, .int .i64 0, .int .i64 0, .slice none 0 0] 37) = w2 at *
  go_wp2_with fail
  refine (HSP.out w2 (HE.out.below HX.out.2.2)).mono ?_
  rintro e w3 ⟨rfl, hw3⟩
  have hb3 := box1 w2 (([[120]] : List (List UInt8)).map wordV).toArray 9
  rw [← hw3] at hb3
  have HB3 := Lib.hid (below_up HX.out.2.2 hb3.2 HX.out.2.2.size)
  have hR := HX.out.1.below hb3.2 HX.out.1.lt
  have hC := HX.out.2.1.below hb3.2 HX.out.2.1.lt
  have k0 := hC.cell 0
  have k1 := hC.cell 1
  have k2 := hC.cell 2
  have k3 := hC.cell 3
  have r0 := hR.cell 0
  have r1 := hR.cell 1
  have r2 := hR.cell 2
  have r3 := hR.cell 3
  have f0 := hR.fz 0
  have f1 := hR.fz 1
  have f2 := hR.fz 2
  have f3 := hR.fz 3
  have HZ := Lib.hid (show Has _ w.heap.size #[.int .i64 0, .int .i64 0, .int .i64 0, .slice none 0 0] 37 from (((hR.set 0 (.int .i64 0)).set 1 (.int .i64 0)).set 2 (.int .i64 0)).set 3 (.slice none 0 0))
  have HBZ := Lib.hid ((((HB3.out.setCell (p := ⟨w.heap.size, 0, none⟩) (Nat.le_refl _) (.int .i64 0)).setCell (p := ⟨w.heap.size, 1, none⟩) (Nat.le_refl _) (.int .i64 0)).setCell (p := ⟨w.heap.size, 2, none⟩) (Nat.le_refl _) (.int .i64 0)).setCell (p := ⟨w.heap.size, 3, none⟩) (Nat.le_refl _) (.slice none 0 0))
  clear hb3 hw3 hR hC HSP HX hzz
  go_wp2_with fail
  try simp only [Exit.inBlock, Exit.then]
  refine bodyPost_ret (results_cell_tmp_row rfl _ _ w.heap.size _ _ (0, 0) _ rfl HZ.out Tryd.underlying37 rfl infoPer) rfl ?_
  exact ⟨⟨0, rfl, rfl⟩, HBZ.out⟩

set_option maxRecDepth 100000 in
set_option maxHeartbeats 2000000 in
theorem ReadPeople_x (w : World) (hE : Env w) :
    Calls Tryd.prog 6 #[.string ⟨#[120]⟩] w fun e w' => e = .returned (.tuple #[.slice none 0 0, .int .i64 1, .int .i64 8]) ∧ Below w.heap.size w w' := by
  have HE := Lib.hid hE
  have hcu := fun W hW => cut_any [120] 10 (by decide) W hW
  rw [show Lib.cut [120] [10] = ([120], [], false) from cut_none 10 [120] (by decide)] at hcu
  have HCU := Lib.hid hcu
  have htn : (⟨#[120]⟩ : ByteArray).toList.isEmpty = false := by rw [ByteArray.toList_eq]; rfl
  have HRP := Lib.hid (fun W hW => readPerson_x W hW)
  clear hE hcu
  obtain ⟨T, hT⟩ : ∃ T : ByteArray, T = ⟨#[120]⟩ := ⟨_, rfl⟩
  have q0 : decide (400000 < (T.size : Int)) = false := by rw [hT]; decide
  have q1 : decide (400000 < T.size) = false := by rw [hT]; decide
  have hcu2 : (∀ W, Env W → Calls Tryd.prog 12 #[.string T, .string ⟨#[10]⟩] W fun e w' => e = .returned (.tuple #[.string T, .string ⟨#[]⟩, .bool false]) ∧ Below W.heap.size W w') := by rw [hT]; exact HCU.out
  have HCU := Lib.hid hcu2
  clear hcu2
  rw [← hT] at htn HRP ⊢
  clear hT
  go_enter Tryd.func6, Tryd.ntmps6
  go_wp2_with fail
  go_loopw [0, 5, 6] (fun sv lv av wx => sv = .string T ∧ lv = .slice none 0 0 ∧ av = .int .i64 1 ∧ wx = w) (fun _ _ av _ => 0)
  case atStart => exact ⟨rfl, rfl, rfl, rfl⟩
  case round =>
    obtain ⟨rfl, rfl, rfl, rfl⟩ := hrel
    go_wp2_with fail
    refine (HCU.out wr HE.out).mono ?_
    rintro e w3 ⟨rfl, hb3⟩
    have HB3 := Lib.hid hb3
    clear hb3 HCU
    go_wp2_with fail
    refine (HRP.out w3 (HE.out.below HB3.out)).mono ?_
    rintro e w4 ⟨⟨u, rfl, _⟩, hb4⟩
    have HB4 := Lib.hid (below_up HB3.out hb4 HB3.out.size)
    obtain ⟨bx, bbl⟩ := box1 w4 #[.int .i64 0, .int .i64 0, .int .i64 0, .slice none 0 0] 37
    have HB5 := Lib.hid (below_up HB4.out bbl HB4.out.size)
    clear hb4 bx bbl
    go_wp2_with fail
    go_ret3
    exact ⟨rfl, HB5.out⟩
set_option maxRecDepth 100000 in
theorem awakeRoute_any (w : World) (hE : Env w) : Calls Tryd.prog 4 #[] w fun e w' => e = .returned (.bool true) ∧ Below w.heap.size w w' := by
  go_enter Tryd.func4, Tryd.ntmps4
  go_wp2_with fail
  refine (ReadPeople_x w hE).mono ?_
  rintro e w1 ⟨rfl, hb⟩
  go_wp2
  go_ret
  exact ⟨rfl, hb⟩
end Go.Proofs.YtefdijgglakccaaDoor
