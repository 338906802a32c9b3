/- The walk of route.byTicket: what is held, sorted by its tickets. -/
import Derived.Test.YtemikhnkjligdaaGreatDoorQRfAsg
import Derived.Test.YtemikhnkjligdaaGreatDoorRfSort
import Derived.Shelf.SlSortCmp.NoneTotal
import Derived.Test.YtemikhnkjligdaaGreatDoorQPpChk2
import Derived.Laws.StructEq
namespace Go.Proofs.YtemikhnkjligdaaGreatDoor
open Go Go.RowKit Go.Sort Go.Shelf

instance instHdD : Inhabited HdD := ⟨⟨0, 0, 0, 0⟩⟩
def cmpT (x y : HdD) : Int := cmpI x.ticket y.ticket
theorem ltT (x y : HdD) : ltOf cmpT x y = decide (x.ticket < y.ticket) := by
  unfold ltOf cmpT
  exact decide_eq_decide.2 (cmpI_lt _ _).1
theorem swoT : SWO (ltOf cmpT) where
  irrefl x := by rw [ltT]; simp
  trans x y z h1 h2 := by rw [ltT] at *; simp at *; omega
  ntrans x y z h1 h2 := by rw [ltT] at *; simp at *; omega
set_option maxHeartbeats 1000000 in
theorem closT (x y : HdD) (W : World) : Calls Tryz.prog 41 #[.agg #[.int .i64 x.ticket, .int .i64 x.no, .int .i64 x.weight, .int .i64 x.since], .agg #[.int .i64 y.ticket, .int .i64 y.no, .int .i64 y.weight, .int .i64 y.since]] W fun e w' =>
    e = .returned (.int .i64 (cmpT x y)) ∧ ∃ q os', w' = grow (W.drewN q) os' := by
  have hcon := fun W' => cmp_any x.ticket y.ticket W'
  unfold cmpT
  generalize cmpI x.ticket y.ticket = r at hcon ⊢
  go_enter Tryz.func41, Tryz.ntmps41
  go_wp2_with (go_at_call 42; refine (hcon _).mono ?_; rintro e w' ⟨rfl, rfl⟩)
  go_ret
  exact ⟨rfl, 0, _, by rw [alloc_eq_grow, alloc_eq_grow, grow_grow]; rfl⟩
set_option maxRecDepth 100000 in
theorem sortT_any (B g cap : Nat) (l : List HdD) (w : World) (h : w.ownsRow B 33 4 (.slice (some ⟨g, 0, none⟩) l.length cap) l.length (hdCells l)) (hl : l.length ≤ 1000) :
    Calls Tryz.prog 40 #[.slice (some ⟨g, 0, none⟩) l.length cap, .func (.func 41) #[] #[]] w fun e w' => e = .returned (.tuple #[]) ∧ ∃ D : List HdD, D.Perm l ∧ (D.Pairwise fun x y => x.ticket ≤ y.ticket) ∧
      w'.ownsRow B 33 4 (.slice (some ⟨g, 0, none⟩) D.length cap) D.length (hdCells D) ∧ w.grownBy w' (some g) := by
  obtain ⟨hH, hblk, hback⟩ := owns_sortK (enc := hdC) (fun _ => rfl) h
  have eg : ∀ args w, (callFunc 41 args).run Tryz.prog w = .ok (.enter 41 args) w := enters_of Tryz.func41 (by kernel_rfl) rfl
  have hcon := AnyQ.slices_SortFunc Tryz.sort_Held 4 Tryz.isAgg33 Tryz.sizeOf33 hdC (fun _ => rfl) (fun x v hv => by
      simp [hdC] at hv
      rcases hv with rfl | rfl | rfl | rfl <;> rfl) cmpT swoT 41 #[] g 0 cap l.toArray w eg (fun _ _ _ _ x y => closT x y _) hH hblk (by simp; omega)
  change Calls Tryz.prog 40 _ _ _ at hcon
  simp only [List.size_toArray] at hcon
  refine hcon.mono ?_
  rintro e w' ⟨rfl, d, n, os, hp, hs, rfl⟩
  obtain ⟨p1, p2⟩ := perm_of_in (by simpa using hp)
  refine ⟨rfl, d.toList, p1, ?_, ?_, grownBy_sortedK d⟩
  · refine (pairwise_of_in p2 hs).imp fun {x y} hxy => ?_
    rw [ltT] at hxy
    simpa using hxy
  · have := hback d n os p2
    rw [show d.toList.length = l.length by rw [Array.length_toList]; exact p2]
    exact this
def TikPost (B : Nat) (l : List HdD) (a : Option Addr) (cap : Nat) (w : World) (e : Ending) (w' : World) : Prop :=
  e = .returned (.tuple #[]) ∧ ∃ D : List HdD, D.Perm l ∧ (D.Pairwise fun x y => x.ticket ≤ y.ticket) ∧ w'.ownsRow B 33 4 (.slice a l.length cap) D.length (hdCells D) ∧ w.grownBy w' (Value.slice a l.length cap).ownBlock
set_option maxRecDepth 100000 in
theorem byTicket_any (B : Nat) (a : Option Addr) (cap : Nat) (l : List HdD) (w : World) (h : w.ownsRow B 33 4 (.slice a l.length cap) l.length (hdCells l)) (hl : l.length ≤ 1000) :
    Calls Tryz.prog 21 #[.slice a l.length cap] w (TikPost B l a cap w) := by
  rcases Nat.eq_zero_or_pos l.length with h0 | hpos
  · obtain rfl := List.eq_nil_of_length_eq_zero h0
    have HO := Lib.hid h
    have HN := Lib.hid (AnyF.slices_SortFunc_none Tryz.sort_Held a cap (.func (.func 41) #[] #[]) w)
    clear h h0
    go_enter Tryz.func21, Tryz.ntmps21
    go_wp2_with fail
    refine HN.out.mono ?_
    rintro e w' ⟨rfl, rfl⟩
    go_wp2_with fail
    go_end0
    exact ⟨rfl, [], List.Perm.refl _, .nil, HO.out, grownBy_refl _ _⟩
  · obtain ⟨g, rfl⟩ : ∃ g, a = some ⟨g, 0, none⟩ := by
      rcases h.2 with ⟨_, q⟩ | ⟨g, _, _, hv, _⟩
      · omega
      · cases hv
        exact ⟨g, rfl⟩
    have HS := Lib.hid (sortT_any B g cap l w h hl)
    clear h
    go_enter Tryz.func21, Tryz.ntmps21
    go_wp2_with fail
    refine HS.out.mono ?_
    rintro e w' ⟨rfl, D, hp, hs, ho, hg⟩
    have HP := Lib.hid (show D.Perm l ∧ (D.Pairwise fun x y => x.ticket ≤ y.ticket) ∧ w'.ownsRow B 33 4 (.slice (some ⟨g, 0, none⟩) l.length cap) D.length (hdCells D) ∧ w.grownBy w' (some g) from ⟨hp, hs, by rw [← hp.length_eq]; exact ho, hg⟩)
    clear hp hs ho hg HS
    go_wp2_with fail
    go_end0
    exact ⟨rfl, D, HP.out.1, HP.out.2.1, HP.out.2.2.1, HP.out.2.2.2⟩
end Go.Proofs.YtemikhnkjligdaaGreatDoor

/- The walk of route.Assign. -/
namespace Go.Proofs.YtemikhnkjligdaaGreatDoor
open Go Go.RowKit

theorem ints5_at (w : World) (a b c d e : Int) (t : TypeId) : SliceAt 1 intR (w.alloc (.cells #[.int .i64 a, .int .i64 b, .int .i64 c, .int .i64 d, .int .i64 e] t)) (.slice (some ⟨w.heap.size, 0, none⟩) 5 5) [a, b, c, d, e] := by
  have hx := Has.new w #[.int .i64 a, .int .i64 b, .int .i64 c, .int .i64 d, .int .i64 e] t
  refine .inr ⟨w.heap.size, 0, 5, rfl, by simp, by simp, fun i hi => ?_⟩
  match i, hi with
  | 0, _ => exact ⟨[.int .i64 a], ⟨rfl, fun j hj => by
      have hj0 : j = 0 := by simpa using hj
      subst hj0
      exact hx.cell 0⟩, rfl⟩
  | 1, _ => exact ⟨[.int .i64 b], ⟨rfl, fun j hj => by
      have hj0 : j = 0 := by simpa using hj
      subst hj0
      exact hx.cell 1⟩, rfl⟩
  | 2, _ => exact ⟨[.int .i64 c], ⟨rfl, fun j hj => by
      have hj0 : j = 0 := by simpa using hj
      subst hj0
      exact hx.cell 2⟩, rfl⟩
  | 3, _ => exact ⟨[.int .i64 d], ⟨rfl, fun j hj => by
      have hj0 : j = 0 := by simpa using hj
      subst hj0
      exact hx.cell 3⟩, rfl⟩
  | 4, _ => exact ⟨[.int .i64 e], ⟨rfl, fun j hj => by
      have hj0 : j = 0 := by simpa using hj
      subst hj0
      exact hx.cell 4⟩, rfl⟩
theorem or5_zero (a b c d e : Int) : orI [a, b, c, d, e] = 0 ↔ a = 0 ∧ b = 0 ∧ c = 0 ∧ d = 0 ∧ e = 0 := by
  simp only [orI]
  by_cases h1 : a = 0 <;> by_cases h2 : b = 0 <;> by_cases h3 : c = 0 <;> by_cases h4 : d = 0 <;> by_cases h5 : e = 0 <;> simp [h1, h2, h3, h4, h5]
structure PreFine (ps : List PerD) (cs : List CalD) (held : List HdD) (ws : List WkD) (steps : List StD) (m : Int) : Prop where
  pp : PpFine ps
  cl : ClFine ps cs
  hd : HdFine ps held
  wk : WkFine SkFine ws
  st : StFine steps
  mo : 0 ≤ m ∧ m ≤ 3000000
structure AsFine (ps : List PerD) (cs : List CalD) (held : List HdD) (ws : List WkD) (steps : List StD) (m : Int) : Prop where
  pre : PreFine ps cs held ws steps m
  apart : ∀ w ∈ ws, ∀ h ∈ held, h.ticket ≠ w.ticket
def AssPost (ps : List PerD) (cs : List CalD) (held : List HdD) (ws : List WkD) (steps : List StD) (m : Int) (w : World) (e : Ending) (w' : World) : Prop :=
  ∃ k v1 v2, e = .returned (.tuple #[v1, v2, .int .i64 k]) ∧ (k = 0 ↔ AsFine ps cs held ws steps m) ∧ (k ≠ 0 → v1 = .slice none 0 0 ∧ v2 = .slice none 0 0) ∧
    (k = 0 → ∃ all left, Hds w' v1 all ∧ Wks w' v2 left ∧ Dealt (canF (dutyF cs m) (needsF steps m) ableF ps) ps m held ws all left) ∧ Below w.heap.size w w'
set_option maxRecDepth 100000 in
set_option maxHeartbeats 4000000 in
theorem Assign_any (ps : List PerD) (vp : Value) (cs : List CalD) (vc : Value) (steps : List StD) (vs : Value) (l : List HdD) (v : Value) (ws : List WkD) (vw : Value) (m : Int) (w : World) (hp : Pers w vp ps) (hpl : ps.length ≤ 9223372036854775807)
    (hc : Clds w vc cs) (h : Hds w v l) (hws : Wks w vw ws) (hst : Sts w vs steps) :
    Calls Tryz.prog 5 #[vp, vc, v, vw, vs, .int .i64 m] w (AssPost ps cs l ws steps m w) := by
  obtain ⟨pa, pc, rfl⟩ := SliceAt.len hp
  obtain ⟨ca, cc, rfl⟩ := SliceAt.len hc
  obtain ⟨a, cap, rfl⟩ := SliceAt.len h
  obtain ⟨wa, wcp, rfl⟩ := SliceAt.len hws
  obtain ⟨sa, sc, rfl⟩ := SliceAt.len hst
  have HP := Lib.hid hp
  have HC := Lib.hid hc
  have H := Lib.hid h
  have HW := Lib.hid hws
  have HS := Lib.hid hst
  have HPL := Lib.hid hpl
  clear hp hc h hws hst hpl
  go_enter Tryz.func5, Tryz.ntmps5
  go_wp2_with fail
  refine (checkCals_any ps _ cs _ w HP.out HC.out).mono ?_
  rintro e w1 ⟨⟨k1, rfl, hk1⟩, hb1⟩
  have HK1 := Lib.hid hk1
  have HB1 := Lib.hid hb1
  clear hk1 hb1
  go_wp2_with fail
  refine (checkHeld_any ps _ l _ w1 (HP.out.below HB1.out) HPL.out (H.out.below HB1.out)).mono ?_
  rintro e w2 ⟨⟨k2, rfl, hk2⟩, hb2⟩
  have HK2 := Lib.hid hk2
  have HB2 := Lib.hid (below_up HB1.out hb2 HB1.out.size)
  clear hk2 hb2 HB1
  go_wp2_with fail
  refine (CheckWork_any ws _ w2 (HW.out.below HB2.out)).mono ?_
  rintro e w3 ⟨⟨k3, rfl, hk3⟩, hb3⟩
  have HK3 := Lib.hid hk3
  have HB3 := Lib.hid (below_up HB2.out hb3 HB2.out.size)
  clear hk3 hb3 HB2
  go_wp2_with fail
  refine (CheckSteps_any steps _ w3 (HS.out.below HB3.out)).mono ?_
  rintro e w4 ⟨⟨k4, rfl, hk4⟩, hb4⟩
  have HK4 := Lib.hid hk4
  have HB4 := Lib.hid (below_up HB3.out hb4 HB3.out.size)
  clear hk4 hb4 HB3
  go_wp2_with fail
  refine (rmoment_any m w4).mono ?_
  rintro e w' ⟨⟨k5, rfl, hk5⟩, rfl⟩
  have hor := or_any _ [k1, k2, k3, k4, k5] _ (ints5_at w4 k1 k2 k3 k4 k5 28) (by simp)
  have hb5 := box1 w4 #[.int .i64 k1, .int .i64 k2, .int .i64 k3, .int .i64 k4, .int .i64 k5] 28
  have HB5 := Lib.hid (below_up HB4.out hb5.2 HB4.out.size)
  have HKZ := Lib.hid (show orI [k1, k2, k3, k4, k5] = 0 ↔ PreFine ps cs l ws steps m from by
    rw [or5_zero, HK1.out, HK2.out, HK3.out, HK4.out, hk5]
    exact ⟨fun ⟨⟨a, b⟩, c, d, e, f⟩ => ⟨a, b, c, d, e, f⟩, fun g => ⟨⟨g.pp, g.cl⟩, g.hd, g.wk, g.st, g.mo⟩⟩)
  clear hk5 hb5 HB4 HK1 HK2 HK3 HK4
  go_wp2_with fail
  refine hor.mono ?_
  rintro e w' ⟨rfl, rfl⟩
  clear hor
  generalize w4.alloc (.cells #[.int .i64 k1, .int .i64 k2, .int .i64 k3, .int .i64 k4, .int .i64 k5] 28) = w5 at *
  generalize orI [k1, k2, k3, k4, k5] = k at *
  by_cases hz : ¬ k = 0
  · have qz : (k == 0) = false := by simpa using hz
    have qz2 : (k != 0) = true := by simpa using hz
    have HZ := Lib.hid hz
    clear hz
    go_wp2_with fail
    go_ret3
    exact ⟨k, _, _, rfl, ⟨fun g => absurd g HZ.out, fun g => HKZ.out.2 g.pre⟩, fun _ => ⟨rfl, rfl⟩, fun g => absurd g HZ.out, HB5.out⟩
  have hz := Decidable.not_not.1 hz
  have HF := Lib.hid (HKZ.out.1 hz)
  subst hz
  clear HKZ
  have hwl := HF.out.wk.few
  have hll := HF.out.hd.1
  have hpl := HF.out.pp.1
  go_wp2_with fail
  go_loopw [41] (fun iv wr => ∃ i : Nat, iv = .int .i64 ((i : Nat) : Int) ∧ i ≤ ws.length ∧ (∀ j (hj : j < ws.length), j < i → ∀ x ∈ l, x.ticket ≠ ws[j].ticket) ∧ Below w.heap.size w wr) (fun iv _ => ws.length - (intOf iv).toNat)
  case atStart => exact ⟨0, rfl, Nat.zero_le _, fun j _ hj => absurd hj (by omega), HB5.out⟩
  case round =>
    obtain ⟨i, rfl, hi, hap, hbr⟩ := hrel
    have HAP := Lib.hid hap
    have HBR := Lib.hid hbr
    clear hap hbr HB5
    by_cases hlt : i < ws.length
    · obtain ⟨b, off, cap', hv, hb, hel⟩ := Wks.at (HW.out.below HBR.out) (by omega)
      cases hv
      obtain ⟨u, e0, e1, e2, e3, e4, e5, hsk⟩ := hel i hlt
      obtain ⟨ka, kc, rfl⟩ := SliceAt.len hsk
      obtain ⟨sn, hsn⟩ : ∃ sn, sn = (ws[i].needs).length := ⟨_, rfl⟩
      rw [← hsn] at e5
      clear hel hsk hsn
      have HX := Lib.hid (rfl : ws[i] = ws[i])
      obtain ⟨x, hx⟩ : ∃ x, x = ws[i] := ⟨_, rfl⟩
      rw [← hx] at e0 e1 e2 e3 e4
      obtain ⟨x1, x2, x3, x4, x5, sk⟩ := x
      simp only at e0 e1 e2 e3 e4
      have HXE := Lib.hid hx
      clear hx HX
      obtain ⟨bx, bbl⟩ := box1 wr #[.int .i64 x1, .int .i64 x2, .int .i64 x3, .int .i64 x4, .int .i64 x5, .slice ka sn kc] 38
      have HB4 := Lib.hid (below_up HBR.out bbl HBR.out.size)
      have HCT := Lib.hid (ContainsHlt_any _ l x1 wr.heap.size _ (H.out.below HB4.out) (bx.cell 0) bx.lt (by omega))
      go_upto_region 7 with fail
      generalize wr.alloc (.cells #[.int .i64 x1, .int .i64 x2, .int .i64 x3, .int .i64 x4, .int .i64 x5, .slice ka sn kc] 38) = wb at *
      clear bx bbl e0 e1 e2 e3 e4 e5
      go_wp2_with fail
      refine HCT.out.mono ?_
      rintro e w7 ⟨rfl, hb7⟩
      have HB7 := Lib.hid (below_up HB4.out hb7 HB4.out.size)
      clear hb7 HCT
      obtain ⟨t, ht⟩ : ∃ t, (l.any fun x => x.ticket == x1) = t := ⟨_, rfl⟩
      rw [ht]
      have HT := Lib.hid ht
      clear ht
      cases t with
      | true =>
        have HNF := Lib.hid (show ¬ AsFine ps cs l ws steps m from fun g => by
          obtain ⟨y, hy, e⟩ := List.any_eq_true.1 HT.out
          refine g.apart ws[i] (List.getElem_mem hlt) y hy ?_
          rw [← HXE.out]
          simpa using e)
        go_wp2_with fail
        go_ret3
        exact ⟨6, _, _, rfl, ⟨fun g => absurd g (by decide), fun g => absurd g HNF.out⟩, fun _ => ⟨rfl, rfl⟩, fun g => absurd g (by decide), HB7.out⟩
      | false =>
        have HAP2 := Lib.hid (show ∀ x ∈ l, x.ticket ≠ ws[i].ticket from fun y hy => by
          have := List.any_eq_false.1 HT.out y hy
          rw [← HXE.out]
          simpa using this)
        go_wp2_with fail
        go_roundw
        case rel =>
          refine ⟨i + 1, by go_num, hlt, fun j hj hji => ?_, HB7.out⟩
          by_cases g : j = i
          · subst g; exact HAP2.out
          · exact HAP.out j hj (by omega)
        case measure => simp [intOf]; omega
    · obtain rfl : i = ws.length := by omega
      have HFA := Lib.hid (show AsFine ps cs l ws steps m from ⟨HF.out, fun x hx => by
        obtain ⟨j, hj, rfl⟩ := List.mem_iff_getElem.1 hx
        exact HAP.out j hj hj⟩)
      have hrb := make_bools wr ps.length (by omega)
      have hob := madeBools wr ps.length
      have hbp : Below wr.heap.size wr (wr.alloc (.cells (madeCells #[.bool false] ps.length) 4)) := (Below.refl _ _).alloc (Nat.le_refl _) _
      have HB6 := Lib.hid (below_up HBR.out hbp HBR.out.size)
      have HOB := Lib.hid hob
      clear HAP hob hbp
      generalize wr.alloc (.cells (madeCells #[.bool false] ps.length) 4) = w6 at *
      generalize hAw : wr.heap.size = Aw at *
      obtain ⟨bx, bbl⟩ := box1 w6 #[.slice pa ps.length pc, .slice ca cs.length cc, .slice sa steps.length sc, .slice (some ⟨Aw, 0, none⟩) ps.length ps.length] 56
      have HB7 := Lib.hid (below_up HB6.out bbl HB6.out.size)
      have HAS := Lib.hid (assign_any ps _ cs _ _ steps w6.heap.size Aw l _ ws _ m _ bx (Has.below HOB.out bbl (Has.lt HOB.out)) (HP.out.below HB7.out) (HC.out.below HB7.out) (H.out.below HB7.out) (HW.out.below HB7.out) (HS.out.below HB7.out) HF.out.pp HF.out.cl HF.out.hd HF.out.wk HF.out.st HF.out.mo)
      clear HBR hAw bx bbl
      go_upto_region 11 with fail
      generalize w6.alloc (.cells #[.slice pa ps.length pc, .slice ca cs.length cc, .slice sa steps.length sc, .slice (some ⟨Aw, 0, none⟩) ps.length ps.length] 56) = w7 at *
      clear HB6 HOB hrb
      go_wp2_with fail
      refine HAS.out.mono ?_
      rintro e w8 ⟨out, left, vo, vl, rfl, hho, hvl, has, hb8⟩
      obtain ⟨oa, oc, rfl⟩ := SliceAt.len hho
      obtain ⟨ga, gc, rfl⟩ := SliceAt.len hvl
      have HB8 := Lib.hid (below_up HB7.out hb8 HB7.out.size)
      have HHO := Lib.hid hho
      have HVL := Lib.hid hvl
      have HAG := Lib.hid has
      have hol : out.length ≤ 200 := by
        have h1 := has.tick.length_eq
        rw [List.length_append, List.length_map, List.length_map, List.length_map] at h1
        omega
      clear hho hvl has hb8 HAS HB7
      obtain ⟨bx, bbl⟩ := box1 w8 #[.slice a l.length cap, .slice oa out.length oc] 24
      have HB9 := Lib.hid (below_up HB8.out bbl HB8.out.size)
      have HVL9 := Lib.hid (HVL.out.below bbl)
      have HCO := Lib.hid (concat_any w8.heap.size a oa cap oc l out _ bx (H.out.below HB9.out) (HHO.out.below bbl) (by omega))
      go_upto_region 12 with fail
      go_wp2_with fail
      generalize w8.alloc (.cells #[.slice a l.length cap, .slice oa out.length oc] 24) = w9 at *
      clear bx bbl HVL HB8 HHO
      refine HCO.out.mono ?_
      rintro e w10 ⟨la', lc, rfl, ho10, hb10⟩
      have HB10 := Lib.hid (below_up HB9.out hb10 HB9.out.size)
      have HVL10 := Lib.hid (HVL9.out.below hb10)
      have hcl : (l ++ out).length ≤ 1000 := by rw [List.length_append]; omega
      have HBT := Lib.hid (byTicket_any w9.heap.size la' lc (l ++ out) w10 ho10 hcl)
      have HLO := Lib.hid (fun g (hg : (Value.slice la' (l ++ out).length lc).ownBlock = some g) => (ho10.lt g hg).1)
      have hz9 := HB9.out.size
      have hz10 := hb10.size
      have HWK9 := Lib.hid (show Wks w10 (.slice ga left.length gc) left from HVL10.out)
      have HVW := Lib.hid (show Below w9.heap.size w9 w10 from hb10)
      obtain ⟨nl, hnl⟩ : ∃ nl, (l ++ out).length = nl := ⟨_, rfl⟩
      have HNL := Lib.hid hnl
      rw [hnl] at HBT HLO ⊢
      clear ho10 hb10 HCO hcl hnl
      go_wp2_with fail
      refine HBT.out.mono ?_
      unfold TikPost
      rintro e w11 ⟨rfl, D, hpm, hso, ho, hg⟩
      rw [HNL.out] at ho hg
      have hb11 : Below w9.heap.size w10 w11 := (Below.refl _ _).grown hg hz10 (fun k hk => HLO.out k hk)
      have HW11 := Lib.hid (HVL9.out.below (HVW.out.trans hb11))
      have HB11 := Lib.hid (HB10.out.trans (hb11.mono hz9))
      have HHD := Lib.hid (show Hds w11 (.slice la' nl lc) D from by
        have hDl : D.length = nl := by rw [hpm.length_eq]; exact HNL.out
        exact hds_of ho)
      have HDE := Lib.hid (show Dealt (canF (dutyF cs m) (needsF steps m) ableF ps) ps m l ws D left from ⟨⟨out, HAG.out, hpm⟩, hso⟩)
      clear hpm hso ho hg hb11 HBT
      go_wp2_with fail
      go_ret3
      exact ⟨0, _, _, rfl, ⟨fun _ => HFA.out, fun _ => rfl⟩, fun g => absurd rfl g, fun _ => ⟨D, left, HHD.out, HW11.out, HDE.out⟩, HB11.out⟩
end Go.Proofs.YtemikhnkjligdaaGreatDoor

/- What is held, compared. -/
namespace Go.Proofs.YtemikhnkjligdaaGreatDoor
open Go Go.RowKit

theorem hd_eq (x1 x2 x3 x4 y1 y2 y3 y4 : Int) : ((⟨x1, x2, x3, x4⟩ : HdD) = ⟨y1, y2, y3, y4⟩) ↔ x1 = y1 ∧ x2 = y2 ∧ x3 = y3 ∧ x4 = y4 := by
  constructor
  · intro h
    injection h with a b c d
    exact ⟨a, b, c, d⟩
  · rintro ⟨rfl, rfl, rfl, rfl⟩
    rfl
theorem guardH : Tryz.prog.eqGuardType Tryz.prog.depth 33 = false := by kernel_rfl
theorem eqH (x1 x2 x3 x4 y1 y2 y3 y4 : Int) (w : World) : (binOp .eql 33 (.agg #[.int .i64 x1, .int .i64 x2, .int .i64 x3, .int .i64 x4]) (.agg #[.int .i64 y1, .int .i64 y2, .int .i64 y3, .int .i64 y4])).run Tryz.prog w = .ok (.bool (decide ((⟨x1, x2, x3, x4⟩ : HdD) = ⟨y1, y2, y3, y4⟩))) w := by
  have ht : Tryz.prog.underlying 33 = some (.struct (Tryz.prog.fieldsOf 33)) := by kernel_rfl
  have hp : Tryz.prog.stoodInHeld 33 = false := by kernel_rfl
  rw [run_eql_struct, run_equalIn_agg _ _ _ _ _ ht hp]
  simp only [Program.fieldsOf, Tryz.underlying33]
  simp only [hd_eq]
  simp [go_sem, Tryz.underlying3, Tryz.isAgg3]
  by_cases h1 : x1 = y1 <;> by_cases h2 : x2 = y2 <;> by_cases h3 : x3 = y3 <;> by_cases h4 : x4 = y4 <;> simp [h1, h2, h3, h4]
theorem neH (x1 x2 x3 x4 y1 y2 y3 y4 : Int) (w : World) : (binOp .neq 33 (.agg #[.int .i64 x1, .int .i64 x2, .int .i64 x3, .int .i64 x4]) (.agg #[.int .i64 y1, .int .i64 y2, .int .i64 y3, .int .i64 y4])).run Tryz.prog w = .ok (.bool (!decide ((⟨x1, x2, x3, x4⟩ : HdD) = ⟨y1, y2, y3, y4⟩))) w := by
  have h := eqH x1 x2 x3 x4 y1 y2 y3 y4 w
  rw [run_eql_struct] at h
  rw [run_neq_struct]
  cases hr : (Op.equalIn 10000 33 (.agg #[.int .i64 x1, .int .i64 x2, .int .i64 x3, .int .i64 x4]) (.agg #[.int .i64 y1, .int .i64 y2, .int .i64 y3, .int .i64 y4])).run Tryz.prog w with
  | ok b w' =>
    rw [hr] at h
    simp only [Result.andThen_ok, Result.ok.injEq, Value.bool.injEq] at h ⊢
    exact ⟨by rw [h.1], h.2⟩
  | halt x w' =>
    rw [hr] at h
    simp [Result.andThen] at h
end Go.Proofs.YtemikhnkjligdaaGreatDoor
