/- The walk of the keeper's each, at each of the functions that it is called with. -/
import Derived.Test.YtllcgcnebofdoaaGreatDoorQCkCut
import Derived.Test.YtllcgcnebofdoaaGreatDoorQCkSt
import Derived.Maps.Own
import Derived.Maps.Views
import Derived.StringKeys
namespace Go.Proofs.YtllcgcnebofdoaaGreatDoor
open Go.RowKit

set_option maxRecDepth 100000 in
set_option maxHeartbeats 4000000 in
theorem each_met (f : RunD → RunD) (J : World → Prop) (c1 c2 c3 : Value) (B K : Nat) (vp vl vk : Value) (lev : Int) (l : List Rc) (w : World) (h : KM w B K vp vl lev vk l) (hj0 : J w) (hB : B ≤ w.heap.size)
    (hJ : ∀ W W', J W → Below B W W' → KeepsR W W' → J W') (hok : ∀ r ∈ runsOf l, RunOk r ∧ r.c.ps.length ≤ 1000000) (hl : l.length ≤ 1000000)
    (hshow : ∀ W b v r, J W → RM W B b v r → RunOk r → r.c.ps.length ≤ 1000000 → B ≤ W.heap.size → Calls Tryz.prog 44 #[.pointer (some ⟨b, 0, none⟩), c1, c2, c3] W (RunPost W B b v (f r))) :
    Calls Tryz.prog 43 #[.pointer (some ⟨K, 0, none⟩), .func (.func 44) #[] #[c1, c2, c3]] w (EachPost w B K vp vl vk lev f J (runsOf l)) := by
  have hlr : (runsOf l).length = l.length := by simp [runsOf]
  obtain ⟨ka, kc, rfl⟩ := owns_slice h.row
  have HI0 := Lib.hid (show EachI w w B K vp vl (.slice ka l.length kc) lev f J (runsOf l) 0 from ⟨Nat.zero_le _, ⟨l, h, by simp [eachF]⟩, Below.refl _ _, KeepsR.refl _, hj0⟩)
  have k3 := h.box.cell 3
  have HJ := Lib.hid hJ
  have HOK := Lib.hid hok
  have HSH := Lib.hid hshow
  clear h hj0 hJ hok hshow
  generalize hR : runsOf l = R at *
  generalize l.length = n at *
  subst hlr
  clear hR
  go_enter Tryz.func43, Tryz.ntmps43
  go_wp2_with fail
  go_loopw [11] (fun iv wr => ∃ i : Nat, iv = .int .i64 ((i : Nat) : Int) ∧ EachI w wr B K vp vl (.slice ka R.length kc) lev f J R i) (fun iv _ => R.length - (intOf iv).toNat)
  case atStart => exact ⟨0, rfl, HI0.out⟩
  case round =>
    obtain ⟨i, rfl, hI⟩ := hrel
    have HI := Lib.hid hI
    have hi := hI.le
    obtain ⟨l', hM, hRR⟩ := hI.mem
    have hln : l'.length = R.length := by
      have := congrArg List.length hRR
      rw [List.length_append, each_len, List.length_take, List.length_drop] at this
      simp [runsOf] at this
      omega
    have HM := Lib.hid hM
    have HRR := Lib.hid hRR
    clear hI HI0 k3 hM hRR
    by_cases hlt : i < R.length
    · have hlt2 : i < l'.length := by omega
      have hat := each_at f R hlt HRR.out
      have hri : l'[i].2.2 = R[i] := by
        have : (runsOf l')[i]? = some l'[i].2.2 := by simp [runsOf, hlt2]
        rw [this] at hat
        exact Option.some.inj hat
      have hrow := HM.out.row
      rw [hln] at hrow
      obtain ⟨g, cap, hv, hgB, hgw⟩ := hrow.form (by omega)
      cases hv
      have c0 : wr.cell? ⟨g, i, none⟩ = some (.pointer (some ⟨l'[i].1, 0, none⟩)) := by
        rw [hrow.cellAt i (by omega)]
        simp [hlt2, rcPtr]
      have hbx := (HM.out.has i hlt2).box
      have k5 : wr.cell? ⟨l'[i].1, 5, none⟩ = some (.int .i64 R[i].c.fin) := by
        rw [← hri]
        exact hbx.cell 5
      have HNX := Lib.hid (each_next f R hlt)
      obtain ⟨ho1, ho2⟩ := HOK.out _ (List.getElem_mem hlt)
      have HSW := Lib.hid (HSH.out wr l'[i].1 l'[i].2.1 R[i] HI.out.j (by rw [← hri]; exact HM.out.has i hlt2) ho1 ho2 (Nat.le_trans hB HI.out.below.size))
      have HUP := Lib.hid (fun (w' : World) (v' : Value) (r' : RunD) (hm : RM w' B l'[i].1 v' r') (h1 : One2 wr w' l'[i].1 l'[i].2.1) (hf : Fr wr l'[i].2.1 v') => (⟨HM.out.upd hlt2 hm h1 hf, h1.below (HM.out.has i hlt2) (Nat.le_trans hB HI.out.below.size), h1.keepsR (HM.out.has i hlt2)⟩ : KM w' B K vp vl lev (.slice (some ⟨g, 0, none⟩) R.length kc) (l'.set i (l'[i].1, v', r')) ∧ Below B wr w' ∧ KeepsR wr w'))
      have HRS := Lib.hid (fun (v' : Value) (r' : RunD) => show runsOf (l'.set i (l'[i].1, v', r')) = (runsOf l').set i r' by simp [runsOf, List.map_set])
      have HST := Lib.hid (show R[i].c.fin ≠ 0 → eachF f (R.take (i + 1)) ++ R.drop (i + 1) = runsOf l' from fun hne => by
        rw [HNX.out, if_neg hne, ← HRR.out]
        have : (runsOf l')[i]? = some R[i] := hat
        obtain ⟨hj, he⟩ := List.getElem?_eq_some_iff.1 this
        rw [← he, List.set_getElem_self])
      clear hrow hat hbx hri ho1 ho2 HSH
      generalize l'[i].1 = b at *
      generalize l'[i].2.1 = v at *
      by_cases hf : R[i].c.fin = 0
      · rw [if_pos hf] at HNX
        rw [hf] at k5
        clear HST hf
        generalize R[i] = r at *
        go_wp2_with fail
        refine HSW.out.mono ?_
        rintro e w3 ⟨⟨u, rfl⟩, v', hm, h1, hfr⟩
        obtain ⟨hM3, hb3, hk3⟩ := HUP.out w3 v' (f r) hm h1 hfr
        have HIN := Lib.hid (show EachI w w3 B K vp vl (.slice (some ⟨g, 0, none⟩) R.length kc) lev f J R (i + 1) from ⟨hlt, ⟨_, hM3, by rw [HRS.out, HRR.out, HNX.out]⟩, HI.out.below.trans hb3, HI.out.keeps.trans hk3, HJ.out _ _ HI.out.j hb3 hk3⟩)
        clear hm h1 hfr hM3 hb3 hk3 HSW HUP HRS HNX
        go_wp2_with fail
        go_roundw
        case rel => exact ⟨i + 1, by go_num, HIN.out⟩
        case measure => simp [intOf]; omega
      · have q1 : (R[i].c.fin == 0) = false := by simpa using hf
        have q2 : decide (R[i].c.fin = 0) = false := decide_eq_false hf
        have HIN := Lib.hid (show EachI w wr B K vp vl (.slice (some ⟨g, 0, none⟩) R.length kc) lev f J R (i + 1) from ⟨hlt, ⟨l', HM.out, (HST.out hf).symm⟩, HI.out.below, HI.out.keeps, HI.out.j⟩)
        clear hf HSW HUP HRS HNX HST
        generalize R[i].c.fin = fi at *
        go_wp2_with fail
        go_roundw
        case rel => exact ⟨i + 1, by go_num, HIN.out⟩
        case measure => simp [intOf]; omega
    · obtain rfl : i = R.length := by omega
      have HZ := Lib.hid (show EachPost w B K vp vl (.slice ka R.length kc) lev f J R (.returned (.tuple #[])) wr from ⟨⟨_, rfl⟩, ⟨l', HM.out, by rw [HRR.out, List.take_length, List.drop_length, List.append_nil]⟩, HI.out.below, HI.out.keeps, HI.out.j⟩)
      clear HM HRR HI
      go_wp2_with fail
      go_end0
      exact HZ.out

set_option maxRecDepth 100000 in
set_option maxHeartbeats 4000000 in
theorem each_chs (f : RunD → RunD) (J : World → Prop) (c1 c2 c3 : Value) (B K : Nat) (vp vl vk : Value) (lev : Int) (l : List Rc) (w : World) (h : KM w B K vp vl lev vk l) (hj0 : J w) (hB : B ≤ w.heap.size)
    (hJ : ∀ W W', J W → Below B W W' → KeepsR W W' → J W') (hok : ∀ r ∈ runsOf l, RunOk r ∧ r.c.ps.length ≤ 1000000) (hl : l.length ≤ 1000000)
    (hshow : ∀ W b v r, J W → RM W B b v r → RunOk r → r.c.ps.length ≤ 1000000 → B ≤ W.heap.size → Calls Tryz.prog 79 #[.pointer (some ⟨b, 0, none⟩), c1, c2, c3] W (RunPost W B b v (f r))) :
    Calls Tryz.prog 43 #[.pointer (some ⟨K, 0, none⟩), .func (.func 79) #[] #[c1, c2, c3]] w (EachPost w B K vp vl vk lev f J (runsOf l)) := by
  have hlr : (runsOf l).length = l.length := by simp [runsOf]
  obtain ⟨ka, kc, rfl⟩ := owns_slice h.row
  have HI0 := Lib.hid (show EachI w w B K vp vl (.slice ka l.length kc) lev f J (runsOf l) 0 from ⟨Nat.zero_le _, ⟨l, h, by simp [eachF]⟩, Below.refl _ _, KeepsR.refl _, hj0⟩)
  have k3 := h.box.cell 3
  have HJ := Lib.hid hJ
  have HOK := Lib.hid hok
  have HSH := Lib.hid hshow
  clear h hj0 hJ hok hshow
  generalize hR : runsOf l = R at *
  generalize l.length = n at *
  subst hlr
  clear hR
  go_enter Tryz.func43, Tryz.ntmps43
  go_wp2_with fail
  go_loopw [11] (fun iv wr => ∃ i : Nat, iv = .int .i64 ((i : Nat) : Int) ∧ EachI w wr B K vp vl (.slice ka R.length kc) lev f J R i) (fun iv _ => R.length - (intOf iv).toNat)
  case atStart => exact ⟨0, rfl, HI0.out⟩
  case round =>
    obtain ⟨i, rfl, hI⟩ := hrel
    have HI := Lib.hid hI
    have hi := hI.le
    obtain ⟨l', hM, hRR⟩ := hI.mem
    have hln : l'.length = R.length := by
      have := congrArg List.length hRR
      rw [List.length_append, each_len, List.length_take, List.length_drop] at this
      simp [runsOf] at this
      omega
    have HM := Lib.hid hM
    have HRR := Lib.hid hRR
    clear hI HI0 k3 hM hRR
    by_cases hlt : i < R.length
    · have hlt2 : i < l'.length := by omega
      have hat := each_at f R hlt HRR.out
      have hri : l'[i].2.2 = R[i] := by
        have : (runsOf l')[i]? = some l'[i].2.2 := by simp [runsOf, hlt2]
        rw [this] at hat
        exact Option.some.inj hat
      have hrow := HM.out.row
      rw [hln] at hrow
      obtain ⟨g, cap, hv, hgB, hgw⟩ := hrow.form (by omega)
      cases hv
      have c0 : wr.cell? ⟨g, i, none⟩ = some (.pointer (some ⟨l'[i].1, 0, none⟩)) := by
        rw [hrow.cellAt i (by omega)]
        simp [hlt2, rcPtr]
      have hbx := (HM.out.has i hlt2).box
      have k5 : wr.cell? ⟨l'[i].1, 5, none⟩ = some (.int .i64 R[i].c.fin) := by
        rw [← hri]
        exact hbx.cell 5
      have HNX := Lib.hid (each_next f R hlt)
      obtain ⟨ho1, ho2⟩ := HOK.out _ (List.getElem_mem hlt)
      have HSW := Lib.hid (HSH.out wr l'[i].1 l'[i].2.1 R[i] HI.out.j (by rw [← hri]; exact HM.out.has i hlt2) ho1 ho2 (Nat.le_trans hB HI.out.below.size))
      have HUP := Lib.hid (fun (w' : World) (v' : Value) (r' : RunD) (hm : RM w' B l'[i].1 v' r') (h1 : One2 wr w' l'[i].1 l'[i].2.1) (hf : Fr wr l'[i].2.1 v') => (⟨HM.out.upd hlt2 hm h1 hf, h1.below (HM.out.has i hlt2) (Nat.le_trans hB HI.out.below.size), h1.keepsR (HM.out.has i hlt2)⟩ : KM w' B K vp vl lev (.slice (some ⟨g, 0, none⟩) R.length kc) (l'.set i (l'[i].1, v', r')) ∧ Below B wr w' ∧ KeepsR wr w'))
      have HRS := Lib.hid (fun (v' : Value) (r' : RunD) => show runsOf (l'.set i (l'[i].1, v', r')) = (runsOf l').set i r' by simp [runsOf, List.map_set])
      have HST := Lib.hid (show R[i].c.fin ≠ 0 → eachF f (R.take (i + 1)) ++ R.drop (i + 1) = runsOf l' from fun hne => by
        rw [HNX.out, if_neg hne, ← HRR.out]
        have : (runsOf l')[i]? = some R[i] := hat
        obtain ⟨hj, he⟩ := List.getElem?_eq_some_iff.1 this
        rw [← he, List.set_getElem_self])
      clear hrow hat hbx hri ho1 ho2 HSH
      generalize l'[i].1 = b at *
      generalize l'[i].2.1 = v at *
      by_cases hf : R[i].c.fin = 0
      · rw [if_pos hf] at HNX
        rw [hf] at k5
        clear HST hf
        generalize R[i] = r at *
        go_wp2_with fail
        refine HSW.out.mono ?_
        rintro e w3 ⟨⟨u, rfl⟩, v', hm, h1, hfr⟩
        obtain ⟨hM3, hb3, hk3⟩ := HUP.out w3 v' (f r) hm h1 hfr
        have HIN := Lib.hid (show EachI w w3 B K vp vl (.slice (some ⟨g, 0, none⟩) R.length kc) lev f J R (i + 1) from ⟨hlt, ⟨_, hM3, by rw [HRS.out, HRR.out, HNX.out]⟩, HI.out.below.trans hb3, HI.out.keeps.trans hk3, HJ.out _ _ HI.out.j hb3 hk3⟩)
        clear hm h1 hfr hM3 hb3 hk3 HSW HUP HRS HNX
        go_wp2_with fail
        go_roundw
        case rel => exact ⟨i + 1, by go_num, HIN.out⟩
        case measure => simp [intOf]; omega
      · have q1 : (R[i].c.fin == 0) = false := by simpa using hf
        have q2 : decide (R[i].c.fin = 0) = false := decide_eq_false hf
        have HIN := Lib.hid (show EachI w wr B K vp vl (.slice (some ⟨g, 0, none⟩) R.length kc) lev f J R (i + 1) from ⟨hlt, ⟨l', HM.out, (HST.out hf).symm⟩, HI.out.below, HI.out.keeps, HI.out.j⟩)
        clear hf HSW HUP HRS HNX HST
        generalize R[i].c.fin = fi at *
        go_wp2_with fail
        go_roundw
        case rel => exact ⟨i + 1, by go_num, HIN.out⟩
        case measure => simp [intOf]; omega
    · obtain rfl : i = R.length := by omega
      have HZ := Lib.hid (show EachPost w B K vp vl (.slice ka R.length kc) lev f J R (.returned (.tuple #[])) wr from ⟨⟨_, rfl⟩, ⟨l', HM.out, by rw [HRR.out, List.take_length, List.drop_length, List.append_nil]⟩, HI.out.below, HI.out.keeps, HI.out.j⟩)
      clear HM HRR HI
      go_wp2_with fail
      go_end0
      exact HZ.out

set_option maxRecDepth 100000 in
set_option maxHeartbeats 4000000 in
theorem each_pau (f : RunD → RunD) (J : World → Prop) (c1 c2 : Value) (B K : Nat) (vp vl vk : Value) (lev : Int) (l : List Rc) (w : World) (h : KM w B K vp vl lev vk l) (hj0 : J w) (hB : B ≤ w.heap.size)
    (hJ : ∀ W W', J W → Below B W W' → KeepsR W W' → J W') (hok : ∀ r ∈ runsOf l, RunOk r ∧ r.c.ps.length ≤ 1000000) (hl : l.length ≤ 1000000)
    (hshow : ∀ W b v r, J W → RM W B b v r → RunOk r → r.c.ps.length ≤ 1000000 → B ≤ W.heap.size → Calls Tryz.prog 51 #[.pointer (some ⟨b, 0, none⟩), c1, c2] W (RunPost W B b v (f r))) :
    Calls Tryz.prog 43 #[.pointer (some ⟨K, 0, none⟩), .func (.func 51) #[] #[c1, c2]] w (EachPost w B K vp vl vk lev f J (runsOf l)) := by
  have hlr : (runsOf l).length = l.length := by simp [runsOf]
  obtain ⟨ka, kc, rfl⟩ := owns_slice h.row
  have HI0 := Lib.hid (show EachI w w B K vp vl (.slice ka l.length kc) lev f J (runsOf l) 0 from ⟨Nat.zero_le _, ⟨l, h, by simp [eachF]⟩, Below.refl _ _, KeepsR.refl _, hj0⟩)
  have k3 := h.box.cell 3
  have HJ := Lib.hid hJ
  have HOK := Lib.hid hok
  have HSH := Lib.hid hshow
  clear h hj0 hJ hok hshow
  generalize hR : runsOf l = R at *
  generalize l.length = n at *
  subst hlr
  clear hR
  go_enter Tryz.func43, Tryz.ntmps43
  go_wp2_with fail
  go_loopw [11] (fun iv wr => ∃ i : Nat, iv = .int .i64 ((i : Nat) : Int) ∧ EachI w wr B K vp vl (.slice ka R.length kc) lev f J R i) (fun iv _ => R.length - (intOf iv).toNat)
  case atStart => exact ⟨0, rfl, HI0.out⟩
  case round =>
    obtain ⟨i, rfl, hI⟩ := hrel
    have HI := Lib.hid hI
    have hi := hI.le
    obtain ⟨l', hM, hRR⟩ := hI.mem
    have hln : l'.length = R.length := by
      have := congrArg List.length hRR
      rw [List.length_append, each_len, List.length_take, List.length_drop] at this
      simp [runsOf] at this
      omega
    have HM := Lib.hid hM
    have HRR := Lib.hid hRR
    clear hI HI0 k3 hM hRR
    by_cases hlt : i < R.length
    · have hlt2 : i < l'.length := by omega
      have hat := each_at f R hlt HRR.out
      have hri : l'[i].2.2 = R[i] := by
        have : (runsOf l')[i]? = some l'[i].2.2 := by simp [runsOf, hlt2]
        rw [this] at hat
        exact Option.some.inj hat
      have hrow := HM.out.row
      rw [hln] at hrow
      obtain ⟨g, cap, hv, hgB, hgw⟩ := hrow.form (by omega)
      cases hv
      have c0 : wr.cell? ⟨g, i, none⟩ = some (.pointer (some ⟨l'[i].1, 0, none⟩)) := by
        rw [hrow.cellAt i (by omega)]
        simp [hlt2, rcPtr]
      have hbx := (HM.out.has i hlt2).box
      have k5 : wr.cell? ⟨l'[i].1, 5, none⟩ = some (.int .i64 R[i].c.fin) := by
        rw [← hri]
        exact hbx.cell 5
      have HNX := Lib.hid (each_next f R hlt)
      obtain ⟨ho1, ho2⟩ := HOK.out _ (List.getElem_mem hlt)
      have HSW := Lib.hid (HSH.out wr l'[i].1 l'[i].2.1 R[i] HI.out.j (by rw [← hri]; exact HM.out.has i hlt2) ho1 ho2 (Nat.le_trans hB HI.out.below.size))
      have HUP := Lib.hid (fun (w' : World) (v' : Value) (r' : RunD) (hm : RM w' B l'[i].1 v' r') (h1 : One2 wr w' l'[i].1 l'[i].2.1) (hf : Fr wr l'[i].2.1 v') => (⟨HM.out.upd hlt2 hm h1 hf, h1.below (HM.out.has i hlt2) (Nat.le_trans hB HI.out.below.size), h1.keepsR (HM.out.has i hlt2)⟩ : KM w' B K vp vl lev (.slice (some ⟨g, 0, none⟩) R.length kc) (l'.set i (l'[i].1, v', r')) ∧ Below B wr w' ∧ KeepsR wr w'))
      have HRS := Lib.hid (fun (v' : Value) (r' : RunD) => show runsOf (l'.set i (l'[i].1, v', r')) = (runsOf l').set i r' by simp [runsOf, List.map_set])
      have HST := Lib.hid (show R[i].c.fin ≠ 0 → eachF f (R.take (i + 1)) ++ R.drop (i + 1) = runsOf l' from fun hne => by
        rw [HNX.out, if_neg hne, ← HRR.out]
        have : (runsOf l')[i]? = some R[i] := hat
        obtain ⟨hj, he⟩ := List.getElem?_eq_some_iff.1 this
        rw [← he, List.set_getElem_self])
      clear hrow hat hbx hri ho1 ho2 HSH
      generalize l'[i].1 = b at *
      generalize l'[i].2.1 = v at *
      by_cases hf : R[i].c.fin = 0
      · rw [if_pos hf] at HNX
        rw [hf] at k5
        clear HST hf
        generalize R[i] = r at *
        go_wp2_with fail
        refine HSW.out.mono ?_
        rintro e w3 ⟨⟨u, rfl⟩, v', hm, h1, hfr⟩
        obtain ⟨hM3, hb3, hk3⟩ := HUP.out w3 v' (f r) hm h1 hfr
        have HIN := Lib.hid (show EachI w w3 B K vp vl (.slice (some ⟨g, 0, none⟩) R.length kc) lev f J R (i + 1) from ⟨hlt, ⟨_, hM3, by rw [HRS.out, HRR.out, HNX.out]⟩, HI.out.below.trans hb3, HI.out.keeps.trans hk3, HJ.out _ _ HI.out.j hb3 hk3⟩)
        clear hm h1 hfr hM3 hb3 hk3 HSW HUP HRS HNX
        go_wp2_with fail
        go_roundw
        case rel => exact ⟨i + 1, by go_num, HIN.out⟩
        case measure => simp [intOf]; omega
      · have q1 : (R[i].c.fin == 0) = false := by simpa using hf
        have q2 : decide (R[i].c.fin = 0) = false := decide_eq_false hf
        have HIN := Lib.hid (show EachI w wr B K vp vl (.slice (some ⟨g, 0, none⟩) R.length kc) lev f J R (i + 1) from ⟨hlt, ⟨l', HM.out, (HST.out hf).symm⟩, HI.out.below, HI.out.keeps, HI.out.j⟩)
        clear hf HSW HUP HRS HNX HST
        generalize R[i].c.fin = fi at *
        go_wp2_with fail
        go_roundw
        case rel => exact ⟨i + 1, by go_num, HIN.out⟩
        case measure => simp [intOf]; omega
    · obtain rfl : i = R.length := by omega
      have HZ := Lib.hid (show EachPost w B K vp vl (.slice ka R.length kc) lev f J R (.returned (.tuple #[])) wr from ⟨⟨_, rfl⟩, ⟨l', HM.out, by rw [HRR.out, List.take_length, List.drop_length, List.append_nil]⟩, HI.out.below, HI.out.keeps, HI.out.j⟩)
      clear HM HRR HI
      go_wp2_with fail
      go_end0
      exact HZ.out
end Go.Proofs.YtllcgcnebofdoaaGreatDoor

/- A map of names that a call makes: what it knows. -/
namespace Go.Proofs.YtllcgcnebofdoaaGreatDoor
open Go.RowKit Go.Maps Go.WideMaps

theorem zeroBool (w : World) : (zeroValue 4).run Tryz.prog w = .ok (.bool false) w := by kernel_rfl
theorem key_inj {s u : ByteArray} (h : (Lit.string s.data.toList) = Lit.string u.data.toList) : s = u := by
  injection h with h
  cases s; cases u
  simp only [Array.toList_inj] at h
  rw [h]
/-- a name among names -/
def hasN (S : List ByteArray) (s : ByteArray) : Bool := S.any fun x => x.data.toList == s.data.toList
theorem hasN_iff (S : List ByteArray) (s : ByteArray) : hasN S s = true ↔ s ∈ S := by
  unfold hasN
  rw [List.any_eq_true]
  constructor
  · rintro ⟨x, hx, he⟩
    have : x = s := key_inj (congrArg Lit.string (beq_iff_eq.1 he))
    rw [← this]
    exact hx
  · exact fun h => ⟨s, h, beq_self_eq_true _⟩
/-- block b is a map of at most n names that holds just these -/
def NMap (w : World) (b n : Nat) (S : List ByteArray) : Prop :=
  ∃ D : DataW Unit, w.ownsMap Tryz.prog 9 (plainElem Tryz.prog 4) b n D ∧ ∀ s : ByteArray, D.atKey (.string s.data.toList) (.lit (.bool false)) = .lit (.bool (hasN S s))
theorem NMap.made (w : World) : NMap (w.alloc (.map #[] 0)) w.heap.size 0 [] := ⟨_, World.ownsMap_made _ _ _ _, fun s => rfl⟩
theorem NMap.lt {w : World} {b n : Nat} {S : List ByteArray} (h : NMap w b n S) : b < w.heap.size := by
  obtain ⟨D, ho, _⟩ := h
  exact ho.lt
theorem NMap.below {w w' : World} {b n B : Nat} {S : List ByteArray} (h : NMap w b n S) (hb : Below B w w') (hB : b < B) : NMap w' b n S := by
  obtain ⟨D, ⟨es, clock, g1, g2⟩, hd⟩ := h
  exact ⟨D, ⟨es, clock, (hb.block b hB).trans g1, g2⟩, hd⟩
set_option maxRecDepth 100000 in
theorem NMap.look {w : World} {b n : Nat} {S : List ByteArray} (h : NMap w b n S) {s : ByteArray} (hs : s.size ≤ 9223372036854775807) :
    (Instr.lookup 102 (.map (some b)) (.string s) false).run Tryz.prog w = .ok (.bool (hasN S s)) w := by
  obtain ⟨D, ho, hd⟩ := h
  obtain ⟨v, ps, hrun, hv⟩ := ho.lookup (string_keyed Tryz.underlying9) Tryz.underlying102 (zeroBool w) (plainElem_bool Tryz.underlying4 false) (keyOf_string_mk Tryz.underlying9 (show s.size ≤ maxLen by unfold maxLen; omega))
  rw [hd s] at hv
  rw [hrun]
  unfold plainElem at hv
  rw [Tryz.underlying4] at hv
  cases v <;> simp at hv
  rw [hv.1]
theorem NMap.put {w : World} {b n : Nat} {S : List ByteArray} (h : NMap w b n S) {s : ByteArray} (hs : s.size ≤ 9223372036854775807) (hn : n < 1000) :
    ∃ w', (Instr.mapUpdate 102 (.map (some b)) (.string s) (.bool true)).run Tryz.prog w = .ok () w' ∧ NMap w' b (n + 1) (s :: S) ∧ w.grownBy w' (some b) := by
  obtain ⟨D, ho, hd⟩ := h
  have hk := keyOf_string_mk (P := Tryz.prog) Tryz.underlying9 (show s.size ≤ maxLen by unfold maxLen; omega)
  obtain ⟨w', hrun, ho', hg⟩ := ho.update (string_keyed Tryz.underlying9) Tryz.underlying102 (show n < maxLen by unfold maxLen; omega) hk (plainElem_bool (H := Unit) Tryz.underlying4 true)
  have hm : IsMap D := by
    obtain ⟨es, _, _, _, _, rfl⟩ := ho
    exact ⟨_, rfl⟩
  refine ⟨w', hrun, ⟨_, ho', fun u => ?_⟩, hg⟩
  by_cases e : u = s
  · subst e
    rw [atKey_put_same hm ((string_keyed Tryz.underlying9).one.key ⟨_, hk⟩), (hasN_iff _ _).2 List.mem_cons_self]
  · rw [atKey_put_other (fun q => e (key_inj q)), hd u]
    have : hasN (s :: S) u = hasN S u := by
      rw [Bool.eq_iff_iff, hasN_iff, hasN_iff, List.mem_cons]
      exact ⟨fun g => g.resolve_left e, .inr⟩
    rw [this]
end Go.Proofs.YtllcgcnebofdoaaGreatDoor
