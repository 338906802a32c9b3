/- The walks of keeper.runs, and of slices.Contains at ints. -/
import Derived.Test.YtllcgcnebofdoaaGreatDoorQCkBeg
namespace Go.Proofs.YtllcgcnebofdoaaGreatDoor
open Go.RowKit

set_option maxRecDepth 100000 in
set_option maxHeartbeats 2000000 in
theorem idxInt_any (v : Value) (l : List Int) (x : Int) (w : World) (h : Ints w v l) (hl : l.length ≤ 1000000) :
    Calls Tryz.prog 83 #[v, .int .i64 x] w fun e w' => (∃ k : Int, e = .returned (.int .i64 k) ∧ decide (0 ≤ k) = l.contains x) ∧ w = w' := by
  obtain ⟨a, cap, rfl⟩ := SliceAt.len h
  have H := Lib.hid h
  clear h
  go_enter Tryz.func83, Tryz.ntmps83
  go_wp2_with fail
  go_loopw [8] (fun iv wr => ∃ i : Nat, iv = .int .i64 ((i : Nat) : Int) ∧ i ≤ l.length ∧ (l.take i).contains x = false ∧ wr = w) (fun iv _ => l.length - (intOf iv).toNat)
  case atStart => exact ⟨0, rfl, Nat.zero_le _, by rw [List.take_zero]; rfl, rfl⟩
  case round =>
    obtain ⟨i, rfl, hi, hno, rfl⟩ := hrel
    have HN := Lib.hid hno
    clear hno
    by_cases hlt : i < l.length
    · obtain ⟨b, of', cap', hv, hb, hcp, hel⟩ := Ints.at H.out (by omega)
      cases hv
      have c0 := hel i hlt
      have HM := Lib.hid (show l[i] = x → l.contains x = true from fun e => by rw [List.contains_iff_mem, ← e]; exact List.getElem_mem hlt)
      have HT := Lib.hid (show l[i] ≠ x → (l.take (i + 1)).contains x = false from fun e => by
        rw [List.take_succ_eq_append_getElem hlt]
        rw [Bool.eq_false_iff]
        intro g
        rw [List.contains_iff_mem, List.mem_append] at g
        rcases g with g | g
        · have := HN.out
          rw [Bool.eq_false_iff] at this
          exact this (List.contains_iff_mem.2 g)
        · exact e (List.mem_singleton.1 g).symm)
      clear hel
      generalize l[i] = y at *
      by_cases hx : y = x
      · have HX := Lib.hid (HM.out hx)
        subst hx
        have q : ((y : Int) == y) = true := by simp
        clear HM HT
        go_wp2_with fail
        go_ret
        exact ⟨⟨_, rfl, by rw [HX.out]; simp⟩, rfl⟩
      · have HX := Lib.hid (HT.out hx)
        have q1 : (x == y) = false := by simpa using Ne.symm hx
        have q2 : decide (x = y) = false := decide_eq_false (Ne.symm hx)
        clear HM HT hx
        go_wp2_with fail
        go_roundw
        case rel => exact ⟨i + 1, by go_num, hlt, HX.out, by trivial⟩
        case measure => simp [intOf]; omega
    · obtain rfl : i = l.length := by omega
      have hf := HN.out
      rw [List.take_length] at hf
      have HF := Lib.hid hf
      clear hf
      go_wp2_with fail
      go_ret
      exact ⟨⟨_, rfl, by rw [HF.out]; decide⟩, rfl⟩
theorem contInt_any (v : Value) (l : List Int) (x : Int) (w : World) (h : Ints w v l) (hl : l.length ≤ 1000000) :
    Calls Tryz.prog 50 #[v, .int .i64 x] w fun e w' => e = .returned (.bool (l.contains x)) ∧ w = w' := by
  have HI := Lib.hid (idxInt_any v l x w h hl)
  clear h
  go_enter Tryz.func50, Tryz.ntmps50
  go_wp2_with fail
  refine HI.out.mono ?_
  rintro e w3 ⟨⟨k, rfl, hk⟩, rfl⟩
  have HK := Lib.hid hk
  clear hk
  go_wp2_with fail
  go_ret
  exact ⟨by rw [← HK.out]; rfl, rfl⟩
set_option maxRecDepth 100000 in
set_option maxHeartbeats 2000000 in
theorem runs1_any (r : RunD) (B b V : Nat) (v kv : Value) (kinds : List Int) (w : World) (h : RM w B b v r) (hV : Has w V #[kv] 22) (hk : Ints w kv kinds) (hl : kinds.length ≤ 1000000) :
    Calls Tryz.prog 82 #[.pointer (some ⟨b, 0, none⟩), .pointer (some ⟨V, 0, none⟩)] w fun e w' => e = .returned (.bool (decide (r.c.fin = 0) && kinds.contains r.c.kind)) ∧ Below w.heap.size w w' := by
  obtain ⟨ka, kc, rfl⟩ := SliceAt.len hk
  have k0 : w.cell? ⟨b, 0, none⟩ = some (.int .i64 r.c.kind) := h.box.cell 0
  have k5 : w.cell? ⟨b, 5, none⟩ = some (.int .i64 r.c.fin) := h.box.cell 5
  have v0 : w.cell? ⟨V, 0, none⟩ = some (.slice ka kinds.length kc) := hV.cell 0
  have HK := Lib.hid hk
  have hbl : b < w.heap.size := h.box.lt
  have hVl : V < w.heap.size := hV.lt
  clear h hV hk
  generalize r.c.fin = fin at *
  generalize r.c.kind = kind at *
  go_enter Tryz.func82, Tryz.ntmps82
  go_upto_region 1 with fail
  by_cases hf : fin = 0
  · subst hf
    have HKS := Lib.hid (fun W (hW : Below w.heap.size w W) => (⟨(below_cell hW hbl).trans k0, (below_cell hW hbl).trans k5, (below_cell hW hVl).trans v0⟩ :
      W.cell? ⟨b, 0, none⟩ = some (.int .i64 kind) ∧ W.cell? ⟨b, 5, none⟩ = some (.int .i64 0) ∧ W.cell? ⟨V, 0, none⟩ = some (.slice ka kinds.length kc)))
    have HCT := Lib.hid (fun W (hW : Below w.heap.size w W) => contInt_any (.slice ka kinds.length kc) kinds kind W (HK.out.below hW) hl)
    go_region_held3 (fun W => W.cell? ⟨b, 0, none⟩ = some (.int .i64 kind) ∧ W.cell? ⟨b, 5, none⟩ = some (.int .i64 0) ∧ W.cell? ⟨V, 0, none⟩ = some (.slice ka kinds.length kc))
      (first | exact HKS.out _ hB | exact HKS.out _ (Below.refl _ _).drew | fail)
      ((go_at_call 50; refine (HCT.out _ (Below.refl w.heap.size w).drew).mono ?_; rintro e w' ⟨rfl, rfl⟩; have hB := (Below.refl w.heap.size w).drew))
    go_wp2_with fail
    go_ret
    exact ⟨rfl, (Below.refl w.heap.size w).drew⟩
  · have q1 : (fin == 0) = false := by simpa using hf
    have q2 : decide (fin = 0) = false := decide_eq_false hf
    clear hf
    go_quiet (fail)
    go_wp2_with fail
    go_ret
    exact ⟨by rw [q2]; rfl, drewN_below (Below.refl _ _) nq⟩
set_option maxRecDepth 100000 in
set_option maxHeartbeats 2000000 in
theorem idxRun_any (B K V : Nat) (vp vl vk kv : Value) (lev : Int) (l : List Rc) (kinds : List Int) (w : World) (h : KM w B K vp vl lev vk l) (hV : Has w V #[kv] 22) (hk : Ints w kv kinds) (hl : l.length ≤ 1000000) (hkl : kinds.length ≤ 1000000) :
    Calls Tryz.prog 104 #[vk, .func (.func 82) #[] #[.pointer (some ⟨V, 0, none⟩)]] w fun e w' => (∃ k : Int, e = .returned (.int .i64 k) ∧ decide (0 ≤ k) = runsB kinds (runsOf l)) ∧ Below w.heap.size w w' := by
  have H := Lib.hid h
  have HV := Lib.hid hV
  have HK := Lib.hid hk
  obtain ⟨a, cap, rfl⟩ := owns_slice h.row
  clear h hV hk
  go_enter Tryz.func104, Tryz.ntmps104
  go_wp2_with fail
  go_loopw [8] (fun iv wr => ∃ i : Nat, iv = .int .i64 ((i : Nat) : Int) ∧ i ≤ l.length ∧ runsB kinds (runsOf (l.take i)) = false ∧ Below w.heap.size w wr) (fun iv _ => l.length - (intOf iv).toNat)
  case atStart => exact ⟨0, rfl, Nat.zero_le _, by rw [List.take_zero]; rfl, Below.refl _ _⟩
  case round =>
    obtain ⟨i, rfl, hi, hno, hB⟩ := hrel
    have HN := Lib.hid hno
    have HB := Lib.hid hB
    clear hno hB
    by_cases hlt : i < l.length
    · have hrow := H.out.row
      obtain ⟨g, cap2, hv, hgB, hgw⟩ := hrow.form (by omega)
      cases hv
      have c0 : wr.cell? ⟨g, i, none⟩ = some (.pointer (some ⟨l[i].1, 0, none⟩)) := by
        rw [below_cell HB.out hgw, hrow.cellAt i (by omega)]
        simp [hlt, rcPtr]
      have HC := Lib.hid (runs1_any l[i].2.2 B l[i].1 V l[i].2.1 kv kinds wr ((H.out.has i hlt).below HB.out) (HV.out.below HB.out HV.out.lt) (HK.out.below HB.out) hkl)
      have HM := Lib.hid (show (decide (l[i].2.2.c.fin = 0) && kinds.contains l[i].2.2.c.kind) = true → runsB kinds (runsOf l) = true from fun e => by
        unfold runsB
        rw [List.any_eq_true]
        exact ⟨l[i].2.2, List.mem_map_of_mem (List.getElem_mem hlt), e⟩)
      have HT := Lib.hid (show (decide (l[i].2.2.c.fin = 0) && kinds.contains l[i].2.2.c.kind) = false → runsB kinds (runsOf (l.take (i + 1))) = false from fun e => by
        have hn := HN.out
        rw [List.take_succ_eq_append_getElem hlt]
        unfold runsB runsOf at *
        rw [List.map_append, List.any_append, hn]
        simpa using e)
      clear hrow
      generalize (decide (l[i].2.2.c.fin = 0) && kinds.contains l[i].2.2.c.kind) = bb at *
      generalize l[i].1 = b at *
      go_wp2_with fail
      refine HC.out.mono ?_
      rintro e w3 ⟨rfl, hb3⟩
      have HB3 := Lib.hid (below_up HB.out hb3 HB.out.size)
      clear hb3 HC c0
      cases bb with
      | true =>
        have HX := Lib.hid (HM.out rfl)
        clear HM HT
        go_wp2_with fail
        go_ret
        exact ⟨⟨_, rfl, by rw [HX.out]; simp⟩, HB3.out⟩
      | false =>
        have HX := Lib.hid (HT.out rfl)
        clear HM HT
        go_wp2_with fail
        go_roundw
        case rel => exact ⟨i + 1, by go_num, hlt, HX.out, HB3.out⟩
        case measure => simp [intOf]; omega
    · obtain rfl : i = l.length := by omega
      have hf := HN.out
      rw [List.take_length] at hf
      have HF := Lib.hid hf
      clear hf
      go_wp2_with fail
      go_ret
      exact ⟨⟨_, rfl, by rw [HF.out]; decide⟩, HB.out⟩
set_option maxRecDepth 100000 in
set_option maxHeartbeats 2000000 in
theorem runs_any (B K : Nat) (vp vl vk kv : Value) (lev : Int) (l : List Rc) (kinds : List Int) (w : World) (h : KM w B K vp vl lev vk l) (hk : Ints w kv kinds) (hl : l.length ≤ 1000000) (hkl : kinds.length ≤ 1000000) :
    Calls Tryz.prog 49 #[.pointer (some ⟨K, 0, none⟩), kv] w fun e w' => e = .returned (.bool (runsB kinds (runsOf l))) ∧ Below w.heap.size w w' := by
  obtain ⟨ka, kc, rfl⟩ := SliceAt.len hk
  obtain ⟨x1, x2⟩ := box1 w #[.slice ka kinds.length kc] 22
  obtain ⟨va, vc, rfl⟩ := owns_slice h.row
  have HC := Lib.hid (idxRun_any B K w.heap.size vp vl (.slice va l.length vc) (.slice ka kinds.length kc) lev l kinds _ (h.below x2) x1 (hk.below x2) hl hkl)
  have HB := Lib.hid x2
  have m3 := (h.below x2).box.cell 3
  clear x1 x2 h hk
  generalize runsB kinds (runsOf l) = bb at *
  go_enter Tryz.func49, Tryz.ntmps49
  go_upto_region 1 with fail
  generalize w.alloc (.cells #[.slice ka kinds.length kc] 22) = w2 at *
  have HCF := Lib.hid (show Calls Tryz.prog 81 #[.slice va l.length vc, .func (.func 82) #[] #[.pointer (some ⟨w.heap.size, 0, none⟩)]] w2 (fun e w' => e = .returned (.bool bb) ∧ Below w2.heap.size w2 w') from by
    clear m3 HB
    go_enter Tryz.func81, Tryz.ntmps81
    go_wp2_with fail
    refine HC.out.mono ?_
    rintro e w3 ⟨⟨k, rfl, hk⟩, hb⟩
    have HK := Lib.hid hk
    clear hk
    go_wp2_with fail
    go_ret
    exact ⟨by rw [← HK.out]; rfl, hb⟩)
  clear HC
  go_wp2_with fail
  refine HCF.out.mono ?_
  rintro e w3 ⟨rfl, hb⟩
  have HB3 := Lib.hid (below_up HB.out hb HB.out.size)
  clear hb
  go_wp2_with fail
  go_ret
  exact ⟨rfl, HB3.out⟩
end Go.Proofs.YtllcgcnebofdoaaGreatDoor
