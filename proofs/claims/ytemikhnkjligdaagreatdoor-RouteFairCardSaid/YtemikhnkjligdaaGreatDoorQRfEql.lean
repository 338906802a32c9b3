/- The walks of slices.Index, Contains, Equal at what is held. -/
import Derived.Test.YtemikhnkjligdaaGreatDoorQRfTik
import Derived.Test.YtemikhnkjligdaaGreatDoorQRfStp
namespace Go.Proofs.YtemikhnkjligdaaGreatDoor
open Go Go.RowKit

set_option maxRecDepth 100000 in
set_option maxHeartbeats 2000000 in
theorem index_any (v : Value) (L : List HdD) (x : HdD) (w : World) (h : Hds w v L) (hl : L.length ≤ 100000) :
    Calls Tryz.prog 23 #[v, .agg #[.int .i64 x.ticket, .int .i64 x.no, .int .i64 x.weight, .int .i64 x.since]] w fun e w' => (∃ k : Int, e = .returned (.int .i64 k) ∧ (0 ≤ k ↔ x ∈ L)) ∧ Below w.heap.size w w' := by
  obtain ⟨a, cap, rfl⟩ := SliceAt.len h
  have H := Lib.hid h
  obtain ⟨x1, x2, x3, x4⟩ := x
  obtain ⟨bx, bbl⟩ := box1 w #[.int .i64 x1, .int .i64 x2, .int .i64 x3, .int .i64 x4] 33
  have HX := Lib.hid bx
  have HB := Lib.hid bbl
  clear h
  simp only
  go_enter Tryz.func23, Tryz.ntmps23
  go_upto_region 1 with fail
  generalize w.alloc (.cells #[.int .i64 x1, .int .i64 x2, .int .i64 x3, .int .i64 x4] 33) = w1 at *
  clear bx bbl
  go_wp2_with fail
  go_loopw [8] (fun iv wr => ∃ i : Nat, iv = .int .i64 ((i : Nat) : Int) ∧ i ≤ L.length ∧ (⟨x1, x2, x3, x4⟩ ∉ L.take i) ∧ Below w.heap.size w wr ∧ Has wr w.heap.size #[.int .i64 x1, .int .i64 x2, .int .i64 x3, .int .i64 x4] 33) (fun iv _ => L.length - (intOf iv).toNat)
  case atStart => exact ⟨0, rfl, Nat.zero_le _, by simp, HB.out, HX.out⟩
  case round =>
    obtain ⟨i, rfl, hi, hno, hbr, hx⟩ := hrel
    have HNO := Lib.hid hno
    have HBR := Lib.hid hbr
    have HXR := Lib.hid hx
    have k0 := hx.cell 0
    have k1 := hx.cell 1
    have k2 := hx.cell 2
    have k3 := hx.cell 3
    clear hno hbr hx HX HB
    by_cases hlt : i < L.length
    · obtain ⟨b, off, cap', hv, hb, hel⟩ := Hds.at (H.out.below HBR.out) (by omega)
      cases hv
      obtain ⟨e0, e1, e2, e3⟩ := hel i hlt
      have HTK := Lib.hid (List.take_succ_eq_append_getElem hlt)
      have HME := Lib.hid (List.getElem_mem hlt)
      clear hel
      generalize L[i] = y at *
      obtain ⟨y1, y2, y3, y4⟩ := y
      simp only at e0 e1 e2 e3
      have qe := fun w => eqH x1 x2 x3 x4 y1 y2 y3 y4 w
      have qg := guardH
      obtain ⟨t, ht⟩ : ∃ t, decide ((⟨x1, x2, x3, x4⟩ : HdD) = ⟨y1, y2, y3, y4⟩) = t := ⟨_, rfl⟩
      rw [ht] at qe
      have HT := Lib.hid ht
      clear ht
      go_upto_region 4 with fail
      go_quiet (fail)
      cases t with
      | true =>
        have HM := Lib.hid (show (⟨x1, x2, x3, x4⟩ : HdD) ∈ L from by
          rw [of_decide_eq_true HT.out]
          exact HME.out)
        go_wp2_with fail
        go_ret
        exact ⟨⟨_, rfl, ⟨fun _ => HM.out, fun _ => by omega⟩⟩, drewN_below HBR.out _⟩
      | false =>
        have HN := Lib.hid (show (⟨x1, x2, x3, x4⟩ : HdD) ∉ L.take (i + 1) from by
          rw [HTK.out]
          intro hm
          rcases List.mem_append.1 hm with q | q
          · exact HNO.out q
          · exact of_decide_eq_false HT.out (List.mem_singleton.1 q))
        go_wp2_with fail
        go_roundw
        case rel => exact ⟨i + 1, by go_num, hlt, HN.out, drewN_below HBR.out _, HXR.out.drewN _⟩
        case measure => simp [intOf]; omega
    · obtain rfl : i = L.length := by omega
      have hn := HNO.out
      rw [List.take_length] at hn
      have HN := Lib.hid hn
      clear hn
      go_wp2_with fail
      go_ret
      exact ⟨⟨_, rfl, ⟨fun g => absurd g (by decide), fun g => absurd g HN.out⟩⟩, HBR.out⟩
set_option maxRecDepth 100000 in
theorem contains_any (v : Value) (L : List HdD) (x : HdD) (w : World) (h : Hds w v L) (hl : L.length ≤ 100000) (hx : x ∈ L) :
    Calls Tryz.prog 7 #[v, .agg #[.int .i64 x.ticket, .int .i64 x.no, .int .i64 x.weight, .int .i64 x.since]] w fun e w' => e = .returned (.bool true) ∧ Below w.heap.size w w' := by
  obtain ⟨x1, x2, x3, x4⟩ := x
  simp only
  obtain ⟨bx, bbl⟩ := box1 w #[.int .i64 x1, .int .i64 x2, .int .i64 x3, .int .i64 x4] 33
  have HB := Lib.hid bbl
  have HX := Lib.hid hx
  have HI := Lib.hid (index_any v L ⟨x1, x2, x3, x4⟩ _ (h.below bbl) hl)
  have k0 := bx.cell 0
  have k1 := bx.cell 1
  have k2 := bx.cell 2
  have k3 := bx.cell 3
  clear h hx
  go_enter Tryz.func7, Tryz.ntmps7
  go_upto_region 1 with fail
  generalize w.alloc (.cells #[.int .i64 x1, .int .i64 x2, .int .i64 x3, .int .i64 x4] 33) = w1 at *
  clear bx bbl
  go_wp2_with fail
  refine HI.out.mono ?_
  rintro e w2 ⟨⟨k, rfl, hk⟩, hb2⟩
  have q1 : decide (0 ≤ k) = true := decide_eq_true (hk.2 HX.out)
  have HB2 := Lib.hid (below_up HB.out hb2 HB.out.size)
  clear hk hb2
  go_wp2_with fail
  go_ret
  exact ⟨rfl, HB2.out⟩
set_option maxRecDepth 100000 in
set_option maxHeartbeats 2000000 in
theorem equal_any (v v' : Value) (L : List HdD) (w : World) (h : Hds w v L) (h' : Hds w v' L) (hl : L.length ≤ 100000) :
    Calls Tryz.prog 9 #[v, v'] w fun e w' => e = .returned (.bool true) ∧ Below w.heap.size w w' := by
  obtain ⟨a, cap, rfl⟩ := SliceAt.len h
  obtain ⟨a', cap', rfl⟩ := SliceAt.len h'
  have H := Lib.hid h
  have H' := Lib.hid h'
  clear h h'
  go_enter Tryz.func9, Tryz.ntmps9
  go_wp2_with fail
  go_loopw [13] (fun iv wr => ∃ i : Nat, iv = .int .i64 ((i : Nat) : Int) ∧ i ≤ L.length ∧ Below w.heap.size w wr) (fun iv _ => L.length - (intOf iv).toNat)
  case atStart => exact ⟨0, rfl, Nat.zero_le _, Below.refl _ _⟩
  case round =>
    obtain ⟨i, rfl, hi, hbr⟩ := hrel
    have HBR := Lib.hid hbr
    clear hbr
    by_cases hlt : i < L.length
    · obtain ⟨b, off, cp, hv, hb, hel⟩ := Hds.at (H.out.below HBR.out) (by omega)
      cases hv
      obtain ⟨e0, e1, e2, e3⟩ := hel i hlt
      obtain ⟨b', off', cp', hv', hb', hel'⟩ := Hds.at (H'.out.below HBR.out) (by omega)
      cases hv'
      obtain ⟨f0, f1, f2, f3⟩ := hel' i hlt
      clear hel hel'
      generalize L[i] = y at *
      obtain ⟨y1, y2, y3, y4⟩ := y
      simp only at e0 e1 e2 e3 f0 f1 f2 f3
      have qe := fun w => neH y1 y2 y3 y4 y1 y2 y3 y4 w
      simp only [decide_true, Bool.not_true] at qe
      have qg := guardH
      go_upto_region 6 with fail
      go_quiet (fail)
      go_wp2_with fail
      go_roundw
      case rel => exact ⟨i + 1, by go_num, hlt, drewN_below HBR.out _⟩
      case measure => simp [intOf]; omega
    · obtain rfl : i = L.length := by omega
      go_wp2_with fail
      go_ret
      exact ⟨rfl, HBR.out⟩
end Go.Proofs.YtemikhnkjligdaaGreatDoor

/- The walk of awakeRoute: reading what is no person's line. -/
namespace Go.Proofs.YtemikhnkjligdaaGreatDoor
open Go.RowKit

def wordV (x : List UInt8) : Value := .string (bs x)
theorem map_inj_data : ∀ {a b : List ByteArray}, a.map (fun x => x.data.toList) = b.map (fun x => x.data.toList) → a = b
  | [], [], _ => rfl
  | [], _ :: _, h => by simp at h
  | _ :: _, [], h => by simp at h
  | x :: a, y :: b, h => by
    simp only [List.map_cons, List.cons.injEq] at h
    rw [bs_inj h.1, map_inj_data h.2]
theorem split_words (w0 : List UInt8) (ws : List (List UInt8)) (hc : ∀ x ∈ w0 :: ws, (32 : UInt8) ∉ x) (hl : (Lib.join (w0 :: ws) [32]).length ≤ 1000000) (w : World) (hE : Env w) :
    Calls Tryz.prog 44 #[.string (bs (Lib.join (w0 :: ws) [32])), .string ⟨#[32]⟩] w fun e w' =>
      e = .returned (.slice (some ⟨w.heap.size, 0, none⟩) (ws.length + 1) (ws.length + 1)) ∧ w' = w.alloc (.cells ((w0 :: ws).map wordV).toArray 9) := by
  obtain ⟨m, hm⟩ := hE.ml
  have c := Tryz.strings_Split (bs (Lib.join (w0 :: ws) [32])) ⟨#[32]⟩ m w (by rw [bs_size]; omega) hm (by decide)
  obtain ⟨h1, h2⟩ := split_join w0 ws hc
  have hs : Lib.splitB ⟨#[32]⟩ 0 (Lib.countB (bs (Lib.join (w0 :: ws) [32])) ⟨#[32]⟩) (bs (Lib.join (w0 :: ws) [32])) = (w0 :: ws).map bs := by
    refine map_inj_data ?_
    rw [Lib.splitB_data]
    show Lib.splitK [32] 0 (Lib.count (Lib.join (w0 :: ws) [32]) [32]) (Lib.join (w0 :: ws) [32]) = _
    rw [h1, List.map_map]
    exact (List.map_id' _).symm
  have hn : Lib.countB (bs (Lib.join (w0 :: ws) [32])) ⟨#[32]⟩ = ws.length := by
    have h := Lib.splitB_all ⟨#[32]⟩ (by decide) 0 _ (bs (Lib.join (w0 :: ws) [32])) rfl
    rw [hs, List.length_map, List.length_cons] at h
    omega
  rw [hs, hn, List.map_map] at c
  exact c

theorem infoPer : (Tryz.prog.info? 65).map (·.size) = some 4 := by kernel_rfl
theorem results_cell_tmp_row {P : Program} {fn : Func} {p u : Tmp} {ty : TypeId} (h : fn.results = #[.cell p ty, .tmp u]) (tmps : Array Value) (w : World) (g : Nat) (t : TypeId) (cs : Array Value) (fr : Nat × Nat) (d : TypeDesc)
    (hp : tmps.getD p undef = .pointer (some ⟨g, 0, none⟩)) (hg : w.heap[g]? = some (.cells cs t fr))
    (hu : P.underlying ty = some d) (hd : (match d with | .struct _ | .array _ _ => true | _ => false) = true) (hi : (P.info? ty).map (·.size) = some cs.size) :
    (results fn tmps).run P w = .ok (.tuple #[.agg cs, tmps.getD u undef]) w := by
  rw [results_cell_tmp h, hp]
  simp [asAddr, run_loadVar_row w g t ty cs fr d hg hu hd hi]
theorem boxes2 (w : World) (cs ds : Array Value) (t t' : TypeId) : Has ((w.alloc (.cells cs t)).alloc (.cells ds t')) w.heap.size cs t ∧ Has ((w.alloc (.cells cs t)).alloc (.cells ds t')) (w.heap.size + 1) ds t' ∧ Below w.heap.size w ((w.alloc (.cells cs t)).alloc (.cells ds t')) := by
  refine ⟨(Has.new _ _ _).alloc _, ?_, ((Below.refl _ _).alloc (Nat.le_refl _) _).alloc (by simp) _⟩
  have := Has.new (w.alloc (.cells cs t)) ds t'
  simpa using this
set_option maxRecDepth 100000 in
set_option maxHeartbeats 2000000 in
theorem readPerson_x (w : World) (hE : Env w) :
    Calls Tryz.prog 26 #[.string ⟨#[120]⟩] w fun e w' => (∃ u, e = .returned (.tuple #[.agg #[.int .i64 0, .int .i64 0, .int .i64 0, .slice none 0 0], .bool false]) ∧ u = 0) ∧ Below w.heap.size w w' := by
  have hbx := boxes2 w #[.int .i64 0, .int .i64 0, .int .i64 0, .slice none 0 0] #[.int .i64 0, .int .i64 0, .int .i64 0, .slice none 0 0] 65 65
  have HX := Lib.hid hbx
  have HE := Lib.hid hE
  have HSP := Lib.hid (fun W hW => split_words [120] [] (by simp) (by decide) W hW)
  clear hE hbx
  go_enter Tryz.func26, Tryz.ntmps26
  go_upto_region 2 with fail
  have hzz : ((w.alloc (.cells #[.int .i64 0, .int .i64 0, .int .i64 0, .slice none 0 0] 65)).alloc (.cells #[.int .i64 0, .int .i64 0, .int .i64 0, .slice none 0 0] 65)).heap.size = w.heap.size + 2 := by simp
  generalize (w.alloc (.cells #[.int .i64 0, .int .i64 0, .int .i64 0, .slice none 0 0] 65)).alloc (.cells #[.int .i64 0, .int .i64 0, .int .i64 0, .slice none 0 0] 65) = w2 at *
  go_wp2_with fail
  refine (HSP.out w2 (HE.out.below HX.out.2.2)).mono ?_
  rintro e w3 ⟨rfl, hw3⟩
  have hb3 := box1 w2 (([[120]] : List (List UInt8)).map wordV).toArray 9
  rw [← hw3] at hb3
  have HB3 := Lib.hid (below_up HX.out.2.2 hb3.2 HX.out.2.2.size)
  have hR := HX.out.1.below hb3.2 HX.out.1.lt
  have hC := HX.out.2.1.below hb3.2 HX.out.2.1.lt
  have k0 := hC.cell 0
  have k1 := hC.cell 1
  have k2 := hC.cell 2
  have k3 := hC.cell 3
  have r0 := hR.cell 0
  have r1 := hR.cell 1
  have r2 := hR.cell 2
  have r3 := hR.cell 3
  have f0 := hR.fz 0
  have f1 := hR.fz 1
  have f2 := hR.fz 2
  have f3 := hR.fz 3
  have HZ := Lib.hid (show Has _ w.heap.size #[.int .i64 0, .int .i64 0, .int .i64 0, .slice none 0 0] 65 from (((hR.set 0 (.int .i64 0)).set 1 (.int .i64 0)).set 2 (.int .i64 0)).set 3 (.slice none 0 0))
  have HBZ := Lib.hid ((((HB3.out.setCell (p := ⟨w.heap.size, 0, none⟩) (Nat.le_refl _) (.int .i64 0)).setCell (p := ⟨w.heap.size, 1, none⟩) (Nat.le_refl _) (.int .i64 0)).setCell (p := ⟨w.heap.size, 2, none⟩) (Nat.le_refl _) (.int .i64 0)).setCell (p := ⟨w.heap.size, 3, none⟩) (Nat.le_refl _) (.slice none 0 0))
  clear hb3 hw3 hR hC HSP HX hzz
  go_wp2_with fail
  try simp only [Exit.inBlock, Exit.then]
  refine bodyPost_ret (results_cell_tmp_row rfl _ _ w.heap.size _ _ (0, 0) _ rfl HZ.out Tryz.underlying65 rfl infoPer) rfl ?_
  exact ⟨⟨0, rfl, rfl⟩, HBZ.out⟩

set_option maxRecDepth 100000 in
set_option maxHeartbeats 2000000 in
theorem ReadPeople_x (w : World) (hE : Env w) :
    Calls Tryz.prog 10 #[.string ⟨#[120]⟩] w fun e w' => e = .returned (.tuple #[.slice none 0 0, .int .i64 1, .int .i64 8]) ∧ Below w.heap.size w w' := by
  have HE := Lib.hid hE
  have hcu := fun W hW => strcut_any [120] 10 (by decide) W hW
  rw [show Lib.cut [120] [10] = ([120], [], false) from cut_none 10 [120] (by decide)] at hcu
  have HCU := Lib.hid hcu
  have htn : (⟨#[120]⟩ : ByteArray).toList.isEmpty = false := by rw [ByteArray.toList_eq]; rfl
  have HRP := Lib.hid (fun W hW => readPerson_x W hW)
  clear hE hcu
  obtain ⟨T, hT⟩ : ∃ T : ByteArray, T = ⟨#[120]⟩ := ⟨_, rfl⟩
  have q0 : decide (400000 < (T.size : Int)) = false := by rw [hT]; decide
  have q1 : decide (400000 < T.size) = false := by rw [hT]; decide
  have hcu2 : (∀ W, Env W → Calls Tryz.prog 25 #[.string T, .string ⟨#[10]⟩] W fun e w' => e = .returned (.tuple #[.string T, .string ⟨#[]⟩, .bool false]) ∧ Below W.heap.size W w') := by rw [hT]; exact HCU.out
  have HCU := Lib.hid hcu2
  clear hcu2
  rw [← hT] at htn HRP ⊢
  clear hT
  go_enter Tryz.func10, Tryz.ntmps10
  go_wp2_with fail
  go_loopw [0, 5, 6] (fun sv lv av wx => sv = .string T ∧ lv = .slice none 0 0 ∧ av = .int .i64 1 ∧ wx = w) (fun _ _ av _ => 0)
  case atStart => exact ⟨rfl, rfl, rfl, rfl⟩
  case round =>
    obtain ⟨rfl, rfl, rfl, rfl⟩ := hrel
    go_wp2_with fail
    refine (HCU.out wr HE.out).mono ?_
    rintro e w3 ⟨rfl, hb3⟩
    have HB3 := Lib.hid hb3
    clear hb3 HCU
    go_wp2_with fail
    refine (HRP.out w3 (HE.out.below HB3.out)).mono ?_
    rintro e w4 ⟨⟨u, rfl, _⟩, hb4⟩
    have HB4 := Lib.hid (below_up HB3.out hb4 HB3.out.size)
    obtain ⟨bx, bbl⟩ := box1 w4 #[.int .i64 0, .int .i64 0, .int .i64 0, .slice none 0 0] 65
    have HB5 := Lib.hid (below_up HB4.out bbl HB4.out.size)
    clear hb4 bx bbl
    go_wp2_with fail
    go_ret3
    exact ⟨rfl, HB5.out⟩
set_option maxRecDepth 100000 in
theorem awakeRoute_any (w : World) (hE : Env w) : Calls Tryz.prog 4 #[] w fun e w' => e = .returned (.bool true) ∧ Below w.heap.size w w' := by
  go_enter Tryz.func4, Tryz.ntmps4
  go_wp2_with fail
  refine (ReadPeople_x w hE).mono ?_
  rintro e w1 ⟨rfl, hb⟩
  go_wp2
  go_ret
  exact ⟨rfl, hb⟩
end Go.Proofs.YtemikhnkjligdaaGreatDoor
