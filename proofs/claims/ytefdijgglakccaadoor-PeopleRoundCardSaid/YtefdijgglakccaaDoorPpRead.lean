/- The walk of route.readPerson on a person's own line. -/
import Derived.Test.YtefdijgglakccaaDoorPpText
namespace Go.Proofs.YtefdijgglakccaaDoor
open Go.RowKit

theorem map_inj_data : ∀ {a b : List ByteArray}, a.map (fun x => x.data.toList) = b.map (fun x => x.data.toList) → a = b
  | [], [], _ => rfl
  | [], _ :: _, h => by simp at h
  | _ :: _, [], h => by simp at h
  | x :: a, y :: b, h => by
    simp only [List.map_cons, List.cons.injEq] at h
    rw [bs_inj h.1, map_inj_data h.2]
theorem split_words (w0 : List UInt8) (ws : List (List UInt8)) (hc : ∀ x ∈ w0 :: ws, (32 : UInt8) ∉ x) (hl : (Lib.join (w0 :: ws) [32]).length ≤ 1000000) (w : World) (hE : Env w) :
    Calls Tryd.prog 20 #[.string (bs (Lib.join (w0 :: ws) [32])), .string ⟨#[32]⟩] w fun e w' =>
      e = .returned (.slice (some ⟨w.heap.size, 0, none⟩) (ws.length + 1) (ws.length + 1)) ∧ w' = w.alloc (.cells ((w0 :: ws).map wordV).toArray 9) := by
  obtain ⟨m, hm⟩ := hE.ml
  have c := Tryd.strings_Split (bs (Lib.join (w0 :: ws) [32])) ⟨#[32]⟩ m w (by rw [bs_size]; omega) hm (by decide)
  obtain ⟨h1, h2⟩ := split_join w0 ws hc
  have hs : Lib.splitB ⟨#[32]⟩ 0 (Lib.countB (bs (Lib.join (w0 :: ws) [32])) ⟨#[32]⟩) (bs (Lib.join (w0 :: ws) [32])) = (w0 :: ws).map bs := by
    refine map_inj_data ?_
    rw [Lib.splitB_data]
    show Lib.splitK [32] 0 (Lib.count (Lib.join (w0 :: ws) [32]) [32]) (Lib.join (w0 :: ws) [32]) = _
    rw [h1, List.map_map]
    exact (List.map_id' _).symm
  have hn : Lib.countB (bs (Lib.join (w0 :: ws) [32])) ⟨#[32]⟩ = ws.length := by
    have h := Lib.splitB_all ⟨#[32]⟩ (by decide) 0 _ (bs (Lib.join (w0 :: ws) [32])) rfl
    rw [hs, List.length_map, List.length_cons] at h
    omega
  rw [hs, hn, List.map_map] at c
  exact c

def encSk (x : Skl) : List Value := [.string x.1, .int .i64 x.2]
theorem infoSkill : (Tryd.prog.info? 41).map (fun i => (i.zero, i.size, i.bytes)) = some (some (.agg #[.string ⟨#[]⟩, .int .i64 0]), 2, 24) := by kernel_rfl
theorem infoPer : (Tryd.prog.info? 37).map (·.size) = some 4 := by kernel_rfl
theorem results_cell_tmp_row {P : Program} {fn : Func} {p u : Tmp} {ty : TypeId} (h : fn.results = #[.cell p ty, .tmp u]) (tmps : Array Value) (w : World) (g : Nat) (t : TypeId) (cs : Array Value) (fr : Nat × Nat) (d : TypeDesc)
    (hp : tmps.getD p undef = .pointer (some ⟨g, 0, none⟩)) (hg : w.heap[g]? = some (.cells cs t fr))
    (hu : P.underlying ty = some d) (hd : (match d with | .struct _ | .array _ _ => true | _ => false) = true) (hi : (P.info? ty).map (·.size) = some cs.size) :
    (results fn tmps).run P w = .ok (.tuple #[.agg cs, tmps.getD u undef]) w := by
  rw [results_cell_tmp h, hp]
  simp [asAddr, run_loadVar_row w g t ty cs fr d hg hu hd hi]
theorem word_skill : ∀ (l : List Skl) {m : Nat} (hm : m < l.length), (skW l)[2 * m]? = some l[m].1.data.toList ∧ (skW l)[2 * m + 1]? = some (Lib.itoa l[m].2)
  | [], m, hm => absurd hm (by simp)
  | s :: r, 0, _ => ⟨rfl, rfl⟩
  | s :: r, m + 1, hm => by
    have ih := word_skill r (m := m) (by simpa using hm)
    have e : skW (s :: r) = s.1.data.toList :: Lib.itoa s.2 :: skW r := rfl
    rw [e, show 2 * (m + 1) = 2 * m + 1 + 1 by omega, List.getElem?_cons_succ, List.getElem?_cons_succ, List.getElem?_cons_succ, List.getElem?_cons_succ]
    exact ih
theorem boxes2 (w : World) (cs ds : Array Value) (t t' : TypeId) : Has ((w.alloc (.cells cs t)).alloc (.cells ds t')) w.heap.size cs t ∧ Has ((w.alloc (.cells cs t)).alloc (.cells ds t')) (w.heap.size + 1) ds t' ∧ Below w.heap.size w ((w.alloc (.cells cs t)).alloc (.cells ds t')) := by
  refine ⟨(Has.new _ _ _).alloc _, ?_, ((Below.refl _ _).alloc (Nat.le_refl _) _).alloc (by simp) _⟩
  have := Has.new (w.alloc (.cells cs t)) ds t'
  simpa using this
/-- the numbers that are read so far -/
def gotN (k : Nat) (j : Nat) (n : Int) : Value := .int .i64 (if j < k then n else 0)
/-- what a reader of one person keeps: the result's box R, the person's box C, the words' block G -/
structure RpAt (w : World) (R C G : Nat) (p : PerD) (k m : Nat) (vs : Value) : Prop where
  res : Has w R #[.int .i64 0, .int .i64 0, .int .i64 0, .slice none 0 0] 37
  box : Has w C #[gotN k 0 p.no, gotN k 1 p.cap, gotN k 2 p.cl, vs] 37
  words : Has w G ((personW :: perW p).map wordV).toArray 9
  sk : w.ownsRow R 41 2 vs m ((p.sk.take m).flatMap encSk)
theorem RpAt.below {w w' : World} {R C G : Nat} {p : PerD} {k m : Nat} {vs : Value} (h : RpAt w R C G p k m vs) (hb : Below w.heap.size w w') : RpAt w' R C G p k m vs :=
  ⟨h.res.below hb h.res.lt, h.box.below hb h.box.lt, h.words.below hb h.words.lt, owns_below h.sk hb⟩
theorem RpAt.word {w : World} {R C G : Nat} {p : PerD} {k m : Nat} {vs : Value} (h : RpAt w R C G p k m vs) {j : Nat} {x : List UInt8} (hx : (personW :: perW p)[j]? = some x) : w.cell? ⟨G, j, none⟩ = some (.string (bs x)) := by
  rw [h.words.cell j, List.getElem?_toArray, List.getElem?_map, hx]
  rfl
theorem RpAt.num {w : World} {R C G : Nat} {p : PerD} {k k' m i : Nat} {v vs : Value} (h : RpAt w R C G p k m vs) (hR : R ≠ C) (hG : G ≠ C)
    (he : (#[gotN k 0 p.no, gotN k 1 p.cap, gotN k 2 p.cl, vs] : Array Value).setIfInBounds i v = #[gotN k' 0 p.no, gotN k' 1 p.cap, gotN k' 2 p.cl, vs]) : RpAt (w.setCell ⟨C, i, none⟩ v) R C G p k' m vs :=
  ⟨h.res.set_other i v hR, he ▸ h.box.set i v, h.words.set_other i v hG, owns_kept_has h.sk h.box (by decide) (grownBy_set _ _ _ _)⟩
theorem word_at (p : PerD) (m : Nat) : (personW :: perW p)[4 + 2 * m]? = (skW p.sk)[2 * m]? ∧ (personW :: perW p)[4 + 2 * m + 1]? = (skW p.sk)[2 * m + 1]? := by
  constructor
  · rw [show 4 + 2 * m = 2 * m + 1 + 1 + 1 + 1 by omega]
    rfl
  · rw [show 4 + 2 * m + 1 = 2 * m + 1 + 1 + 1 + 1 + 1 by omega]
    rfl
def RpPost (p : PerD) (w : World) (e : Ending) (w' : World) : Prop :=
  ∃ a c, e = .returned (.tuple #[.agg #[.int .i64 p.no, .int .i64 p.cap, .int .i64 p.cl, .slice a p.sk.length c], .bool true]) ∧ w'.ownsRow w.heap.size 41 2 (.slice a p.sk.length c) p.sk.length (p.sk.flatMap encSk) ∧ Below w.heap.size w w' ∧ w.heap.size ≤ w'.heap.size

set_option maxRecDepth 100000 in
set_option maxHeartbeats 4000000 in
theorem readPerson_ok (p : PerD) (w : World) (hp : PerOk p) (hE : Env w) :
    Calls Tryd.prog 13 #[.string (bs (lineP p))] w (RpPost p w) := by
  have HP := Lib.hid hp
  have HE := Lib.hid hE
  have hfew := hp.few
  have hbx := boxes2 w #[.int .i64 0, .int .i64 0, .int .i64 0, .slice none 0 0] #[.int .i64 0, .int .i64 0, .int .i64 0, .slice none 0 0] 37 37
  have HX := Lib.hid hbx
  have hsp := fun W hW => split_words personW (perW p) (words_clean hp 32 (.inr rfl)) (by have := line_short hp; unfold lineP at this; omega) W hW
  rw [show Lib.join (personW :: perW p) [32] = lineP p from rfl, perW_len] at hsp
  obtain ⟨N, hN⟩ : ∃ N, N = 3 + 2 * p.sk.length + 1 := ⟨_, rfl⟩
  rw [← hN] at hsp
  have hN4 : decide ((N : Int) < 4) = false := decide_eq_false (by omega)
  have hN2 : ((N : Int) % 2 == 0) = true := by
    have e : (N : Int) % 2 = 0 := by omega
    simp [e]
  have hN3 : ((N : Int) % 2 != 0) = false := by
    have e : (N : Int) % 2 = 0 := by omega
    simp [e]
  have hNN : 4 ≤ N ∧ N ≤ 28 := by omega
  have HN := Lib.hid hN
  clear hN
  have HSP := Lib.hid hsp
  clear hp hE hbx hsp
  generalize bs (lineP p) = L at *
  go_enter Tryd.func13, Tryd.ntmps13
  go_upto_region 2 with fail
  have hzz : ((w.alloc (.cells #[.int .i64 0, .int .i64 0, .int .i64 0, .slice none 0 0] 37)).alloc (.cells #[.int .i64 0, .int .i64 0, .int .i64 0, .slice none 0 0] 37)).heap.size = w.heap.size + 2 := by simp
  generalize (w.alloc (.cells #[.int .i64 0, .int .i64 0, .int .i64 0, .slice none 0 0] 37)).alloc (.cells #[.int .i64 0, .int .i64 0, .int .i64 0, .slice none 0 0] 37) = w2 at *
  go_wp2_with fail
  refine (HSP.out w2 (HE.out.below HX.out.2.2)).mono ?_
  rintro e w3 ⟨rfl, hw3⟩
  have hb3 := box1 w2 ((personW :: perW p).map wordV).toArray 9
  rw [← hw3, hzz] at hb3
  have HB3 := Lib.hid (below_up HX.out.2.2 (by rw [hzz]; exact hb3.2) HX.out.2.2.size)
  have HI3 := Lib.hid (show RpAt w3 w.heap.size (w.heap.size + 1) (w.heap.size + 2) p 0 0 (.slice none 0 0) from
    ⟨HX.out.1.below hb3.2 (by omega), HX.out.2.1.below hb3.2 (by omega), hb3.1, by rw [List.take_zero]; exact World.ownsRow_nil _ _ _ _⟩)
  have hz3 : w3.heap.size = w.heap.size + 3 := by rw [hw3, World.size_alloc, hzz]
  have c0 : w3.cell? ⟨w.heap.size + 2, 0, none⟩ = some (.string ⟨#[112, 101, 114, 115, 111, 110]⟩) := HI3.out.word (j := 0) rfl
  clear hb3 hw3 HX HSP
  generalize hRz : w.heap.size = R at *
  have HRZ := Lib.hid hRz
  clear hRz
  have hb4 := box1 w3 #[.pointer (some ⟨R + 1, 0, none⟩), .pointer (some ⟨R + 1, 1, none⟩), .pointer (some ⟨R + 1, 2, none⟩)] 57
  rw [hz3] at hb4
  have HP4 := Lib.hid hb4.1
  have HI4 := Lib.hid (HI3.out.below (by rw [hz3]; exact hb4.2))
  have HB4 := Lib.hid (HB3.out.trans (hb4.2.mono (by omega)))
  clear hb4 HI3 HB3
  go_wp2_with fail
  go_loopw [36] (fun kv wx => ∃ k : Nat, kv = .int .i64 ((k : Nat) : Int) ∧ k ≤ 3 ∧ RpAt wx R (R + 1) (R + 2) p k 0 (.slice none 0 0) ∧ Has wx (R + 3) #[.pointer (some ⟨R + 1, 0, none⟩), .pointer (some ⟨R + 1, 1, none⟩), .pointer (some ⟨R + 1, 2, none⟩)] 57 ∧ Below R w wx) (fun kv _ => 3 - (intOf kv).toNat)
  case atStart => exact ⟨0, rfl, by omega, HI4.out, HP4.out, HB4.out⟩
  case round =>
    obtain ⟨k, rfl, hk, hI, hP, hB⟩ := hrel
    rename World => wx
    have HI := Lib.hid hI
    have HPT := Lib.hid hP
    have HB := Lib.hid hB
    clear hI hP hB HI4 HP4 HB4 c0
    rcases (show k = 0 ∨ k = 1 ∨ k = 2 ∨ k = 3 by omega) with rfl | rfl | rfl | rfl
    · have p0 := HPT.out.cell 0
      have c1 : wx.cell? ⟨R + 2, 1, none⟩ = some (.string (bs (Lib.itoa p.no))) := HI.out.word (j := 1) rfl
      have HNB := Lib.hid (number_ok p.no HP.out.no wx (HE.out.below (by rw [HRZ.out]; exact HB.out)))
      generalize bs (Lib.itoa p.no) = t at *
      go_wp2_with fail
      refine HNB.out.mono ?_
      rintro e wn ⟨rfl, hbn⟩
      have HIN := Lib.hid (HI.out.below hbn)
      have HPN := Lib.hid (HPT.out.below hbn HPT.out.lt)
      have HBN := Lib.hid (below_up HB.out hbn (by have := HI.out.res.lt; omega))
      have d0 := HIN.out.box.cell 0
      have f0 := HIN.out.box.fz 0
      have HIS := Lib.hid (HIN.out.num (i := 0) (k' := 1) (v := .int .i64 p.no) (by omega) (by omega) rfl)
      have HPS := Lib.hid (HPN.out.set_other 0 (.int .i64 p.no) (show R + 3 ≠ R + 1 by omega))
      have HBS := Lib.hid (HBN.out.setCell (p := ⟨R + 1, 0, none⟩) (by show R ≤ R + 1; omega) (.int .i64 p.no))
      clear hbn HNB c1 p0 HIN HPN HBN HI HPT HB
      go_wp2_with fail
      go_roundw
      case rel => exact ⟨1, by go_num, by omega, HIS.out, HPS.out, HBS.out⟩
      case measure => simp [intOf]
    · have p0 := HPT.out.cell 1
      have c1 : wx.cell? ⟨R + 2, 2, none⟩ = some (.string (bs (Lib.itoa p.cap))) := HI.out.word (j := 2) rfl
      have HNB := Lib.hid (number_ok p.cap HP.out.cap wx (HE.out.below (by rw [HRZ.out]; exact HB.out)))
      generalize bs (Lib.itoa p.cap) = t at *
      go_wp2_with fail
      refine HNB.out.mono ?_
      rintro e wn ⟨rfl, hbn⟩
      have HIN := Lib.hid (HI.out.below hbn)
      have HPN := Lib.hid (HPT.out.below hbn HPT.out.lt)
      have HBN := Lib.hid (below_up HB.out hbn (by have := HI.out.res.lt; omega))
      have d0 := HIN.out.box.cell 1
      have f0 := HIN.out.box.fz 1
      have HIS := Lib.hid (HIN.out.num (i := 1) (k' := 2) (v := .int .i64 p.cap) (by omega) (by omega) rfl)
      have HPS := Lib.hid (HPN.out.set_other 1 (.int .i64 p.cap) (show R + 3 ≠ R + 1 by omega))
      have HBS := Lib.hid (HBN.out.setCell (p := ⟨R + 1, 1, none⟩) (by show R ≤ R + 1; omega) (.int .i64 p.cap))
      clear hbn HNB c1 p0 HIN HPN HBN HI HPT HB
      go_wp2_with fail
      go_roundw
      case rel => exact ⟨2, by go_num, by omega, HIS.out, HPS.out, HBS.out⟩
      case measure => simp [intOf]
    · have p0 := HPT.out.cell 2
      have c1 : wx.cell? ⟨R + 2, 3, none⟩ = some (.string (bs (Lib.itoa p.cl))) := HI.out.word (j := 3) rfl
      have HNB := Lib.hid (number_ok p.cl HP.out.cl wx (HE.out.below (by rw [HRZ.out]; exact HB.out)))
      generalize bs (Lib.itoa p.cl) = t at *
      go_wp2_with fail
      refine HNB.out.mono ?_
      rintro e wn ⟨rfl, hbn⟩
      have HIN := Lib.hid (HI.out.below hbn)
      have HPN := Lib.hid (HPT.out.below hbn HPT.out.lt)
      have HBN := Lib.hid (below_up HB.out hbn (by have := HI.out.res.lt; omega))
      have d0 := HIN.out.box.cell 2
      have f0 := HIN.out.box.fz 2
      have HIS := Lib.hid (HIN.out.num (i := 2) (k' := 3) (v := .int .i64 p.cl) (by omega) (by omega) rfl)
      have HPS := Lib.hid (HPN.out.set_other 2 (.int .i64 p.cl) (show R + 3 ≠ R + 1 by omega))
      have HBS := Lib.hid (HBN.out.setCell (p := ⟨R + 1, 2, none⟩) (by show R ≤ R + 1; omega) (.int .i64 p.cl))
      clear hbn HNB c1 p0 HIN HPN HBN HI HPT HB
      go_wp2_with fail
      go_roundw
      case rel => exact ⟨3, by go_num, by omega, HIS.out, HPS.out, HBS.out⟩
      case measure => simp [intOf]
    · go_wp2_with fail
      go_loopw [10] (fun iv wx => ∃ (i m : Nat) (vs : Value), iv = .int .i64 ((i : Nat) : Int) ∧ i = 4 + 2 * m ∧ m ≤ p.sk.length ∧ RpAt wx R (R + 1) (R + 2) p 3 m vs ∧ Below R w wx) (fun iv _ => 30 - (intOf iv).toNat)
      case atStart => exact ⟨4, 0, .slice none 0 0, rfl, rfl, Nat.zero_le _, HI.out, HB.out⟩
      case round =>
        obtain ⟨i, m, vs, rfl, him, hm, hI, hB⟩ := hrel
        rename World => wy
        obtain ⟨sa, sc, rfl⟩ := owns_slice hI.sk
        clear HI HB HPT
        have HI := Lib.hid hI
        have HB := Lib.hid hB
        clear hI hB
        by_cases hml : m < p.sk.length
        · have hlt : i + 1 < N := by have := HN.out; omega
          obtain ⟨hw0, hw1⟩ := word_skill p.sk hml
          obtain ⟨ha0, ha1⟩ := word_at p m
          rw [hw0] at ha0
          rw [hw1] at ha1
          have c0 := HI.out.word ha0
          have c1 := HI.out.word ha1
          rw [← him] at c0 c1
          have hnm := HP.out.nms _ (List.getElem_mem hml)
          have hrk := HP.out.rks _ (List.getElem_mem hml)
          have HTN := Lib.hid (show (p.sk.take (m + 1)).flatMap encSk = (p.sk.take m).flatMap encSk ++ encSk p.sk[m] by rw [List.take_succ_eq_append_getElem hml, List.flatMap_append]; simp)
          clear ha0 ha1 hw0 hw1
          generalize p.sk[m] = s at *
          obtain ⟨y1, y2⟩ := s
          simp only at c0 c1 hnm hrk
          have hy1 : bs y1.data.toList = y1 := rfl
          rw [hy1] at c0
          have hne : y1.toList.isEmpty = false := by
            have h0 := (nm_size hnm).1
            rw [ByteArray.toList_eq]
            cases hq : y1.data.toList with
            | nil =>
              have := congrArg List.length hq
              rw [Array.length_toList] at this
              exact absurd this h0
            | cons _ _ => rfl
          have HNB := Lib.hid (number_ok y2 hrk wy (HE.out.below (by rw [HRZ.out]; exact HB.out)))
          have w1 : IntKind.i64.wrap ((i : Int) + 1) = ((i + 1 : Nat) : Int) := by rw [IntWalk.i64_in _ (by omega)]; omega
          have w1' : IntKind.i64.wrap ((i : Int) + 1) = (i : Int) + 1 := IntWalk.i64_in _ (by omega)
          have w2' : IntKind.i64.wrap ((i : Int) + 2) = (i : Int) + 2 := IntWalk.i64_in _ (by omega)
          have t1 : ((i : Int) + 1).toNat = i + 1 := by omega
          have HIM := Lib.hid him
          clear him hnm hrk hy1 w1
          generalize bs (Lib.itoa y2) = t at *
          go_wp2_with fail
          refine HNB.out.mono ?_
          rintro e wn ⟨rfl, hbn⟩
          have HIN := Lib.hid (HI.out.below hbn)
          have HBN := Lib.hid (below_up HB.out hbn (by have := HI.out.res.lt; omega))
          have c0 := (below_cell hbn HI.out.words.lt).trans c0
          have c3 := HIN.out.box.cell 3
          clear hbn HNB c1 HI HB
          go_upto_region 19 with fail
          have hS0 : (fun W : World => W.cell? ⟨R + 1, 3, none⟩ = some (.slice sa m sc) ∧ W.cell? ⟨R + 2, i, none⟩ = some (.string y1)) wn.drew := ⟨c3, c0⟩
          obtain ⟨i0, hi0, hz0, hz1, hz2⟩ := info_parts infoSkill
          refine anyT_start (S := fun W : World => W.cell? ⟨R + 1, 3, none⟩ = some (.slice sa m sc) ∧ W.cell? ⟨R + 2, i, none⟩ = some (.string y1)) (t := 11) (by kernel_rfl) ?_
          have hbd : Below wn.heap.size wn wn.drew := (Below.refl _ _).drew
          have HID := Lib.hid (HIN.out.below hbd)
          have HBD := Lib.hid HBN.out.drew
          have hCd : R + 1 < wn.drew.heap.size := HID.out.box.lt
          have hGd : R + 2 < wn.drew.heap.size := HID.out.words.lt
          clear c3 c0 HIN HBN hbd
          generalize wn.drew = wd at *
          refine takeT (i := 0) (v := ?_) rfl rfl (by kernel_rfl) (by kernel_rfl) (by kernel_rfl) (fun _ _ _ h => h) (by decide) (by kernel_rfl) (by kernel_rfl) ?_ hS0 ?_
          rotate_left
          · intro w hSw; (try dsimp only at hSw); go_simp; (try with_reducible rfl)
          simp only [List.setIfInBounds_toArray, List.set_cons_zero, List.set_cons_succ]
          refine takeT (i := 1) (v := ?_) rfl rfl (by kernel_rfl) (by kernel_rfl) (by kernel_rfl) (fun _ _ _ h => h) (by decide) (by kernel_rfl) (by kernel_rfl) ?_ hS0 ?_
          rotate_left
          · intro w hSw; (try dsimp only at hSw); go_simp; (try with_reducible rfl)
          simp only [List.setIfInBounds_toArray, List.set_cons_zero, List.set_cons_succ]
          refine takeT (i := 2) (v := ?_) rfl rfl (by kernel_rfl) (by kernel_rfl) (by kernel_rfl) (fun _ _ _ h => h) (by decide) (by kernel_rfl) (by kernel_rfl) ?_ hS0 ?_
          rotate_left
          · intro w hSw; (try dsimp only at hSw); go_simp; (try with_reducible rfl)
          simp only [List.setIfInBounds_toArray, List.set_cons_zero, List.set_cons_succ]
          refine takeT (i := 3) (v := ?_) rfl rfl (by kernel_rfl) (by kernel_rfl) (by kernel_rfl) (fun _ _ _ h => h) (by decide) (by kernel_rfl) (by kernel_rfl) ?_ hS0 ?_
          rotate_left
          · intro w hSw; (try dsimp only at hSw); go_simp; (try with_reducible rfl)
          simp only [List.setIfInBounds_toArray, List.set_cons_zero, List.set_cons_succ]
          refine takeT (i := 4) (v := ?_) rfl rfl (by kernel_rfl) (by kernel_rfl) (by kernel_rfl) (fun _ _ _ h => h) (by decide) (by kernel_rfl) (by kernel_rfl) ?_ hS0 ?_
          rotate_left
          · intro w hSw; (try dsimp only at hSw); go_simp; (try with_reducible rfl)
          simp only [List.setIfInBounds_toArray, List.set_cons_zero, List.set_cons_succ]
          refine takeT (i := 5) (v := ?_) rfl rfl (by kernel_rfl) (by kernel_rfl) (by kernel_rfl) (fun _ _ _ h => h) (by decide) (by kernel_rfl) (by kernel_rfl) ?_ hS0 ?_
          rotate_left
          · intro w hSw; (try dsimp only at hSw); go_simp; (try with_reducible rfl)
          simp only [List.setIfInBounds_toArray, List.set_cons_zero, List.set_cons_succ]
          refine takeT (i := 6) (v := ?_) rfl rfl (by kernel_rfl) (by kernel_rfl) (by kernel_rfl) (fun _ _ _ h => h) (by decide) (by kernel_rfl) (by kernel_rfl) ?_ hS0 ?_
          rotate_left
          · intro w hSw; (try dsimp only at hSw); go_simp; (try with_reducible rfl)
          simp only [List.setIfInBounds_toArray, List.set_cons_zero, List.set_cons_succ]
          refine takeT (i := 7) (v := ?_) rfl rfl (by kernel_rfl) (by kernel_rfl) (by kernel_rfl) (fun _ _ _ h => h) (by decide) (by kernel_rfl) (by kernel_rfl) ?_ hS0 ?_
          rotate_left
          · intro w hSw; (try dsimp only at hSw); go_simp; (try with_reducible rfl)
          simp only [List.setIfInBounds_toArray, List.set_cons_zero, List.set_cons_succ]
          refine oneT (i := 8) rfl (by kernel_rfl) (fun K hK => ?_)
          go_simp
          have hb6 : Below wd.heap.size wd (wd.alloc (.cells #[.string y1, .int .i64 y2] 41)) := (Below.refl _ _).alloc (Nat.le_refl _) _
          refine hK.out _ _ (fun _ => ⟨(below_cell hb6 hCd).trans hS0.1, (below_cell hb6 hGd).trans hS0.2⟩) ?_
          clear hK
          try simp only [List.setIfInBounds_toArray, List.set_cons_zero, List.set_cons_succ, Act.put]
          refine oneT (i := 9) rfl (by kernel_rfl) (fun K hK => ?_)
          refine step_append_lies _ (by rfl) _ _ _ (by rfl) R 41 i0 (.agg #[.string ⟨#[]⟩, .int .i64 0]) 2 24 Tryd.underlying35 hi0 hz0 hz1 hz2 rfl (by omega) _ _ _ (by rfl) (HID.out.sk.alloc _) ⟨wd.heap.size, 0, none⟩ 1 1 [.string y1, .int .i64 y2] (by rfl) rfl (World.news_of_block (heap_alloc_new _ _)) (by simp [Value.oneCell']) (by omega) (by unfold maxLen; omega) (by omega) (by simp; omega) (wd.heap.size + 1) (by simp) ?_
          intro g' c' w6 hown1 hgrow hat hlt'
          have hown4 := HID.out.sk.alloc (.cells #[.string y1, .int .i64 y2] 41)
          have box6 := (HID.out.box.alloc (.cells #[.string y1, .int .i64 y2] 41)).kept_own hown4 (by decide) hgrow
          have wrd6 := (HID.out.words.alloc (.cells #[.string y1, .int .i64 y2] 41)).kept_own hown4 (by decide) hgrow
          have res6 := (HID.out.res.alloc (.cells #[.string y1, .int .i64 y2] 41)).kept_own hown4 (by decide) hgrow
          have s1 : w6.cell? ⟨R + 2, i, none⟩ = some (.string y1) := by
            rw [wrd6.cell i, ← (HID.out.words.cell i)]
            exact hS0.2
          have hS6 : (fun W : World => W.cell? ⟨R + 1, 3, none⟩ = some (.slice sa m sc) ∧ W.cell? ⟨R + 2, i, none⟩ = some (.string y1)) w6 := ⟨box6.cell 3, s1⟩
          have f6 := box6.fz 3
          have z6 := box6.cell 3
          have hb7 : Below R w w6 := (HBD.out.alloc (by omega) _).grown hgrow (by simp; omega) (fun q hq => (hown4.lt q hq).1)
          have h' : w6.ownsRow R 41 2 (.slice (some ⟨g', 0, none⟩) (m + 1) c') (m + 1) ((p.sk.take (m + 1)).flatMap encSk) := by
            rw [HTN.out]
            exact hown1
          have H7 := Lib.hid (show RpAt (w6.setCell ⟨R + 1, 3, none⟩ (.slice (some ⟨g', 0, none⟩) (m + 1) c')) R (R + 1) (R + 2) p 3 (m + 1) (.slice (some ⟨g', 0, none⟩) (m + 1) c') from
            ⟨res6.set_other _ _ (by omega), box6.set 3 _, wrd6.set_other _ _ (by omega), owns_kept_has h' box6 (by decide) (grownBy_set _ _ _ _)⟩)
          have HB8 := Lib.hid (hb7.setCell (p := ⟨R + 1, 3, none⟩) (by show R ≤ R + 1; omega) (.slice (some ⟨g', 0, none⟩) (m + 1) c'))
          refine hK.out _ _ (fun _ => hS6) ?_
          clear hK hown1 hgrow hat hlt' hown4 box6 wrd6 res6 hb7 h' s1 hb6 hS0 HID HBD HTN
          try simp only [List.setIfInBounds_toArray, List.set_cons_zero, List.set_cons_succ, Act.put]
          refine oneT (i := 10) rfl (by kernel_rfl) (fun K hK => ?_)
          go_simp
          refine hK.out _ _ (fun _ => hS6) ?_
          clear hK
          try simp only [List.setIfInBounds_toArray, List.set_cons_zero, List.set_cons_succ, Act.put]
          refine oneT (i := 11) rfl (by kernel_rfl) (fun K hK => ?_)
          go_simp
          refine hK.out _ _ (fun q => absurd rfl q) ?_
          refine doneT (by kernel_rfl) ?_ _
          go_wp2_with fail
          go_roundw
          case rel => exact ⟨i + 2, by go_num, m + 1, by have := HIM.out; omega, hml, ⟨_, H7.out⟩, HB8.out⟩
          case measure => simp [intOf]; omega
        · obtain rfl : m = p.sk.length := by omega
          have hiN : i = N := by have := HN.out; omega
          have k0 : wy.cell? ⟨R + 1, 0, none⟩ = some (.int .i64 p.no) := HI.out.box.cell 0
          have k1 : wy.cell? ⟨R + 1, 1, none⟩ = some (.int .i64 p.cap) := HI.out.box.cell 1
          have k2 : wy.cell? ⟨R + 1, 2, none⟩ = some (.int .i64 p.cl) := HI.out.box.cell 2
          have k3 := HI.out.box.cell 3
          have r0 := HI.out.res.cell 0
          have r1 := HI.out.res.cell 1
          have r2 := HI.out.res.cell 2
          have r3 := HI.out.res.cell 3
          have f0 := HI.out.res.fz 0
          have f1 := HI.out.res.fz 1
          have f2 := HI.out.res.fz 2
          have f3 := HI.out.res.fz 3
          have hsk := HI.out.sk
          rw [List.take_length] at hsk
          have HZ := Lib.hid (show Has _ R #[.int .i64 p.no, .int .i64 p.cap, .int .i64 p.cl, .slice sa p.sk.length sc] 37 from (((HI.out.res.set 0 (.int .i64 p.no)).set 1 (.int .i64 p.cap)).set 2 (.int .i64 p.cl)).set 3 (.slice sa p.sk.length sc))
          have HQ := Lib.hid (owns_kept_has (owns_kept_has (owns_kept_has (owns_kept_has hsk HI.out.res (by decide) (grownBy_set wy R 0 (.int .i64 p.no))) (HI.out.res.set 0 (.int .i64 p.no)) (by decide) (grownBy_set _ R 1 (.int .i64 p.cap))) ((HI.out.res.set 0 (.int .i64 p.no)).set 1 (.int .i64 p.cap)) (by decide) (grownBy_set _ R 2 (.int .i64 p.cl))) (((HI.out.res.set 0 (.int .i64 p.no)).set 1 (.int .i64 p.cap)).set 2 (.int .i64 p.cl)) (by decide) (grownBy_set _ R 3 (.slice sa p.sk.length sc)))
          have HBZ := Lib.hid ((((HB.out.setCell (p := ⟨R, 0, none⟩) (Nat.le_refl _) (.int .i64 p.no)).setCell (p := ⟨R, 1, none⟩) (Nat.le_refl _) (.int .i64 p.cap)).setCell (p := ⟨R, 2, none⟩) (Nat.le_refl _) (.int .i64 p.cl)).setCell (p := ⟨R, 3, none⟩) (Nat.le_refl _) (.slice sa p.sk.length sc))
          have HIM := Lib.hid him
          subst hiN
          have hlz : decide (i < i) = false := decide_eq_false (by omega)
          clear hsk HI HB him
          go_wp2_with fail
          try simp only [Exit.inBlock, Exit.then]
          refine bodyPost_ret (results_cell_tmp_row rfl _ _ R _ _ (0, 0) _ rfl HZ.out Tryd.underlying37 rfl infoPer) rfl ?_
          refine ⟨sa, sc, rfl, ?_, ?_, ?_⟩
          · rw [HRZ.out]; exact HQ.out
          · rw [HRZ.out]; exact HBZ.out
          · exact HBZ.out.size
end Go.Proofs.YtefdijgglakccaaDoor
