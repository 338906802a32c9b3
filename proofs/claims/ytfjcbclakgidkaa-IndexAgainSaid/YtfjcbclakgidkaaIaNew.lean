/- The walk of know.NewIndex. -/
import Derived.Test.YtfjcbclakgidkaaIaWith
import Derived.Test.YtfjcbclakgidkaaIaEnt
import Derived.Test.YtfjcbclakgidkaaIaLaw3
namespace Go.Proofs.Ytfjcbclakgidkaa
open Go.RowKit

abbrev EnM : Type := Int × ByteArray × ByteArray
def toD (e : EnM) : EnD := (e.1, e.2.1.data.toList, e.2.2.data.toList)
def enR (_ : World) (cs : List Value) (e : EnM) : Prop := cs = [.int .i64 e.1, .string e.2.1, .string e.2.2]
theorem enR_stable : Stable enR := fun _ _ _ _ h _ => h
/-- entries in memory -/
def EntsAt (w : World) (v : Value) (L : List EnM) : Prop := SliceAt 3 enR w v L
theorem EntsAt.below {w w' : World} {v : Value} {L : List EnM} (h : EntsAt w v L) (hb : Below w.heap.size w w') : EntsAt w' v L := SliceAt.stable enR_stable h hb
theorem EntsAt.cells {w : World} {b off cap : Nat} {L : List EnM} (h : EntsAt w (.slice (some ⟨b, off, none⟩) L.length cap) L) {i : Nat} (hi : i < L.length) : b < w.heap.size ∧ w.cell? ⟨b, off + i * 3, none⟩ = some (.int .i64 L[i].1) ∧ w.cell? ⟨b, off + i * 3 + 1, none⟩ = some (.string L[i].2.1) ∧ w.cell? ⟨b, off + i * 3 + 2, none⟩ = some (.string L[i].2.2) := by
  obtain ⟨b', off', cap', hv, _, hb, hel⟩ := SliceAt.at h (by omega)
  simp only [Value.slice.injEq, Option.some.injEq, Addr.mk.injEq] at hv
  obtain ⟨⟨rfl, rfl, _⟩, _, rfl⟩ := hv
  obtain ⟨cs, ⟨h1, h4⟩, h5⟩ := hel i hi
  have h5 : cs = [.int .i64 L[i].1, .string L[i].2.1, .string L[i].2.2] := h5
  subst h5
  exact ⟨hb, h4 0 (by show 0 < 3; decide), h4 1 (by show 1 < 3; decide), h4 2 (by show 2 < 3; decide)⟩
theorem EntsAt.two {w : World} {v : Value} {L : List EnM} (h : EntsAt w v L) : ∃ a cap, v = .slice a L.length cap ∧ (0 < L.length → ∃ b off, a = some ⟨b, off, none⟩) := by
  rcases h with ⟨a, cap, rfl, rfl⟩ | ⟨b, off, cap, rfl, _⟩
  · exact ⟨a, cap, rfl, fun h => absurd h (by decide)⟩
  · exact ⟨_, cap, rfl, fun _ => ⟨b, off, rfl⟩⟩
def chkL : Int → List EnD → Int
  | _, [] => 0
  | before, v :: l => if entE v before = 0 then chkL v.1 l else entE v before
/-- what know.NewIndex says -/
def newE (E : List EnD) : Int := if 200 < E.length then 4 else chkL 0 E
theorem entE_zero {v : EnD} {before : Int} (h : entE v before = 0) : 1 ≤ v.1 ∧ v.1 ≤ 3000000 ∧ before < v.1 ∧ v.2.1.length ≤ 200 ∧ v.2.2.length ≤ 20000 ∧ textE v.2.1 v.2.2 = 0 := by
  unfold entE at h
  split at h
  · cases h
  · split at h
    · cases h
    · refine ⟨by omega, by omega, by omega, ?_, ?_, h⟩
      · unfold textE at h
        split at h
        · cases h
        · omega
      · unfold textE at h
        split at h
        · cases h
        · omega
def GoodE (v : EnD) : Prop := 1 ≤ v.1 ∧ v.1 ≤ 3000000 ∧ v.2.1.length ≤ 200 ∧ v.2.2.length ≤ 20000 ∧ textE v.2.1 v.2.2 = 0
theorem chk_ok : ∀ (E : List EnD) (before : Int), chkL before E = 0 ↔ (AscE E ∧ (∀ v ∈ E, GoodE v ∧ before < v.1))
  | [], before => by
    refine ⟨fun _ => ⟨List.Pairwise.nil, fun v hv => by cases hv⟩, fun _ => rfl⟩
  | v :: E, before => by
    have ih := chk_ok E v.1
    rw [chkL]
    constructor
    · intro h
      split at h
      · rename_i h0
        obtain ⟨h1, h2, h3, h4, h5, h6⟩ := entE_zero h0
        obtain ⟨i1, i2⟩ := ih.1 h
        refine ⟨List.pairwise_cons.2 ⟨fun u hu => (i2 u hu).2, i1⟩, fun u hu => ?_⟩
        rcases List.mem_cons.1 hu with rfl | hu
        · exact ⟨⟨h1, h2, h4, h5, h6⟩, h3⟩
        · exact ⟨(i2 u hu).1, Int.lt_trans h3 (i2 u hu).2⟩
      · rename_i h0
        exact absurd h h0
    · rintro ⟨h1, h2⟩
      obtain ⟨p1, p2⟩ := List.pairwise_cons.1 h1
      obtain ⟨⟨g1, g2, g3, g4, g5⟩, g6⟩ := h2 v List.mem_cons_self
      have h0 : entE v before = 0 := by
        unfold entE
        rw [if_neg (by omega), if_neg (by omega)]
        exact g5
      rw [if_pos h0]
      exact ih.2 ⟨p2, fun u hu => ⟨(h2 u (List.mem_cons_of_mem _ hu)).1, p1 u hu⟩⟩
/-- entries that make an index -/
structure OkE (E : List EnD) : Prop where
  few : E.length ≤ 200
  asc : AscE E
  good : ∀ v ∈ E, GoodE v
theorem new_ok (E : List EnD) : newE E = 0 ↔ OkE E := by
  unfold newE
  split
  · rename_i h
    exact ⟨fun g => (by cases g), fun g => absurd g.few (by omega)⟩
  · rename_i h
    rw [chk_ok]
    exact ⟨fun ⟨a, b⟩ => ⟨by omega, a, fun v hv => (b v hv).1⟩, fun ⟨a, b, c⟩ => ⟨b, fun v hv => ⟨c v hv, by have := (c v hv).1; omega⟩⟩⟩
theorem IxAt.other {w w' : World} {iv sv tv : Value} {x : IxD} (h : IxAt w iv sv tv x) {row : Option Nat} (hr : RowOther w row) (hg : w.grownBy w' row) : IxAt w' iv sv tv x := ⟨h.ids.other hr hg, h.sizes.other hr hg, TmL.other h.terms hr hg⟩
theorem IxAt.forms {w : World} {iv sv tv : Value} {x : IxD} (h : IxAt w iv sv tv x) : (∃ a c, iv = .slice a x.ids.length c) ∧ (∃ a c, sv = .slice a x.sizes.length c) ∧ ∃ a c, tv = .slice a x.terms.length c := ⟨SliceAt.len h.ids.1, SliceAt.len h.sizes.1, TmL.len h.terms⟩
theorem IxAt.nil (w : World) : IxAt w (.slice none 0 0) (.slice none 0 0) (.slice none 0 0) ⟨[], [], []⟩ :=
  ⟨⟨.inl ⟨_, _, rfl, rfl⟩, fun _ h => by cases h⟩, ⟨.inl ⟨_, _, rfl, rfl⟩, fun _ h => by cases h⟩, ⟨[], rfl, ⟨.inl ⟨_, _, rfl, rfl⟩, fun _ h => by cases h⟩, fun _ h => by cases h⟩⟩
theorem results_cell_tmp_row {P : Program} {fn : Func} {p u : Tmp} {ty : TypeId} (h : fn.results = #[.cell p ty, .tmp u]) (tmps : Array Value) (w : World) (g : Nat) (t : TypeId) (cs : Array Value) (fr : Nat × Nat) (d : TypeDesc)
    (hp : tmps.getD p undef = .pointer (some ⟨g, 0, none⟩)) (hg : w.heap[g]? = some (.cells cs t fr))
    (hu : P.underlying ty = some d) (hd : (match d with | .struct _ | .array _ _ => true | _ => false) = true) (hi : (P.info? ty).map (·.size) = some cs.size) :
    (results fn tmps).run P w = .ok (.tuple #[.agg cs, tmps.getD u undef]) w := by
  rw [results_cell_tmp h, hp]
  simp [asAddr, run_loadVar_row w g t ty cs fr d hg hu hd hi]
def NewPost (w : World) (E : List EnD) (e : Ending) (w' : World) : Prop :=
  ((newE E ≠ 0 ∧ e = .returned (.tuple #[.agg #[.slice none 0 0, .slice none 0 0, .slice none 0 0], .int .i64 (newE E)])) ∨
    (newE E = 0 ∧ ∃ iv sv tv x, e = .returned (.tuple #[.agg #[iv, sv, tv], .int .i64 0]) ∧ IxAt w' iv sv tv x ∧ IxOk E x ∧ x.terms.length ≤ 100000 * E.length)) ∧ Below w.heap.size w w'
structure Nw1 (w wr : World) (Rb : Nat) (E : List EnD) (i : Nat) (bf : Int) : Prop where
  rb : Has wr Rb #[.slice none 0 0, .slice none 0 0, .slice none 0 0] 29
  eq : chkL 0 E = chkL bf (E.drop i)
  below : Below w.heap.size w wr
structure Nw2 (w wr : World) (Rb Xb : Nat) (E : List EnD) (i : Nat) (iv sv tv : Value) (x : IxD) : Prop where
  rb : Has wr Rb #[.slice none 0 0, .slice none 0 0, .slice none 0 0] 29
  xb : Has wr Xb #[iv, sv, tv] 29
  ix : IxAt wr iv sv tv x
  ok : IxOk (E.take i) x
  few : x.terms.length ≤ 100000 * i
  below : Below w.heap.size w wr
theorem insE_next {E : List EnD} (h : AscE E) {i : Nat} (hi : i < E.length) : insE E[i] (E.take i) = E.take (i + 1) := by
  rw [insE_last (asc_take h hi).1, List.take_succ_eq_append_getElem hi]
set_option maxRecDepth 100000 in
set_option maxHeartbeats 16000000 in
theorem NewIndex_any (v : Value) (L : List EnM) (w : World) (h : EntsAt w v L) :
    Calls Try.prog 5 #[v] w (NewPost w (L.map toD)) := by
  obtain ⟨a, cap, rfl, hla⟩ := h.two
  obtain ⟨E, hE⟩ : ∃ E, E = L.map toD := ⟨_, rfl⟩
  rw [← hE]
  have hEl : E.length = L.length := by rw [hE, List.length_map]
  obtain ⟨Rb, hRb⟩ : ∃ Rb, Rb = w.heap.size := ⟨_, rfl⟩
  have k0 := Has.new w #[.slice none 0 0, .slice none 0 0, .slice none 0 0] 29
  have b0 : Below w.heap.size w (w.alloc (.cells #[.slice none 0 0, .slice none 0 0, .slice none 0 0] 29)) := (Below.refl _ _).alloc (Nat.le_refl _) _
  rw [← hRb] at k0
  have HK0 := Lib.hid k0
  have HB0 := Lib.hid b0
  have H := Lib.hid h
  have HEE := Lib.hid hE
  have r0 := k0.cell 0
  have r1 := k0.cell 1
  have r2 := k0.cell 2
  have s0 := k0.fz 0
  have s1 := k0.fz 1
  have s2 := k0.fz 2
  have hRlow : w.heap.size ≤ Rb := by omega
  clear h hE b0 k0
  generalize hQ : NewPost w E = Q
  have HQ := Lib.hid hQ
  clear hQ
  go_enter Try.func5, Try.ntmps5
  go_upto_region 1 with fail
  rw [← hRb]
  clear hRb
  generalize w.alloc (.cells #[.slice none 0 0, .slice none 0 0, .slice none 0 0] 29) = w1 at *
  by_cases h200 : 200 < L.length
  · have q1 : decide ((200 : Int) < (L.length : Int)) = true := decide_eq_true (by omega)
    have HNE := Lib.hid (show newE E = 4 by unfold newE; rw [if_pos (by omega)])
    have HRE := Lib.hid (((HK0.out.set 0 (.slice none 0 0)).set 1 (.slice none 0 0)).set 2 (.slice none 0 0))
    go_wp2_with fail
    refine bodyPost_ret (results_cell_tmp_row rfl _ _ Rb _ _ (0, 0) _ rfl HRE.out Try.underlying29 rfl infoIx) rfl ?_
    rw [← HQ.out]
    exact ⟨.inl ⟨by rw [HNE.out]; decide, by rw [HNE.out]; rfl⟩, ((HB0.out.setCell (p := ⟨Rb, 0, none⟩) hRlow _).setCell (p := ⟨Rb, 1, none⟩) hRlow _).setCell (p := ⟨Rb, 2, none⟩) hRlow _⟩
  have q1 : decide ((200 : Int) < (L.length : Int)) = false := decide_eq_false (by omega)
  have HNE := Lib.hid (show newE E = chkL 0 E by unfold newE; rw [if_neg (by omega)])
  have HI0 := Lib.hid (show Nw1 w w1 Rb E 0 0 from ⟨HK0.out, rfl, HB0.out⟩)
  clear r0 r1 r2 s0 s1 s2
  go_wp2_with fail
  clear q1
  go_loopw [4, 17] (fun bv qv wr => ∃ (i : Nat) (bf : Int), bv = .int .i64 bf ∧ qv = .int .i64 ((i : Nat) : Int) ∧ i ≤ L.length ∧ Nw1 w wr Rb E i bf) (fun _ qv _ => L.length - (intOf qv).toNat)
  case atStart => exact ⟨0, 0, rfl, rfl, Nat.zero_le _, HI0.out⟩
  case round =>
    clear HI0 HK0 HB0
    obtain ⟨i, bf, rfl, rfl, hi, hI⟩ := hrel
    have HI := Lib.hid hI
    have hBr : w.heap.size ≤ wr.heap.size := hI.below.size
    clear hI
    by_cases hlt : i < L.length
    · obtain ⟨b, off, ha⟩ := hla (by omega)
      subst ha
      obtain ⟨e1, e2, e3, e4⟩ := (H.out.below HI.out.below).cells hlt
      obtain ⟨en, hen⟩ : ∃ en, en = L[i] := ⟨_, rfl⟩
      rw [← hen] at e2 e3 e4
      obtain ⟨id, t, bd⟩ := en
      have hEi : E[i]'(by omega) = toD (id, t, bd) := by
        rw [hen]
        have hE := HEE.out
        subst hE
        simp
      have heq := HI.out.eq
      rw [List.drop_eq_getElem_cons (by omega : i < E.length), hEi, chkL] at heq
      have HEQ := Lib.hid heq
      have hbx := Has.new wr #[.int .i64 id, .string t, .string bd] 24
      have hbb : Below wr.heap.size wr (wr.alloc (.cells #[.int .i64 id, .string t, .string bd] 24)) := (Below.refl _ _).alloc (Nat.le_refl _) _
      have n0 := hbx.cell 0
      have n1 := hbx.cell 1
      have n2 := hbx.cell 2
      have HR1 := Lib.hid (HI.out.rb.below hbb HI.out.rb.lt)
      have HB1 := Lib.hid (HI.out.below.trans (hbb.mono hBr))
      have HBX := Lib.hid hbx
      have HLT := Lib.hid hlt
      clear hen hEi heq hbb hbx
      go_upto_region 7 with fail
      clear e1 e2 e3 e4
      generalize wr.alloc (.cells #[.int .i64 id, .string t, .string bd] 24) = w2 at *
      generalize wr.heap.size = Eb at *
      go_wp2_with fail
      refine (checkEntry_any id t bd bf w2).mono ?_
      rintro e w3 ⟨rfl, hb3⟩
      have hR3 := HR1.out.below hb3 HR1.out.lt
      have HR3 := Lib.hid hR3
      have HB3 := Lib.hid (below_up HB1.out hb3 HB1.out.size)
      have m0 : w3.cell? ⟨Eb, 0, none⟩ = some (.int .i64 id) := (below_cell hb3 HBX.out.lt).trans n0
      clear hb3 n0 n1 n2
      obtain ⟨z, hz⟩ : ∃ z, z = entE (id, t.data.toList, bd.data.toList) bf := ⟨_, rfl⟩
      have HEQ2 := Lib.hid (show chkL 0 E = if z = 0 then chkL id (E.drop (i + 1)) else z by rw [hz]; exact HEQ.out)
      rw [← hz]
      clear hz HEQ
      by_cases hz0 : z = 0
      · subst hz0
        have HEQ3 := Lib.hid (HEQ2.out.trans (if_pos rfl))
        clear hR3
        go_wp2_with fail
        go_roundw
        case rel => exact ⟨i + 1, id, rfl, by go_num, by omega, HR3.out, HEQ3.out, HB3.out⟩
        case measure => simp [intOf]; omega
      · have HEQ3 := Lib.hid (HEQ2.out.trans (if_neg hz0))
        have q2 : (z != 0) = true := by simpa using hz0
        have r0 := hR3.cell 0
        have r1 := hR3.cell 1
        have r2 := hR3.cell 2
        have s0 := hR3.fz 0
        have s1 := hR3.fz 1
        have s2 := hR3.fz 2
        have HRE := Lib.hid (((hR3.set 0 (.slice none 0 0)).set 1 (.slice none 0 0)).set 2 (.slice none 0 0))
        have HZ0 := Lib.hid hz0
        clear hR3 hz0
        go_wp2_with fail
        refine bodyPost_ret (results_cell_tmp_row rfl _ _ Rb _ _ (0, 0) _ rfl HRE.out Try.underlying29 rfl infoIx) rfl ?_
        rw [← HQ.out]
        exact ⟨.inl ⟨by rw [HNE.out, HEQ3.out]; exact HZ0.out, by rw [HNE.out, HEQ3.out]; rfl⟩, ((HB3.out.setCell (p := ⟨Rb, 0, none⟩) hRlow _).setCell (p := ⟨Rb, 1, none⟩) hRlow _).setCell (p := ⟨Rb, 2, none⟩) hRlow _⟩
    · obtain rfl : i = L.length := by omega
      have h0 : newE E = 0 := by
        rw [HNE.out, HI.out.eq, List.drop_eq_nil_of_le (by omega)]
        rfl
      have HOK := Lib.hid ((new_ok E).1 h0)
      have HN0 := Lib.hid h0
      have hbx := Has.new wr #[.slice none 0 0, .slice none 0 0, .slice none 0 0] 29
      have hbb : Below wr.heap.size wr (wr.alloc (.cells #[.slice none 0 0, .slice none 0 0, .slice none 0 0] 29)) := (Below.refl _ _).alloc (Nat.le_refl _) _
      have HI2 := Lib.hid (show Nw2 w (wr.alloc (.cells #[.slice none 0 0, .slice none 0 0, .slice none 0 0] 29)) Rb wr.heap.size E 0 (.slice none 0 0) (.slice none 0 0) (.slice none 0 0) ⟨[], [], []⟩ from ⟨HI.out.rb.below hbb HI.out.rb.lt, hbx, IxAt.nil _, by rw [List.take_zero]; exact ix_nil, by simp, HI.out.below.trans (hbb.mono hBr)⟩)
      have hXlow : w.heap.size ≤ wr.heap.size := hBr
      have hRX : Rb ≠ wr.heap.size := by have := HI.out.rb.lt; omega
      clear h0 hbx hbb HI
      go_upto_region 13 with fail
      generalize wr.alloc (.cells #[.slice none 0 0, .slice none 0 0, .slice none 0 0] 29) = w4 at *
      generalize wr.heap.size = Xb at *
      go_wp2_with fail
      go_loopw [33] (fun qv wr => ∃ i : Nat, ∃ iv sv tv x, qv = .int .i64 ((i : Nat) : Int) ∧ i ≤ L.length ∧ Nw2 w wr Rb Xb E i iv sv tv x) (fun qv _ => L.length - (intOf qv).toNat)
      case atStart => exact ⟨0, _, _, _, _, rfl, Nat.zero_le _, HI2.out⟩
      case round =>
        clear HI2
        obtain ⟨i, iv, sv, tv, x, rfl, hi, hI⟩ := hrel
        have HI := Lib.hid hI
        have hBr : w.heap.size ≤ wr.heap.size := hI.below.size
        clear hI
        by_cases hlt : i < L.length
        · obtain ⟨b, off, ha⟩ := hla (by omega)
          subst ha
          obtain ⟨e1, e2, e3, e4⟩ := (H.out.below HI.out.below).cells hlt
          obtain ⟨en, hen⟩ : ∃ en, en = L[i] := ⟨_, rfl⟩
          rw [← hen] at e2 e3 e4
          obtain ⟨id, t, bd⟩ := en
          have hEi : E[i]'(by omega) = toD (id, t, bd) := by
            rw [hen]
            have hE := HEE.out
            subst hE
            simp
          have hiE : i < E.length := by omega
          have hgood := HOK.out.good _ (List.getElem_mem hiE)
          rw [hEi] at hgood
          have htl : t.size ≤ 50000 := by
            have h1 : t.data.toList.length ≤ 200 := hgood.2.2.1
            have h2 : t.data.toList.length = t.size := by simp
            omega
          have hbl : bd.size ≤ 50000 := by
            have h1 : bd.data.toList.length ≤ 20000 := hgood.2.2.2.1
            have h2 : bd.data.toList.length = bd.size := by simp
            omega
          have HEI := Lib.hid hEi
          obtain ⟨⟨a1, c1, f1⟩, ⟨a2, c2, f2⟩, ⟨a3, c3, f3⟩⟩ := HI.out.ix.forms
          generalize x.ids.length = n1 at *
          generalize x.sizes.length = n2 at *
          obtain ⟨n3, hn3⟩ : ∃ n3, n3 = x.terms.length := ⟨_, rfl⟩
          rw [← hn3] at f3
          subst f1 f2 f3
          clear hn3
          have hbx := Has.new wr #[.int .i64 id, .string t, .string bd] 24
          have hbb : Below wr.heap.size wr (wr.alloc (.cells #[.int .i64 id, .string t, .string bd] 24)) := (Below.refl _ _).alloc (Nat.le_refl _) _
          have m0 := hbx.cell 0
          have m1 := hbx.cell 1
          have m2 := hbx.cell 2
          have hxb := HI.out.xb.below hbb HI.out.xb.lt
          have x0 := hxb.cell 0
          have x1 := hxb.cell 1
          have x2 := hxb.cell 2
          have HR1 := Lib.hid (HI.out.rb.below hbb HI.out.rb.lt)
          have HB1 := Lib.hid (HI.out.below.trans (hbb.mono hBr))
          have HIX1 := Lib.hid (HI.out.ix.below hbb)
          have HXB1 := Lib.hid hxb
          clear hen hEi hbb hbx hgood hxb
          go_upto_region 16 with fail
          clear e1 e2 e3 e4
          generalize wr.alloc (.cells #[.int .i64 id, .string t, .string bd] 24) = w2 at *
          generalize wr.heap.size = Eb at *
          go_wp2_with fail
          have hlow : ∀ u ∈ E.take i, u.1 ≠ id := fun u hu => by
            have h1 := (asc_take HOK.out.asc hiE).1 u hu
            rw [HEI.out] at h1
            have h1 : u.1 < id := h1
            omega
          refine (with_any (.slice a1 n1 c1) (.slice a2 n2 c2) (.slice a3 n3 c3) x (E.take i) id t bd (100000 * i) w2 HIX1.out (HOK.out.asc.sublist (List.take_sublist _ _)) HI.out.ok hlow (by rw [List.length_take]; omega) HI.out.few (by omega) htl hbl).mono ?_
          rintro e w3 ⟨⟨iv', sv', tv', x', rfl, hix', hok', hlen'⟩, hb3⟩
          have hins := insE_next HOK.out.asc hiE
          rw [HEI.out] at hins
          have hok' : IxOk (E.take (i + 1)) x' := by rw [← hins]; exact hok'
          obtain ⟨⟨b1, d1, g1⟩, ⟨b2, d2, g2⟩, ⟨b3, d3, g3⟩⟩ := hix'.forms
          obtain ⟨k1, hk1⟩ : ∃ k1, k1 = x'.ids.length := ⟨_, rfl⟩
          obtain ⟨k2, hk2⟩ : ∃ k2, k2 = x'.sizes.length := ⟨_, rfl⟩
          obtain ⟨k3, hk3⟩ : ∃ k3, k3 = x'.terms.length := ⟨_, rfl⟩
          rw [← hk1] at g1
          rw [← hk2] at g2
          rw [← hk3] at g3
          subst g1 g2 g3
          have HIX3 := Lib.hid hix'
          have HOK3 := Lib.hid hok'
          have HLEN3 := Lib.hid hlen'
          have hxb3 := HXB1.out.below hb3 HXB1.out.lt
          have HXB3 := Lib.hid hxb3
          have HR3 := Lib.hid (HR1.out.below hb3 HR1.out.lt)
          have HB3 := Lib.hid (below_up HB1.out hb3 HB1.out.size)
          have y0 := hxb3.cell 0
          have y1 := hxb3.cell 1
          have y2 := hxb3.cell 2
          have z0 := hxb3.fz 0
          have z1 := hxb3.fz 1
          have z2 := hxb3.fz 2
          clear hk1 hk2 hk3 hix' hok' hlen' hxb3 hb3 hins hlow x0 x1 x2 m0 m1 m2
          go_wp2_with fail
          go_roundw
          case rel =>
            have hr0 := RowOther.of_has HXB3.out (by decide) (by decide) (by decide)
            have g0 := grownBy_set w3 Xb 0 (.slice b1 k1 d1)
            have h1 := HXB3.out.set 0 (.slice b1 k1 d1)
            have hr1 := RowOther.of_has h1 (by decide) (by decide) (by decide)
            have g1 := grownBy_set (w3.setCell ⟨Xb, 0, none⟩ (.slice b1 k1 d1)) Xb 1 (.slice b2 k2 d2)
            have h2 := h1.set 1 (.slice b2 k2 d2)
            have hr2 := RowOther.of_has h2 (by decide) (by decide) (by decide)
            have g2 := grownBy_set ((w3.setCell ⟨Xb, 0, none⟩ (.slice b1 k1 d1)).setCell ⟨Xb, 1, none⟩ (.slice b2 k2 d2)) Xb 2 (.slice b3 k3 d3)
            have h3 := h2.set 2 (.slice b3 k3 d3)
            exact ⟨i + 1, _, _, _, x', by go_num, by omega, ⟨((HR3.out.set_other 0 _ hRX).set_other 1 _ hRX).set_other 2 _ hRX, h3, ((HIX3.out.other hr0 g0).other hr1 g1).other hr2 g2, HOK3.out, by have := HLEN3.out; omega, ((HB3.out.setCell (p := ⟨Xb, 0, none⟩) hXlow _).setCell (p := ⟨Xb, 1, none⟩) hXlow _).setCell (p := ⟨Xb, 2, none⟩) hXlow _⟩⟩
          case measure => simp [intOf]; omega
        · obtain rfl : i = L.length := by omega
          obtain ⟨⟨a1, c1, f1⟩, ⟨a2, c2, f2⟩, ⟨a3, c3, f3⟩⟩ := HI.out.ix.forms
          generalize x.ids.length = n1 at *
          generalize x.sizes.length = n2 at *
          generalize hn3 : x.terms.length = n3 at *
          have HN3 := Lib.hid hn3
          subst f1 f2 f3
          clear hn3
          have x0 := HI.out.xb.cell 0
          have x1 := HI.out.xb.cell 1
          have x2 := HI.out.xb.cell 2
          have r0 := HI.out.rb.cell 0
          have r1 := HI.out.rb.cell 1
          have r2 := HI.out.rb.cell 2
          have s0 := HI.out.rb.fz 0
          have s1 := HI.out.rb.fz 1
          have s2 := HI.out.rb.fz 2
          have HRE := Lib.hid (((HI.out.rb.set 0 (.slice a1 n1 c1)).set 1 (.slice a2 n2 c2)).set 2 (.slice a3 n3 c3))
          go_wp2_with fail
          refine bodyPost_ret (results_cell_tmp_row rfl _ _ Rb _ _ (0, 0) _ rfl HRE.out Try.underlying29 rfl infoIx) rfl ?_
          rw [← HQ.out]
          have hr0 := RowOther.of_has HI.out.rb (by decide) (by decide) (by decide)
          have g0 := grownBy_set wr Rb 0 (.slice a1 n1 c1)
          have h1 := HI.out.rb.set 0 (.slice a1 n1 c1)
          have hr1 := RowOther.of_has h1 (by decide) (by decide) (by decide)
          have g1 := grownBy_set (wr.setCell ⟨Rb, 0, none⟩ (.slice a1 n1 c1)) Rb 1 (.slice a2 n2 c2)
          have h2 := h1.set 1 (.slice a2 n2 c2)
          have hr2 := RowOther.of_has h2 (by decide) (by decide) (by decide)
          have g2 := grownBy_set ((wr.setCell ⟨Rb, 0, none⟩ (.slice a1 n1 c1)).setCell ⟨Rb, 1, none⟩ (.slice a2 n2 c2)) Rb 2 (.slice a3 n3 c3)
          refine ⟨.inr ⟨HN0.out, _, _, _, x, rfl, ((HI.out.ix.other hr0 g0).other hr1 g1).other hr2 g2, ?_, ?_⟩, ((HI.out.below.setCell (p := ⟨Rb, 0, none⟩) hRlow _).setCell (p := ⟨Rb, 1, none⟩) hRlow _).setCell (p := ⟨Rb, 2, none⟩) hRlow _⟩
          · have := HI.out.ok
            rw [List.take_of_length_le (by omega)] at this
            exact this
          · have := HI.out.few
            omega
end Go.Proofs.Ytfjcbclakgidkaa
