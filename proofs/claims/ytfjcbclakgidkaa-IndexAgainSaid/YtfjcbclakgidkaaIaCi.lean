/- The walk of know.CheckIndex, of an index that is right. -/
import Derived.Test.YtfjcbclakgidkaaIaCt
namespace Go.Proofs.Ytfjcbclakgidkaa
open Go.RowKit

theorem bl_eq : ∀ (x y : List UInt8), Op.bytesLess x y = decide (x < y)
  | _, [] => by cases ‹List UInt8› <;> simp [Op.bytesLess]
  | [], _ :: _ => by simp [Op.bytesLess]
  | a :: x, b :: y => by
    rw [Op.bytesLess, bl_eq x y]
    simp only [List.cons_lt_cons_iff]
    by_cases h1 : a < b <;> by_cases h2 : a = b <;> by_cases h3 : x < y <;> simp [h1, h2, h3]
theorem leq_false {a b : List UInt8} (h : b < a) : (Op.bytesLess (bs a).toList (bs b).toList || (bs a).toList == (bs b).toList) = false := by
  rw [ByteArray.toList_eq, ByteArray.toList_eq, bs_data, bs_data, bl_eq]
  have h1 : ¬ a < b := fun g => lin_bytes.irr _ (List.lt_trans h g)
  have h2 : (a == b) = false := beq_eq_false_iff_ne.2 (fun e => by rw [e] at h; exact lin_bytes.irr _ h)
  rw [h2, Bool.or_false, decide_eq_false_iff_not]
  exact h1
theorem words_half : ∀ (n : Nat) (l : List UInt8), 2 * (wordsF n l).length ≤ l.length + 1
  | 0, l => by simp [wordsF]
  | n + 1, l => by
    unfold wordsF
    by_cases h : l = []
    · simp [h]
    · rw [if_neg h]
      have h1 := words_half n (l.drop ((l.takeWhile wordB).length + 1))
      have h2 : 0 < l.length := by cases l <;> simp_all
      rw [List.length_append]
      rw [List.length_drop] at h1
      split
      · rename_i g
        simp only [List.length_cons, List.length_nil]
        omega
      · simp only [List.length_nil]
        omega
theorem sz_small {v : EnD} (h : GoodE v) : 0 ≤ szF v ∧ szF v ≤ 20000 := by
  have h1 := words_half v.2.1.length v.2.1
  have h2 := words_half v.2.2.length v.2.2
  have h3 := h.2.2.1
  have h4 := h.2.2.2.1
  unfold szF words
  omega
set_option maxRecDepth 100000 in
set_option maxHeartbeats 8000000 in
theorem CheckIndex_ok (iv sv tv : Value) (x : IxD) (E : List EnD) (w : World) (h : IxAt w iv sv tv x) (hx : IxOk E x) (hE : OkE E) (hN : x.terms.length ≤ 100000000) :
    Calls Try.prog 19 #[.agg #[iv, sv, tv]] w fun e w' => e = .returned (.int .i64 0) ∧ Below w.heap.size w w' := by
  obtain ⟨⟨ia, ic, hie⟩, ⟨sa, sc, hse⟩, ⟨ta, tc, hte⟩⟩ := h.forms
  have hil : x.ids.length = E.length := by rw [hx.ids, List.length_map]
  have hsl : x.sizes.length = E.length := by rw [hx.sizes, List.length_map]
  rw [hil] at hie
  rw [hsl] at hse
  subst hie hse hte
  have hEl := hE.few
  have H := Lib.hid h
  have HX := Lib.hid hx
  have HE := Lib.hid hE
  have HIL := Lib.hid hil
  have HSL := Lib.hid hsl
  obtain ⟨Xb, hXb⟩ : ∃ Xb, Xb = w.heap.size := ⟨_, rfl⟩
  have k0 := Has.new w #[.slice ia E.length ic, .slice sa E.length sc, .slice ta x.terms.length tc] 29
  have b0 : Below w.heap.size w (w.alloc (.cells #[.slice ia E.length ic, .slice sa E.length sc, .slice ta x.terms.length tc] 29)) := (Below.refl _ _).alloc (Nat.le_refl _) _
  have h0 := h.below b0
  clear h hx hE hil hsl
  go_enter Try.func19, Try.ntmps19
  go_upto_region 1 with fail
  rw [← hXb] at k0 ⊢
  clear hXb
  generalize w.alloc (.cells #[.slice ia E.length ic, .slice sa E.length sc, .slice ta x.terms.length tc] 29) = w1 at *
  have x0 := k0.cell 0
  have x1 := k0.cell 1
  have x2 := k0.cell 2
  have HK := Lib.hid k0
  have HB := Lib.hid b0
  have H1 := Lib.hid h0
  have hB1 : w.heap.size ≤ w1.heap.size := b0.size
  have q1 : decide ((200 : Int) < (E.length : Int)) = false := decide_eq_false (by omega)
  have q1n : decide (200 < E.length) = false := decide_eq_false (by omega)
  clear k0 b0 h0
  go_wp2_with fail
  clear q1 q1n
  go_loopw [23] (fun qv wr => ∃ i : Nat, qv = .int .i64 ((i : Nat) : Int) ∧ i ≤ E.length ∧ wr = w1) (fun qv _ => E.length - (intOf qv).toNat)
  case atStart => exact ⟨0, rfl, Nat.zero_le _, rfl⟩
  case round =>
    obtain ⟨i, rfl, hi, hw⟩ := hrel
    obtain rfl : w1 = wr := hw.symm
    by_cases hlt : i < E.length
    · have hg := HE.out.good _ (List.getElem_mem hlt)
      have hzs := sz_small hg
      obtain ⟨z, hz⟩ : ∃ z, z = E[i].1 := ⟨_, rfl⟩
      obtain ⟨y, hy⟩ : ∃ y, y = szF E[i] := ⟨_, rfl⟩
      rw [← hy] at hzs
      have hz1 : 1 ≤ z ∧ z ≤ 3000000 := by rw [hz]; exact ⟨hg.1, hg.2.1⟩
      have hi1 : i < x.ids.length := by rw [HIL.out]; exact hlt
      have hi2 : i < x.sizes.length := by rw [HSL.out]; exact hlt
      obtain ⟨b1, o1, he1⟩ : ∃ b o, ia = some ⟨b, o, none⟩ := by
        obtain ⟨b, off, cap, hv, _⟩ := SliceAt.at H1.out.ids.1 (by omega)
        simp only [Value.slice.injEq] at hv
        exact ⟨b, off, hv.1⟩
      obtain ⟨b2, o2, he2⟩ : ∃ b o, sa = some ⟨b, o, none⟩ := by
        obtain ⟨b, off, cap, hv, _⟩ := SliceAt.at H1.out.sizes.1 (by omega)
        simp only [Value.slice.injEq] at hv
        exact ⟨b, off, hv.1⟩
      subst he1 he2
      have c1 := (IntsAt.cells (l := x.ids) (by rw [HIL.out]; exact H1.out.ids) (by omega)).2 i hi1
      have c2 := (IntsAt.cells (l := x.sizes) (by rw [HSL.out]; exact H1.out.sizes) (by omega)).2 i hi2
      have e1 : x.ids.getD i 0 = z := by rw [List.getD_eq_getElem?_getD, HX.out.ids, List.getElem?_map, List.getElem?_eq_getElem hlt, hz]; rfl
      have e2 : x.sizes.getD i 0 = y := by rw [List.getD_eq_getElem?_getD, HX.out.sizes, List.getElem?_map, List.getElem?_eq_getElem hlt, hy]; rfl
      rw [e1] at c1
      rw [e2] at c2
      have HZ := Lib.hid hz
      clear hg hz hy e1 e2
      by_cases h0 : i = 0
      · subst h0
        have c3 : w1.cell? ⟨b1, o1, none⟩ = some (.int .i64 z) := c1
        have c4 : w1.cell? ⟨b2, o2, none⟩ = some (.int .i64 y) := c2
        clear c1 c2
        go_wp2_with fail
        refine (within_any z 1 3000000 _).mono ?_
        rintro e w2 ⟨rfl, rfl⟩
        have q1 : (decide (1 ≤ z) && decide (z ≤ 3000000)) = true := by rw [Bool.and_eq_true, decide_eq_true_iff, decide_eq_true_iff]; omega
        rw [q1]
        go_wp2_with fail
        refine (within_any y 0 20000 _).mono ?_
        rintro e w2 ⟨rfl, rfl⟩
        have q2 : (decide (0 ≤ y) && decide (y ≤ 20000)) = true := by rw [Bool.and_eq_true, decide_eq_true_iff, decide_eq_true_iff]; omega
        rw [q2]
        go_wp2_with fail
        go_roundw
        case rel => exact ⟨0 + 1, by go_num, hlt, by trivial⟩
        case measure => simp [intOf]; omega
      · obtain ⟨m, rfl⟩ : ∃ m, i = m + 1 := ⟨i - 1, by omega⟩
        have hm : m < E.length := by omega
        have c3 := (IntsAt.cells (l := x.ids) (by rw [HIL.out]; exact H1.out.ids) (by omega)).2 m (by rw [HIL.out]; exact hm)
        obtain ⟨u, hu⟩ : ∃ u, u = E[m].1 := ⟨_, rfl⟩
        have e3 : x.ids.getD m 0 = u := by rw [List.getD_eq_getElem?_getD, HX.out.ids, List.getElem?_map, List.getElem?_eq_getElem hm, hu]; rfl
        rw [e3] at c3
        have hlt2 : u < z := by
          rw [hu, HZ.out]
          exact List.pairwise_iff_getElem.1 HE.out.asc m (m + 1) hm hlt (by omega)
        have q3 : decide (z ≤ u) = false := decide_eq_false (by omega)
        have q4 : decide ((0 : Int) < ((m + 1 : Nat) : Int)) = true := decide_eq_true (by omega)
        have q5 : IntKind.i64.wrap (((m + 1 : Nat) : Int) - 1) = (m : Int) := by rw [IntWalk.i64_in _ (by omega)]; omega
        clear hu e3 hlt2
        go_wp2_with fail
        refine (within_any z 1 3000000 _).mono ?_
        rintro e w2 ⟨rfl, rfl⟩
        have q1 : (decide (1 ≤ z) && decide (z ≤ 3000000)) = true := by rw [Bool.and_eq_true, decide_eq_true_iff, decide_eq_true_iff]; omega
        rw [q1]
        go_wp2_with fail
        refine (within_any y 0 20000 _).mono ?_
        rintro e w2 ⟨rfl, rfl⟩
        have q2 : (decide (0 ≤ y) && decide (y ≤ 20000)) = true := by rw [Bool.and_eq_true, decide_eq_true_iff, decide_eq_true_iff]; omega
        rw [q2]
        go_wp2_with fail
        go_roundw
        case rel => exact ⟨m + 1 + 1, by go_num, hlt, by trivial⟩
        case measure => simp [intOf]; omega
    · obtain rfl : i = E.length := by omega
      go_wp2_with fail
      go_loopw [57] (fun qv wr => ∃ i : Nat, qv = .int .i64 ((i : Nat) : Int) ∧ i ≤ x.terms.length ∧ Below w1.heap.size w1 wr) (fun qv _ => x.terms.length - (intOf qv).toNat)
      case atStart => exact ⟨0, rfl, Nat.zero_le _, Below.refl _ _⟩
      case round =>
        obtain ⟨i, rfl, hi, hbr⟩ := hrel
        have HBR := Lib.hid hbr
        clear hbr
        by_cases hlt : i < x.terms.length
        · obtain ⟨bt, ot, ct, htv, _, hbt0, hel⟩ := TmL.at H1.out.terms (by omega)
          simp only [Value.slice.injEq] at htv
          obtain ⟨rfl, _, rfl⟩ := htv
          obtain ⟨lx, e0, e1, hlx⟩ := hel i hlt
          obtain ⟨t, ht⟩ : ∃ t, t = x.terms[i] := ⟨_, rfl⟩
          rw [← ht] at e0 hlx
          have htg := HX.out.good HE.out (t := t) (by rw [ht]; exact List.getElem_mem _)
          obtain ⟨la, lc, hle⟩ := PoL.len hlx
          have hpos : 0 < t.2.length := List.length_pos_iff.2 htg.ne
          obtain ⟨n, hn⟩ : ∃ n, n = t.2.length := ⟨_, rfl⟩
          rw [← hn] at hle hpos
          subst hle
          have c0 := (below_cell HBR.out hbt0).trans e0
          have c1 := (below_cell HBR.out hbt0).trans e1
          have hbn : Below wr.heap.size wr (wr.alloc (.cells #[.string (bs t.1), .slice la n lc] 54)) := (Below.refl _ _).alloc (Nat.le_refl _) _
          have hbx := Has.new wr #[.string (bs t.1), .slice la n lc] 54
          have hb5 : Below w1.heap.size w1 (wr.alloc (.cells #[.string (bs t.1), .slice la n lc] 54)) := HBR.out.trans (hbn.mono HBR.out.size)
          have HB5 := Lib.hid hb5
          have HBX := Lib.hid hbx
          have HLX := Lib.hid hlx
          have HTG := Lib.hid htg
          have HT := Lib.hid ht
          have h30 : (bs t.1).size ≤ 1048576 := by rw [bs_size]; have := htg.word.2.2; omega
          have x2' : (wr.alloc (.cells #[.string (bs t.1), .slice la n lc] 54)).cell? ⟨Xb, 2, none⟩ = some (.slice (some ⟨bt, ot, none⟩) x.terms.length tc) := (below_cell hb5 HK.out.lt).trans (HK.out.cell 2)
          have hb5t := hb5
          clear hbn hbx hlx htg hn ht e0 e1
          go_upto_region 18 with fail
          obtain ⟨Tb, hTb⟩ : ∃ Tb, Tb = wr.heap.size := ⟨_, rfl⟩
          rw [← hTb] at HBX ⊢
          clear hTb c0 c1
          generalize wr.alloc (.cells #[.string (bs t.1), .slice la n lc] 54) = w5 at *
          have t0 := HBX.out.cell 0
          have t1 := HBX.out.cell 1
          have hTl := HBX.out.lt
          have hXl : Xb < w5.heap.size := Nat.lt_of_lt_of_le HK.out.lt hb5t.size
          clear hb5t
          go_wp2_with fail
          refine (Words_any (bs t.1) w5 h30).mono ?_
          rintro e w6 ⟨wa, wc2, rfl, how, hb6⟩
          have hwd : wordsS (bs t.1) = [t.1] := by
            unfold wordsS
            rw [bs_data]
            exact words_one HTG.out.word
          rw [hwd] at how ⊢
          obtain ⟨gw, hgw⟩ : ∃ gw, wa = some ⟨gw, 0, none⟩ := by
            rcases how.2 with ⟨q, _⟩ | ⟨g, cap, cur, q, _⟩
            · simp only [Value.slice.injEq] at q
              exact absurd q.2.1 (by simp)
            · simp only [Value.slice.injEq] at q
              exact ⟨g, q.1⟩
          subst hgw
          have w0c : w6.cell? ⟨gw, 0, none⟩ = some (.string (bs t.1)) := by
            have h1 := how.cells (g := gw) rfl 0 (strV t.1) rfl
            exact h1
          replace t0 := (below_cell hb6 hTl).trans t0
          replace t1 := (below_cell hb6 hTl).trans t1
          replace x2' := (below_cell hb6 hXl).trans x2'
          have x06 : w6.cell? ⟨Xb, 0, none⟩ = some (.slice ia E.length ic) := (below_cell hb6 hXl).trans ((below_cell HB5.out HK.out.lt).trans (HK.out.cell 0))
          have x16 : w6.cell? ⟨Xb, 1, none⟩ = some (.slice sa E.length sc) := (below_cell hb6 hXl).trans ((below_cell HB5.out HK.out.lt).trans (HK.out.cell 1))
          have HB6 := Lib.hid (below_up HB5.out hb6 HB5.out.size)
          have hTl6 : Tb < w6.heap.size := Nat.lt_of_lt_of_le hTl hb6.size
          have hXl6 : Xb < w6.heap.size := Nat.lt_of_lt_of_le hXl hb6.size
          have qn : ((n : Int) == 0) = false := beq_eq_false_iff_ne.2 (by omega)
          clear hb6 how hwd h30
          go_upto_region 19 with fail
          go_cut [81] from 65 to 81 (fun v wx => v = .bool false ∧ ∃ q, wx = w6.drewN q)
          case first =>
            go_quiet (fail)
            go_wp2_with fail
            go_meet
            exact ⟨rfl, _, rfl⟩
          case rest =>
            obtain ⟨rfl, q, rfl⟩ := hcut
            have hb7 : Below w6.heap.size w6 (w6.drewN q) := drewN_below (Below.refl _ _) q
            have HB7 := Lib.hid (below_up HB6.out hb7 HB6.out.size)
            have t07 : (w6.drewN q).cell? ⟨Tb, 0, none⟩ = some (.string (bs t.1)) := (below_cell hb7 hTl6).trans t0
            have t17 : (w6.drewN q).cell? ⟨Tb, 1, none⟩ = some (.slice la n lc) := (below_cell hb7 hTl6).trans t1
            have x27 : (w6.drewN q).cell? ⟨Xb, 2, none⟩ = some (.slice (some ⟨bt, ot, none⟩) x.terms.length tc) := (below_cell hb7 hXl6).trans x2'
            have x07 : (w6.drewN q).cell? ⟨Xb, 0, none⟩ = some (.slice ia E.length ic) := (below_cell hb7 hXl6).trans x06
            have x17 : (w6.drewN q).cell? ⟨Xb, 1, none⟩ = some (.slice sa E.length sc) := (below_cell hb7 hXl6).trans x16
            have hTl7 : Tb < (w6.drewN q).heap.size := Nat.lt_of_lt_of_le hTl6 hb7.size
            have hXl7 : Xb < (w6.drewN q).heap.size := Nat.lt_of_lt_of_le hXl6 hb7.size
            clear t0 t1 x2' x06 x16 hb7 w0c hTl6 hXl6 qn
            generalize w6.drewN q = w7 at *
            go_upto_region 21 with fail
            go_cut [95] from 82 to 95 (fun v wx => v = .bool false ∧ ∃ q, wx = w7.drewN q)
            case first =>
              by_cases h0 : i = 0
              · subst h0
                go_quiet (fail)
                go_wp2_with fail
                go_meet
                exact ⟨rfl, _, rfl⟩
              · obtain ⟨m, hm⟩ : ∃ m, i = m + 1 := ⟨i - 1, by omega⟩
                have hm2 : m < x.terms.length := by omega
                obtain ⟨ly, e0, -, -⟩ := hel m hm2
                have c0 := (below_cell HB7.out hbt0).trans e0
                obtain ⟨u, hu⟩ : ∃ u, u = x.terms[m].1 := ⟨_, rfl⟩
                rw [← hu] at c0
                have hut : u < t.1 := by
                  rw [hu, HT.out]
                  exact asc_get HX.out.asc hm2 hlt (by omega)
                have hleq := leq_false hut
                have q4 : decide ((0 : Int) < (i : Int)) = true := decide_eq_true (by omega)
                have q4n : decide (0 < i) = true := decide_eq_true (by omega)
                have q5 : IntKind.i64.wrap ((i : Int) - 1) = (m : Int) := by rw [IntWalk.i64_in _ (by omega)]; omega
                clear hm hu hut e0 h0
                go_quiet (fail)
                go_wp2_with fail
                go_meet
                exact ⟨rfl, _, rfl⟩
            case rest =>
              obtain ⟨rfl, q, rfl⟩ := hcut
              have hb8 : Below w7.heap.size w7 (w7.drewN q) := drewN_below (Below.refl _ _) q
              have hb8a := below_up HB7.out hb8 HB7.out.size
              have HB8 := Lib.hid hb8a
              have t08 : (w7.drewN q).cell? ⟨Tb, 0, none⟩ = some (.string (bs t.1)) := (below_cell hb8 hTl7).trans t07
              have t18 : (w7.drewN q).cell? ⟨Tb, 1, none⟩ = some (.slice la n lc) := (below_cell hb8 hTl7).trans t17
              have x28 : (w7.drewN q).cell? ⟨Xb, 2, none⟩ = some (.slice (some ⟨bt, ot, none⟩) x.terms.length tc) := (below_cell hb8 hXl7).trans x27
              have x08 : (w7.drewN q).cell? ⟨Xb, 0, none⟩ = some (.slice ia E.length ic) := (below_cell hb8 hXl7).trans x07
              have x18 : (w7.drewN q).cell? ⟨Xb, 1, none⟩ = some (.slice sa E.length sc) := (below_cell hb8 hXl7).trans x17
              have HCT := Lib.hid (checkTerm_ok (.slice ia E.length ic) (.slice sa E.length sc) (.slice (some ⟨bt, ot, none⟩) x.terms.length tc) x E t (.slice la n lc) (w7.drewN q) (H1.out.ids.below hb8a) (H1.out.sizes.below hb8a) HX.out.ids HX.out.sizes (HLX.out.below hb8a) HTG.out HE.out)
              clear t07 t17 x27 x07 x17 hb8 hb8a hel hbt0 hTl7 hXl7
              generalize w7.drewN q = w8 at *
              go_wp2_with fail
              refine HCT.out.mono ?_
              rintro e w9 ⟨rfl, hb9⟩
              have HB9 := Lib.hid (below_up HB8.out hb9 HB8.out.size)
              clear hb9 t08 t18 x28 x08 x18
              go_wp2_with fail
              go_roundw
              case rel => exact ⟨i + 1, by go_num, hlt, HB9.out⟩
              case measure => simp [intOf]; omega
        · obtain rfl : i = x.terms.length := by omega
          go_wp2_with fail
          go_ret
          exact ⟨rfl, HB.out.trans (HBR.out.mono hB1)⟩
end Go.Proofs.Ytfjcbclakgidkaa
