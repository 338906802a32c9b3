/- The walks of know.Put and know.Drop, at right indexes. -/
import Derived.Test.YtfjcbclakgidkaaIaCi
namespace Go.Proofs.Ytfjcbclakgidkaa
open Go.RowKit

theorem pos_small {E : List EnD} {x : IxD} (hx : IxOk E x) (hE : OkE E) : ∀ t ∈ x.terms, ∀ p ∈ t.2, p.2.1.length ≤ 1000000 ∧ p.2.2.length ≤ 1000000 := fun t ht p hp => by
  have h1 := ((hx.good hE ht).po p hp).few
  omega
theorem OkE.out {E : List EnD} (h : OkE E) (id : Int) : OkE (outE id E) :=
  ⟨Nat.le_trans (List.length_filter_le _ _) h.few, outE_asc h.asc id, fun v hv => h.good v (List.mem_filter.1 hv).1⟩
def PutPost (w : World) (E : List EnD) (v : EnD) (e : Ending) (w' : World) : Prop :=
  ((∃ c : Int, c ≠ 0 ∧ e = .returned (.tuple #[.agg #[.slice none 0 0, .slice none 0 0, .slice none 0 0], .int .i64 c])) ∨
    (GoodE v ∧ (insE v E).length ≤ 200 ∧ ∃ iv sv tv x, e = .returned (.tuple #[.agg #[iv, sv, tv], .int .i64 0]) ∧ IxAt w' iv sv tv x ∧ IxOk (insE v E) x ∧ x.terms.length ≤ 40000000)) ∧ Below w.heap.size w w'
set_option maxRecDepth 100000 in
set_option maxHeartbeats 16000000 in
theorem Put_any (iv sv tv : Value) (x : IxD) (E : List EnD) (id : Int) (t b : ByteArray) (w : World) (h : IxAt w iv sv tv x) (hx : IxOk E x) (hE : OkE E) (hN : x.terms.length ≤ 30000000) :
    Calls Try.prog 6 #[.agg #[iv, sv, tv], .agg #[.int .i64 id, .string t, .string b]] w (PutPost w E (id, t.data.toList, b.data.toList)) := by
  obtain ⟨⟨ia, ic, hie⟩, ⟨sa, sc, hse⟩, ⟨ta, tc, hte⟩⟩ := h.forms
  obtain ⟨inn, hinn⟩ : ∃ n, n = x.ids.length := ⟨_, rfl⟩
  obtain ⟨sn, hsn⟩ : ∃ n, n = x.sizes.length := ⟨_, rfl⟩
  obtain ⟨tn, htn⟩ : ∃ n, n = x.terms.length := ⟨_, rfl⟩
  rw [← hinn] at hie
  rw [← hsn] at hse
  rw [← htn] at hte
  subst hie hse hte
  obtain ⟨v, hv⟩ : ∃ v : EnD, v = (id, t.data.toList, b.data.toList) := ⟨_, rfl⟩
  rw [← hv]
  obtain ⟨z, hz⟩ : ∃ z, z = entE (id, t.data.toList, b.data.toList) 0 := ⟨_, rfl⟩
  have HZ := Lib.hid hz
  generalize hQ : PutPost w E v = Q
  have HQ := Lib.hid hQ
  have HV := Lib.hid hv
  have HX := Lib.hid hx
  have HE := Lib.hid hE
  have HN := Lib.hid hN
  have HPO := Lib.hid (pos_small hx hE)
  have HNO := Lib.hid (show ∀ u ∈ outE id E, u.1 ≠ id from fun u hu => by simpa [outE] using (List.mem_filter.1 hu).2)
  have HOL := Lib.hid (show (outE id E).length ≤ 200 from (hE.out id).few)
  have HVI := Lib.hid (show insE (id, t.data.toList, b.data.toList) (outE id E) = insE v E by rw [hv]; exact insE_out (id, t.data.toList, b.data.toList) E)
  obtain ⟨Xb, hXb⟩ : ∃ Xb, Xb = w.heap.size := ⟨_, rfl⟩
  have k0 := Has.new w #[.slice ia inn ic, .slice sa sn sc, .slice ta tn tc] 29
  have b0 : Below w.heap.size w (w.alloc (.cells #[.slice ia inn ic, .slice sa sn sc, .slice ta tn tc] 29)) := (Below.refl _ _).alloc (Nat.le_refl _) _
  have s0 : (w.alloc (.cells #[.slice ia inn ic, .slice sa sn sc, .slice ta tn tc] 29)).heap.size = w.heap.size + 1 := World.size_alloc _ _
  clear hQ hv hz hx hE hN hinn hsn htn
  go_enter Try.func6, Try.ntmps6
  go_upto_region 1 with fail
  generalize w.alloc (.cells #[.slice ia inn ic, .slice sa sn sc, .slice ta tn tc] 29) = w1 at *
  have k1 := Has.new w1 #[.int .i64 id, .string t, .string b] 24
  have b1 := b0.alloc b0.size (.cells #[.int .i64 id, .string t, .string b] 24)
  have s1 : (w1.alloc (.cells #[.int .i64 id, .string t, .string b] 24)).heap.size = w1.heap.size + 1 := World.size_alloc _ _
  have m1 := k0.alloc (.cells #[.int .i64 id, .string t, .string b] 24)
  generalize w1.alloc (.cells #[.int .i64 id, .string t, .string b] 24) = w2 at *
  rw [s0] at k1 s1
  have k2 := Has.new w2 #[.slice none 0 0, .slice none 0 0, .slice none 0 0] 29
  have b2 := b1.alloc b1.size (.cells #[.slice none 0 0, .slice none 0 0, .slice none 0 0] 29)
  have m2 := m1.alloc (.cells #[.slice none 0 0, .slice none 0 0, .slice none 0 0] 29)
  have n2 := k1.alloc (.cells #[.slice none 0 0, .slice none 0 0, .slice none 0 0] 29)
  generalize w2.alloc (.cells #[.slice none 0 0, .slice none 0 0, .slice none 0 0] 29) = w3 at *
  rw [s1] at k2
  obtain ⟨Rb, hRb⟩ : ∃ Rb, Rb = w.heap.size + 1 + 1 := ⟨_, rfl⟩
  rw [← hRb] at k2 ⊢
  obtain ⟨Vb, hVb⟩ : ∃ Vb, Vb = w.heap.size + 1 := ⟨_, rfl⟩
  rw [← hVb] at n2 ⊢
  rw [← hXb] at m2 ⊢
  have hRlow : w.heap.size ≤ Rb := by omega
  clear hVb hXb hRb k0 b0 s0 k1 b1 s1 m1
  have HIX := Lib.hid (h.below b2)
  have x0 := m2.cell 0
  have x1 := m2.cell 1
  have x2 := m2.cell 2
  have v0 := n2.cell 0
  have v1 := n2.cell 1
  have v2 := n2.cell 2
  have hXl := m2.lt
  have hVl := n2.lt
  have HRB := Lib.hid k2
  have HB2 := Lib.hid b2
  have HM2 := Lib.hid m2
  have HN2 := Lib.hid n2
  have hB3 : w.heap.size ≤ w3.heap.size := b2.size
  clear h m2 n2 k2 b2
  go_cut [6] from 8 to 13 (fun v wx => v = .int .i64 z ∧ Below w3.heap.size w3 wx)
  case first =>
    refine anyT_start (S := fun W : World => W.cell? ⟨Xb, 0, none⟩ = some (.slice ia inn ic) ∧ W.cell? ⟨Xb, 1, none⟩ = some (.slice sa sn sc) ∧ W.cell? ⟨Xb, 2, none⟩ = some (.slice ta tn tc) ∧ W.cell? ⟨Vb, 0, none⟩ = some (.int .i64 id) ∧ W.cell? ⟨Vb, 1, none⟩ = some (.string t) ∧ W.cell? ⟨Vb, 2, none⟩ = some (.string b)) (t := 9) (by kernel_rfl) ?_
    have hall0 := (Below.refl w3.heap.size w3).drew
    have hS0 : w3.drew.cell? ⟨Xb, 0, none⟩ = some (.slice ia inn ic) ∧ w3.drew.cell? ⟨Xb, 1, none⟩ = some (.slice sa sn sc) ∧ w3.drew.cell? ⟨Xb, 2, none⟩ = some (.slice ta tn tc) ∧ w3.drew.cell? ⟨Vb, 0, none⟩ = some (.int .i64 id) ∧ w3.drew.cell? ⟨Vb, 1, none⟩ = some (.string t) ∧ w3.drew.cell? ⟨Vb, 2, none⟩ = some (.string b) := ⟨x0, x1, x2, v0, v1, v2⟩
    generalize w3.drew = wd at *
    refine takeS (i := 0) (v := ?_) rfl rfl (by kernel_rfl) (by kernel_rfl) (by kernel_rfl) (fun _ _ _ h => h) (by decide) (by kernel_rfl) ?_ hS0 ?_
    rotate_left
    · intro w hSw; (try dsimp only at hSw); go_simp; (try with_reducible rfl)
    simp only [List.setIfInBounds_toArray, List.set_cons_zero, List.set_cons_succ]
    refine takeS (i := 2) (v := ?_) rfl rfl (by kernel_rfl) (by kernel_rfl) (by kernel_rfl) (fun _ _ _ h => h) (by decide) (by kernel_rfl) ?_ hS0 ?_
    rotate_left
    · intro w hSw; (try dsimp only at hSw); go_simp; (try with_reducible rfl)
    simp only [List.setIfInBounds_toArray, List.set_cons_zero, List.set_cons_succ]
    refine oneT (i := 1) rfl (by kernel_rfl) (fun K hK => ?_)
    go_simp
    refine (CheckIndex_ok (.slice ia inn ic) (.slice sa sn sc) (.slice ta tn tc) x E wd (HIX.out.below hall0) HX.out HE.out (by have := HN.out; omega)).mono ?_
    rintro e wa ⟨rfl, hba⟩
    have hall1 := below_up hall0 hba hall0.size
    have hS1 : wa.cell? ⟨Xb, 0, none⟩ = some (.slice ia inn ic) ∧ wa.cell? ⟨Xb, 1, none⟩ = some (.slice sa sn sc) ∧ wa.cell? ⟨Xb, 2, none⟩ = some (.slice ta tn tc) ∧ wa.cell? ⟨Vb, 0, none⟩ = some (.int .i64 id) ∧ wa.cell? ⟨Vb, 1, none⟩ = some (.string t) ∧ wa.cell? ⟨Vb, 2, none⟩ = some (.string b) := ⟨(below_cell hall1 hXl).trans x0, (below_cell hall1 hXl).trans x1, (below_cell hall1 hXl).trans x2, (below_cell hall1 hVl).trans v0, (below_cell hall1 hVl).trans v1, (below_cell hall1 hVl).trans v2⟩
    refine hK.out _ _ (fun _ => hS1) ?_
    clear hK
    try simp only [List.setIfInBounds_toArray, List.set_cons_zero, List.set_cons_succ, Act.put]
    refine oneT (i := 3) rfl (by kernel_rfl) (fun K hK => ?_)
    go_simp
    refine (checkEntry_any id t b 0 wa).mono ?_
    rintro e wb ⟨rfl, hbb⟩
    rw [← HZ.out]
    have hall2 := below_up hall1 hbb hall1.size
    have hS2 : wb.cell? ⟨Xb, 0, none⟩ = some (.slice ia inn ic) ∧ wb.cell? ⟨Xb, 1, none⟩ = some (.slice sa sn sc) ∧ wb.cell? ⟨Xb, 2, none⟩ = some (.slice ta tn tc) ∧ wb.cell? ⟨Vb, 0, none⟩ = some (.int .i64 id) ∧ wb.cell? ⟨Vb, 1, none⟩ = some (.string t) ∧ wb.cell? ⟨Vb, 2, none⟩ = some (.string b) := ⟨(below_cell hall2 hXl).trans x0, (below_cell hall2 hXl).trans x1, (below_cell hall2 hXl).trans x2, (below_cell hall2 hVl).trans v0, (below_cell hall2 hVl).trans v1, (below_cell hall2 hVl).trans v2⟩
    refine hK.out _ _ (fun _ => hS2) ?_
    clear hK
    try simp only [List.setIfInBounds_toArray, List.set_cons_zero, List.set_cons_succ, Act.put]
    refine oneT (i := 4) rfl (by kernel_rfl) (fun K hK => ?_)
    go_simp
    have hbn : Below wb.heap.size wb (wb.alloc (.cells #[.int .i64 0, .int .i64 z] 30)) := (Below.refl _ _).alloc (Nat.le_refl _) _
    have hints := ints2_at wb 0 z 30
    have hall3 := below_up hall2 hbn hall2.size
    have hS3 : (wb.alloc (.cells #[.int .i64 0, .int .i64 z] 30)).cell? ⟨Xb, 0, none⟩ = some (.slice ia inn ic) ∧ (wb.alloc (.cells #[.int .i64 0, .int .i64 z] 30)).cell? ⟨Xb, 1, none⟩ = some (.slice sa sn sc) ∧ (wb.alloc (.cells #[.int .i64 0, .int .i64 z] 30)).cell? ⟨Xb, 2, none⟩ = some (.slice ta tn tc) ∧ (wb.alloc (.cells #[.int .i64 0, .int .i64 z] 30)).cell? ⟨Vb, 0, none⟩ = some (.int .i64 id) ∧ (wb.alloc (.cells #[.int .i64 0, .int .i64 z] 30)).cell? ⟨Vb, 1, none⟩ = some (.string t) ∧ (wb.alloc (.cells #[.int .i64 0, .int .i64 z] 30)).cell? ⟨Vb, 2, none⟩ = some (.string b) := ⟨(below_cell hall3 hXl).trans x0, (below_cell hall3 hXl).trans x1, (below_cell hall3 hXl).trans x2, (below_cell hall3 hVl).trans v0, (below_cell hall3 hVl).trans v1, (below_cell hall3 hVl).trans v2⟩
    have HALL := Lib.hid hall3
    refine hK.out _ _ (fun _ => hS3) ?_
    clear hK hall0 hall1 hall2 hba hbb hbn hall3
    try simp only [List.setIfInBounds_toArray, List.set_cons_zero, List.set_cons_succ, Act.put]
    refine oneT (i := 5) rfl (by kernel_rfl) (fun K hK => ?_)
    go_simp
    refine (or_any _ [0, z] _ hints (by simp)).mono ?_
    rintro e wc2 ⟨rfl, rfl⟩
    refine hK.out _ _ (fun _ => hS3) ?_
    clear hK
    rw [orI2, if_pos rfl]
    try simp only [List.setIfInBounds_toArray, List.set_cons_zero, List.set_cons_succ, Act.put]
    refine oneT (i := 6) rfl (by kernel_rfl) (fun K hK => ?_)
    go_simp
    refine hK.out _ _ (fun _ => hS3) ?_
    clear hK
    try simp only [List.setIfInBounds_toArray, List.set_cons_zero, List.set_cons_succ, Act.put]
    refine doneT (by kernel_rfl) ?_ _
    go_wp2_with fail
    go_meet
    exact ⟨rfl, HALL.out⟩
  case rest =>
    obtain ⟨rfl, hbc⟩ := hcut
    have HBC := Lib.hid (HB2.out.trans (hbc.mono hB3))
    have hrb := HRB.out.below hbc HRB.out.lt
    have hBc : w.heap.size ≤ wc.heap.size := HBC.out.size
    by_cases hz0 : z = 0
    · have hent : entE v 0 = 0 := by rw [HV.out, ← HZ.out]; exact hz0
      obtain ⟨g1, g2, g3, g4, g5, g6⟩ := entE_zero hent
      have HGOOD := Lib.hid (show GoodE v from ⟨g1, g2, g4, g5, g6⟩)
      have htl : t.size ≤ 50000 := by
        rw [HV.out] at g4
        have h2 : t.data.toList.length = t.size := by simp
        have g4 : t.data.toList.length ≤ 200 := g4
        omega
      have hbl : b.size ≤ 50000 := by
        rw [HV.out] at g5
        have h2 : b.data.toList.length = b.size := by simp
        have g5 : b.data.toList.length ≤ 20000 := g5
        omega
      have hXl2 := Nat.lt_of_lt_of_le hXl hbc.size
      have hVl2 := Nat.lt_of_lt_of_le hVl hbc.size
      have hix2 := HIX.out.below hbc
      replace x0 := (below_cell hbc hXl).trans x0
      replace x1 := (below_cell hbc hXl).trans x1
      replace x2 := (below_cell hbc hXl).trans x2
      replace v0 := (below_cell hbc hVl).trans v0
      replace v1 := (below_cell hbc hVl).trans v1
      replace v2 := (below_cell hbc hVl).trans v2
      clear HIX hXl hVl
      have hXl := hXl2
      have hVl := hVl2
      have HIX := Lib.hid hix2
      have HRB2 := Lib.hid hrb
      clear hix2 hrb hbc g1 g2 g3 g4 g5 g6 hent hXl2 hVl2
      subst hz0
      generalize wc = w0 at *
      go_upto_region 4 with fail
      go_cut [7] from 18 to 23 (fun v wx => ∃ Ob b1 k1 d1 b2 k2 d2 b3 k3 d3 xr, v = .pointer (some ⟨Ob, 0, none⟩) ∧ Has wx Ob #[.slice b1 k1 d1, .slice b2 k2 d2, .slice b3 k3 d3] 29 ∧ w0.heap.size ≤ Ob ∧ IxAt wx (.slice b1 k1 d1) (.slice b2 k2 d2) (.slice b3 k3 d3) xr ∧ IxOk (insE (id, t.data.toList, b.data.toList) (outE id E)) xr ∧ xr.terms.length ≤ 40000000 ∧ k1 = xr.ids.length ∧ Below w0.heap.size w0 wx)
      case first =>
        refine anyT_start (S := fun W : World => W.cell? ⟨Xb, 0, none⟩ = some (.slice ia inn ic) ∧ W.cell? ⟨Xb, 1, none⟩ = some (.slice sa sn sc) ∧ W.cell? ⟨Xb, 2, none⟩ = some (.slice ta tn tc) ∧ W.cell? ⟨Vb, 0, none⟩ = some (.int .i64 id) ∧ W.cell? ⟨Vb, 1, none⟩ = some (.string t) ∧ W.cell? ⟨Vb, 2, none⟩ = some (.string b)) (t := 7) (by kernel_rfl) ?_
        have hall0 := (Below.refl w0.heap.size w0).drew
        have hS0 : w0.drew.cell? ⟨Xb, 0, none⟩ = some (.slice ia inn ic) ∧ w0.drew.cell? ⟨Xb, 1, none⟩ = some (.slice sa sn sc) ∧ w0.drew.cell? ⟨Xb, 2, none⟩ = some (.slice ta tn tc) ∧ w0.drew.cell? ⟨Vb, 0, none⟩ = some (.int .i64 id) ∧ w0.drew.cell? ⟨Vb, 1, none⟩ = some (.string t) ∧ w0.drew.cell? ⟨Vb, 2, none⟩ = some (.string b) := ⟨x0, x1, x2, v0, v1, v2⟩
        generalize w0.drew = wd at *
        refine takeT (i := 0) (v := ?_) rfl rfl (by kernel_rfl) (by kernel_rfl) (by kernel_rfl) (fun _ _ _ h => h) (by decide) (by kernel_rfl) (by kernel_rfl) ?_ hS0 ?_
        rotate_left
        · intro w hSw; (try dsimp only at hSw); go_simp; (try with_reducible rfl)
        simp only [List.setIfInBounds_toArray, List.set_cons_zero, List.set_cons_succ]
        refine takeT (i := 1) (v := ?_) rfl rfl (by kernel_rfl) (by kernel_rfl) (by kernel_rfl) (fun _ _ _ h => h) (by decide) (by kernel_rfl) (by kernel_rfl) ?_ hS0 ?_
        rotate_left
        · intro w hSw; (try dsimp only at hSw); go_simp; (try with_reducible rfl)
        simp only [List.setIfInBounds_toArray, List.set_cons_zero, List.set_cons_succ]
        refine takeT (i := 2) (v := ?_) rfl rfl (by kernel_rfl) (by kernel_rfl) (by kernel_rfl) (fun _ _ _ h => h) (by decide) (by kernel_rfl) (by kernel_rfl) ?_ hS0 ?_
        rotate_left
        · intro w hSw; (try dsimp only at hSw); go_simp; (try with_reducible rfl)
        simp only [List.setIfInBounds_toArray, List.set_cons_zero, List.set_cons_succ]
        refine takeT (i := 4) (v := ?_) rfl rfl (by kernel_rfl) (by kernel_rfl) (by kernel_rfl) (fun _ _ _ h => h) (by decide) (by kernel_rfl) (by kernel_rfl) ?_ hS0 ?_
        rotate_left
        · intro w hSw; (try dsimp only at hSw); go_simp; (try with_reducible rfl)
        simp only [List.setIfInBounds_toArray, List.set_cons_zero, List.set_cons_succ]
        refine twoT (i := 3) (j := 6) rfl rfl (by kernel_rfl) (fun K hK => ?_) (fun K hK => ?_)
        · skip
          go_simp
          refine (without_any (.slice ia inn ic) (.slice sa sn sc) (.slice ta tn tc) x E id wd (HIX.out.below hall0) HE.out.asc HX.out (by have := HE.out.few; omega) (by have := HN.out; omega) HPO.out).mono ?_
          rintro e wp1 ⟨⟨iv2, sv2, tv2, xq, rfl, hix2, hok2, hlen2⟩, hbp1⟩
          have hall1 := below_up hall0 hbp1 hall0.size
          have hS1 : wp1.cell? ⟨Xb, 0, none⟩ = some (.slice ia inn ic) ∧ wp1.cell? ⟨Xb, 1, none⟩ = some (.slice sa sn sc) ∧ wp1.cell? ⟨Xb, 2, none⟩ = some (.slice ta tn tc) ∧ wp1.cell? ⟨Vb, 0, none⟩ = some (.int .i64 id) ∧ wp1.cell? ⟨Vb, 1, none⟩ = some (.string t) ∧ wp1.cell? ⟨Vb, 2, none⟩ = some (.string b) := ⟨(below_cell hall1 hXl).trans x0, (below_cell hall1 hXl).trans x1, (below_cell hall1 hXl).trans x2, (below_cell hall1 hVl).trans v0, (below_cell hall1 hVl).trans v1, (below_cell hall1 hVl).trans v2⟩
          refine hK.out _ _ (fun _ => hS1) ?_
          clear hK
          try simp only [List.setIfInBounds_toArray, List.set_cons_zero, List.set_cons_succ, Act.put]
          refine twoT (i := 5) (j := 6) rfl rfl (by kernel_rfl) (fun K hK => ?_) (fun K hK => ?_)
          · skip
            go_simp
            refine (with_any iv2 sv2 tv2 xq (outE id E) id t b 30000000 wp1 hix2 (outE_asc HE.out.asc id) hok2 HNO.out (by have := HOL.out; omega) (by have := HN.out; omega) (by omega) htl hbl).mono ?_
            rintro e wp2 ⟨⟨iv3, sv3, tv3, xr, rfl, hix3, hok3, hlen3⟩, hbp2⟩
            have hall2 := below_up hall1 hbp2 hall1.size
            have hS2 : wp2.cell? ⟨Xb, 0, none⟩ = some (.slice ia inn ic) ∧ wp2.cell? ⟨Xb, 1, none⟩ = some (.slice sa sn sc) ∧ wp2.cell? ⟨Xb, 2, none⟩ = some (.slice ta tn tc) ∧ wp2.cell? ⟨Vb, 0, none⟩ = some (.int .i64 id) ∧ wp2.cell? ⟨Vb, 1, none⟩ = some (.string t) ∧ wp2.cell? ⟨Vb, 2, none⟩ = some (.string b) := ⟨(below_cell hall2 hXl).trans x0, (below_cell hall2 hXl).trans x1, (below_cell hall2 hXl).trans x2, (below_cell hall2 hVl).trans v0, (below_cell hall2 hVl).trans v1, (below_cell hall2 hVl).trans v2⟩
            refine hK.out _ _ (fun _ => hS2) ?_
            clear hK
            try simp only [List.setIfInBounds_toArray, List.set_cons_zero, List.set_cons_succ, Act.put]
            refine oneT (i := 6) rfl (by kernel_rfl) (fun K hK => ?_)
            go_simp
            have hbp3 : Below wp2.heap.size wp2 (wp2.alloc (.cells #[.slice none 0 0, .slice none 0 0, .slice none 0 0] 29)) := (Below.refl _ _).alloc (Nat.le_refl _) _
            have hob := Has.new wp2 #[.slice none 0 0, .slice none 0 0, .slice none 0 0] 29
            have hobl : w0.heap.size ≤ wp2.heap.size := hall2.size
            generalize hW3 : wp2.alloc (.cells #[.slice none 0 0, .slice none 0 0, .slice none 0 0] 29) = wp3 at *
            replace hix3 := hix3.below hbp3
            have hall3 := below_up hall2 hbp3 hall2.size
            have hS3 : wp3.cell? ⟨Xb, 0, none⟩ = some (.slice ia inn ic) ∧ wp3.cell? ⟨Xb, 1, none⟩ = some (.slice sa sn sc) ∧ wp3.cell? ⟨Xb, 2, none⟩ = some (.slice ta tn tc) ∧ wp3.cell? ⟨Vb, 0, none⟩ = some (.int .i64 id) ∧ wp3.cell? ⟨Vb, 1, none⟩ = some (.string t) ∧ wp3.cell? ⟨Vb, 2, none⟩ = some (.string b) := ⟨(below_cell hall3 hXl).trans x0, (below_cell hall3 hXl).trans x1, (below_cell hall3 hXl).trans x2, (below_cell hall3 hVl).trans v0, (below_cell hall3 hVl).trans v1, (below_cell hall3 hVl).trans v2⟩
            refine hK.out _ _ (fun _ => hS3) ?_
            clear hK
            try simp only [List.setIfInBounds_toArray, List.set_cons_zero, List.set_cons_succ, Act.put]
            generalize hOb : wp2.heap.size = Ob
            rw [hOb] at hob hobl
            clear hOb
            obtain ⟨⟨b1, d1, g1⟩, ⟨b2, d2, g2⟩, ⟨b3, d3, g3⟩⟩ := hix3.forms
            obtain ⟨k1, hk1⟩ : ∃ k1, k1 = xr.ids.length := ⟨_, rfl⟩
            obtain ⟨k2, hk2⟩ : ∃ k2, k2 = xr.sizes.length := ⟨_, rfl⟩
            obtain ⟨k3, hk3⟩ : ∃ k3, k3 = xr.terms.length := ⟨_, rfl⟩
            rw [← hk1] at g1
            rw [← hk2] at g2
            rw [← hk3] at g3
            subst g1 g2 g3
            have q0 := hob.cell 0
            have q1 := hob.cell 1
            have q2 := hob.cell 2
            have p0 := hob.fz 0
            have p1 := hob.fz 1
            have p2 := hob.fz 2
            have HOB := Lib.hid hob
            have HIX3 := Lib.hid hix3
            have HOK3 := Lib.hid hok3
            have HLEN3 := Lib.hid (show xr.terms.length ≤ 40000000 by omega)
            have HK1 := Lib.hid hk1
            have HALL := Lib.hid hall3
            have HOBL := Lib.hid hobl
            clear hob hix3 hok3 hobl hk1 hk2 hk3 hlen2 hlen3
            refine oneT (i := 7) rfl (by kernel_rfl) (fun K hK => ?_)
            go_simp
            refine hK.out _ _ (fun q => absurd rfl q) ?_
            refine doneT (by kernel_rfl) ?_ _
            clear hK
            go_wp2_with fail
            go_meet
            have hr0 := RowOther.of_has HOB.out (by decide) (by decide) (by decide)
            have g0 := grownBy_set wp3 Ob 0 (.slice b1 k1 d1)
            have h1 := HOB.out.set 0 (.slice b1 k1 d1)
            have hr1 := RowOther.of_has h1 (by decide) (by decide) (by decide)
            have g1 := grownBy_set (wp3.setCell ⟨Ob, 0, none⟩ (.slice b1 k1 d1)) Ob 1 (.slice b2 k2 d2)
            have h2 := h1.set 1 (.slice b2 k2 d2)
            have hr2 := RowOther.of_has h2 (by decide) (by decide) (by decide)
            have g2 := grownBy_set ((wp3.setCell ⟨Ob, 0, none⟩ (.slice b1 k1 d1)).setCell ⟨Ob, 1, none⟩ (.slice b2 k2 d2)) Ob 2 (.slice b3 k3 d3)
            have h3 := h2.set 2 (.slice b3 k3 d3)
            exact ⟨Ob, b1, k1, d1, b2, k2, d2, b3, k3, d3, xr, rfl, h3, HOBL.out, ((HIX3.out.other hr0 g0).other hr1 g1).other hr2 g2, HOK3.out, HLEN3.out, HK1.out, ((HALL.out.setCell (p := ⟨Ob, 0, none⟩) HOBL.out _).setCell (p := ⟨Ob, 1, none⟩) HOBL.out _).setCell (p := ⟨Ob, 2, none⟩) HOBL.out _⟩
          · skip
            go_simp
            have hbp2 : Below wp1.heap.size wp1 (wp1.alloc (.cells #[.slice none 0 0, .slice none 0 0, .slice none 0 0] 29)) := (Below.refl _ _).alloc (Nat.le_refl _) _
            have hob := Has.new wp1 #[.slice none 0 0, .slice none 0 0, .slice none 0 0] 29
            have hobl : w0.heap.size ≤ wp1.heap.size := hall1.size
            generalize hW2 : wp1.alloc (.cells #[.slice none 0 0, .slice none 0 0, .slice none 0 0] 29) = wp2 at *
            replace hix2 := hix2.below hbp2
            have hall2 := below_up hall1 hbp2 hall1.size
            have hS2 : wp2.cell? ⟨Xb, 0, none⟩ = some (.slice ia inn ic) ∧ wp2.cell? ⟨Xb, 1, none⟩ = some (.slice sa sn sc) ∧ wp2.cell? ⟨Xb, 2, none⟩ = some (.slice ta tn tc) ∧ wp2.cell? ⟨Vb, 0, none⟩ = some (.int .i64 id) ∧ wp2.cell? ⟨Vb, 1, none⟩ = some (.string t) ∧ wp2.cell? ⟨Vb, 2, none⟩ = some (.string b) := ⟨(below_cell hall2 hXl).trans x0, (below_cell hall2 hXl).trans x1, (below_cell hall2 hXl).trans x2, (below_cell hall2 hVl).trans v0, (below_cell hall2 hVl).trans v1, (below_cell hall2 hVl).trans v2⟩
            refine hK.out _ _ (fun _ => hS2) ?_
            clear hK
            try simp only [List.setIfInBounds_toArray, List.set_cons_zero, List.set_cons_succ, Act.put]
            generalize hOb : wp1.heap.size = Ob
            rw [hOb] at hob hobl
            clear hOb
            refine oneT (i := 5) rfl (by kernel_rfl) (fun K hK => ?_)
            go_simp
            refine (with_any iv2 sv2 tv2 xq (outE id E) id t b 30000000 wp2 hix2 (outE_asc HE.out.asc id) hok2 HNO.out (by have := HOL.out; omega) (by have := HN.out; omega) (by omega) htl hbl).mono ?_
            rintro e wp3 ⟨⟨iv3, sv3, tv3, xr, rfl, hix3, hok3, hlen3⟩, hbp3⟩
            replace hob := hob.below hbp3 hob.lt
            have hall3 := below_up hall2 hbp3 hall2.size
            have hS3 : wp3.cell? ⟨Xb, 0, none⟩ = some (.slice ia inn ic) ∧ wp3.cell? ⟨Xb, 1, none⟩ = some (.slice sa sn sc) ∧ wp3.cell? ⟨Xb, 2, none⟩ = some (.slice ta tn tc) ∧ wp3.cell? ⟨Vb, 0, none⟩ = some (.int .i64 id) ∧ wp3.cell? ⟨Vb, 1, none⟩ = some (.string t) ∧ wp3.cell? ⟨Vb, 2, none⟩ = some (.string b) := ⟨(below_cell hall3 hXl).trans x0, (below_cell hall3 hXl).trans x1, (below_cell hall3 hXl).trans x2, (below_cell hall3 hVl).trans v0, (below_cell hall3 hVl).trans v1, (below_cell hall3 hVl).trans v2⟩
            refine hK.out _ _ (fun _ => hS3) ?_
            clear hK
            try simp only [List.setIfInBounds_toArray, List.set_cons_zero, List.set_cons_succ, Act.put]
            obtain ⟨⟨b1, d1, g1⟩, ⟨b2, d2, g2⟩, ⟨b3, d3, g3⟩⟩ := hix3.forms
            obtain ⟨k1, hk1⟩ : ∃ k1, k1 = xr.ids.length := ⟨_, rfl⟩
            obtain ⟨k2, hk2⟩ : ∃ k2, k2 = xr.sizes.length := ⟨_, rfl⟩
            obtain ⟨k3, hk3⟩ : ∃ k3, k3 = xr.terms.length := ⟨_, rfl⟩
            rw [← hk1] at g1
            rw [← hk2] at g2
            rw [← hk3] at g3
            subst g1 g2 g3
            have q0 := hob.cell 0
            have q1 := hob.cell 1
            have q2 := hob.cell 2
            have p0 := hob.fz 0
            have p1 := hob.fz 1
            have p2 := hob.fz 2
            have HOB := Lib.hid hob
            have HIX3 := Lib.hid hix3
            have HOK3 := Lib.hid hok3
            have HLEN3 := Lib.hid (show xr.terms.length ≤ 40000000 by omega)
            have HK1 := Lib.hid hk1
            have HALL := Lib.hid hall3
            have HOBL := Lib.hid hobl
            clear hob hix3 hok3 hobl hk1 hk2 hk3 hlen2 hlen3
            refine oneT (i := 7) rfl (by kernel_rfl) (fun K hK => ?_)
            go_simp
            refine hK.out _ _ (fun q => absurd rfl q) ?_
            refine doneT (by kernel_rfl) ?_ _
            clear hK
            go_wp2_with fail
            go_meet
            have hr0 := RowOther.of_has HOB.out (by decide) (by decide) (by decide)
            have g0 := grownBy_set wp3 Ob 0 (.slice b1 k1 d1)
            have h1 := HOB.out.set 0 (.slice b1 k1 d1)
            have hr1 := RowOther.of_has h1 (by decide) (by decide) (by decide)
            have g1 := grownBy_set (wp3.setCell ⟨Ob, 0, none⟩ (.slice b1 k1 d1)) Ob 1 (.slice b2 k2 d2)
            have h2 := h1.set 1 (.slice b2 k2 d2)
            have hr2 := RowOther.of_has h2 (by decide) (by decide) (by decide)
            have g2 := grownBy_set ((wp3.setCell ⟨Ob, 0, none⟩ (.slice b1 k1 d1)).setCell ⟨Ob, 1, none⟩ (.slice b2 k2 d2)) Ob 2 (.slice b3 k3 d3)
            have h3 := h2.set 2 (.slice b3 k3 d3)
            exact ⟨Ob, b1, k1, d1, b2, k2, d2, b3, k3, d3, xr, rfl, h3, HOBL.out, ((HIX3.out.other hr0 g0).other hr1 g1).other hr2 g2, HOK3.out, HLEN3.out, HK1.out, ((HALL.out.setCell (p := ⟨Ob, 0, none⟩) HOBL.out _).setCell (p := ⟨Ob, 1, none⟩) HOBL.out _).setCell (p := ⟨Ob, 2, none⟩) HOBL.out _⟩
        · skip
          go_simp
          have hbp1 : Below wd.heap.size wd (wd.alloc (.cells #[.slice none 0 0, .slice none 0 0, .slice none 0 0] 29)) := (Below.refl _ _).alloc (Nat.le_refl _) _
          have hob := Has.new wd #[.slice none 0 0, .slice none 0 0, .slice none 0 0] 29
          have hobl : w0.heap.size ≤ wd.heap.size := hall0.size
          generalize hW1 : wd.alloc (.cells #[.slice none 0 0, .slice none 0 0, .slice none 0 0] 29) = wp1 at *
          have hall1 := below_up hall0 hbp1 hall0.size
          have hS1 : wp1.cell? ⟨Xb, 0, none⟩ = some (.slice ia inn ic) ∧ wp1.cell? ⟨Xb, 1, none⟩ = some (.slice sa sn sc) ∧ wp1.cell? ⟨Xb, 2, none⟩ = some (.slice ta tn tc) ∧ wp1.cell? ⟨Vb, 0, none⟩ = some (.int .i64 id) ∧ wp1.cell? ⟨Vb, 1, none⟩ = some (.string t) ∧ wp1.cell? ⟨Vb, 2, none⟩ = some (.string b) := ⟨(below_cell hall1 hXl).trans x0, (below_cell hall1 hXl).trans x1, (below_cell hall1 hXl).trans x2, (below_cell hall1 hVl).trans v0, (below_cell hall1 hVl).trans v1, (below_cell hall1 hVl).trans v2⟩
          refine hK.out _ _ (fun _ => hS1) ?_
          clear hK
          try simp only [List.setIfInBounds_toArray, List.set_cons_zero, List.set_cons_succ, Act.put]
          generalize hOb : wd.heap.size = Ob
          rw [hOb] at hob hobl
          clear hOb
          refine oneT (i := 3) rfl (by kernel_rfl) (fun K hK => ?_)
          go_simp
          refine (without_any (.slice ia inn ic) (.slice sa sn sc) (.slice ta tn tc) x E id wp1 (HIX.out.below hall1) HE.out.asc HX.out (by have := HE.out.few; omega) (by have := HN.out; omega) HPO.out).mono ?_
          rintro e wp2 ⟨⟨iv2, sv2, tv2, xq, rfl, hix2, hok2, hlen2⟩, hbp2⟩
          replace hob := hob.below hbp2 hob.lt
          have hall2 := below_up hall1 hbp2 hall1.size
          have hS2 : wp2.cell? ⟨Xb, 0, none⟩ = some (.slice ia inn ic) ∧ wp2.cell? ⟨Xb, 1, none⟩ = some (.slice sa sn sc) ∧ wp2.cell? ⟨Xb, 2, none⟩ = some (.slice ta tn tc) ∧ wp2.cell? ⟨Vb, 0, none⟩ = some (.int .i64 id) ∧ wp2.cell? ⟨Vb, 1, none⟩ = some (.string t) ∧ wp2.cell? ⟨Vb, 2, none⟩ = some (.string b) := ⟨(below_cell hall2 hXl).trans x0, (below_cell hall2 hXl).trans x1, (below_cell hall2 hXl).trans x2, (below_cell hall2 hVl).trans v0, (below_cell hall2 hVl).trans v1, (below_cell hall2 hVl).trans v2⟩
          refine hK.out _ _ (fun _ => hS2) ?_
          clear hK
          try simp only [List.setIfInBounds_toArray, List.set_cons_zero, List.set_cons_succ, Act.put]
          refine oneT (i := 5) rfl (by kernel_rfl) (fun K hK => ?_)
          go_simp
          refine (with_any iv2 sv2 tv2 xq (outE id E) id t b 30000000 wp2 hix2 (outE_asc HE.out.asc id) hok2 HNO.out (by have := HOL.out; omega) (by have := HN.out; omega) (by omega) htl hbl).mono ?_
          rintro e wp3 ⟨⟨iv3, sv3, tv3, xr, rfl, hix3, hok3, hlen3⟩, hbp3⟩
          replace hob := hob.below hbp3 hob.lt
          have hall3 := below_up hall2 hbp3 hall2.size
          have hS3 : wp3.cell? ⟨Xb, 0, none⟩ = some (.slice ia inn ic) ∧ wp3.cell? ⟨Xb, 1, none⟩ = some (.slice sa sn sc) ∧ wp3.cell? ⟨Xb, 2, none⟩ = some (.slice ta tn tc) ∧ wp3.cell? ⟨Vb, 0, none⟩ = some (.int .i64 id) ∧ wp3.cell? ⟨Vb, 1, none⟩ = some (.string t) ∧ wp3.cell? ⟨Vb, 2, none⟩ = some (.string b) := ⟨(below_cell hall3 hXl).trans x0, (below_cell hall3 hXl).trans x1, (below_cell hall3 hXl).trans x2, (below_cell hall3 hVl).trans v0, (below_cell hall3 hVl).trans v1, (below_cell hall3 hVl).trans v2⟩
          refine hK.out _ _ (fun _ => hS3) ?_
          clear hK
          try simp only [List.setIfInBounds_toArray, List.set_cons_zero, List.set_cons_succ, Act.put]
          obtain ⟨⟨b1, d1, g1⟩, ⟨b2, d2, g2⟩, ⟨b3, d3, g3⟩⟩ := hix3.forms
          obtain ⟨k1, hk1⟩ : ∃ k1, k1 = xr.ids.length := ⟨_, rfl⟩
          obtain ⟨k2, hk2⟩ : ∃ k2, k2 = xr.sizes.length := ⟨_, rfl⟩
          obtain ⟨k3, hk3⟩ : ∃ k3, k3 = xr.terms.length := ⟨_, rfl⟩
          rw [← hk1] at g1
          rw [← hk2] at g2
          rw [← hk3] at g3
          subst g1 g2 g3
          have q0 := hob.cell 0
          have q1 := hob.cell 1
          have q2 := hob.cell 2
          have p0 := hob.fz 0
          have p1 := hob.fz 1
          have p2 := hob.fz 2
          have HOB := Lib.hid hob
          have HIX3 := Lib.hid hix3
          have HOK3 := Lib.hid hok3
          have HLEN3 := Lib.hid (show xr.terms.length ≤ 40000000 by omega)
          have HK1 := Lib.hid hk1
          have HALL := Lib.hid hall3
          have HOBL := Lib.hid hobl
          clear hob hix3 hok3 hobl hk1 hk2 hk3 hlen2 hlen3
          refine oneT (i := 7) rfl (by kernel_rfl) (fun K hK => ?_)
          go_simp
          refine hK.out _ _ (fun q => absurd rfl q) ?_
          refine doneT (by kernel_rfl) ?_ _
          clear hK
          go_wp2_with fail
          go_meet
          have hr0 := RowOther.of_has HOB.out (by decide) (by decide) (by decide)
          have g0 := grownBy_set wp3 Ob 0 (.slice b1 k1 d1)
          have h1 := HOB.out.set 0 (.slice b1 k1 d1)
          have hr1 := RowOther.of_has h1 (by decide) (by decide) (by decide)
          have g1 := grownBy_set (wp3.setCell ⟨Ob, 0, none⟩ (.slice b1 k1 d1)) Ob 1 (.slice b2 k2 d2)
          have h2 := h1.set 1 (.slice b2 k2 d2)
          have hr2 := RowOther.of_has h2 (by decide) (by decide) (by decide)
          have g2 := grownBy_set ((wp3.setCell ⟨Ob, 0, none⟩ (.slice b1 k1 d1)).setCell ⟨Ob, 1, none⟩ (.slice b2 k2 d2)) Ob 2 (.slice b3 k3 d3)
          have h3 := h2.set 2 (.slice b3 k3 d3)
          exact ⟨Ob, b1, k1, d1, b2, k2, d2, b3, k3, d3, xr, rfl, h3, HOBL.out, ((HIX3.out.other hr0 g0).other hr1 g1).other hr2 g2, HOK3.out, HLEN3.out, HK1.out, ((HALL.out.setCell (p := ⟨Ob, 0, none⟩) HOBL.out _).setCell (p := ⟨Ob, 1, none⟩) HOBL.out _).setCell (p := ⟨Ob, 2, none⟩) HOBL.out _⟩
      case rest =>
        obtain ⟨Ob, b1, k1, d1, b2, k2, d2, b3, k3, d3, xr, rfl, hob, hobl, hix, hok, hlen, hk1o, hb0⟩ := hcut
        rw [HVI.out] at hok
        have hk1 : k1 = (insE v E).length := by rw [hk1o, hok.ids, List.length_map]
        clear hk1o
        have HIXR := Lib.hid hix
        have HOKR := Lib.hid hok
        have HLENR := Lib.hid hlen
        have HK1 := Lib.hid hk1
        have HBW := Lib.hid (HBC.out.trans (hb0.mono hBc))
        have hrb := HRB2.out.below hb0 HRB2.out.lt
        have o0 := hob.cell 0
        have o1 := hob.cell 1
        have o2 := hob.cell 2
        have r0 := hrb.cell 0
        have r1 := hrb.cell 1
        have r2 := hrb.cell 2
        have s0 := hrb.fz 0
        have s1 := hrb.fz 1
        have s2 := hrb.fz 2
        have HRB3 := Lib.hid hrb
        clear hix hok hlen hk1 hb0 hob hrb x0 x1 x2 v0 v1 v2
        by_cases h200 : 200 < k1
        · have q1 : decide ((200 : Int) < (k1 : Int)) = true := decide_eq_true (by omega)
          have HRE := Lib.hid (((HRB3.out.set 0 (.slice none 0 0)).set 1 (.slice none 0 0)).set 2 (.slice none 0 0))
          clear h200
          go_wp2_with fail
          refine bodyPost_ret (results_cell_tmp_row rfl _ _ Rb _ _ (0, 0) _ rfl HRE.out Try.underlying29 rfl infoIx) rfl ?_
          rw [← HQ.out]
          exact ⟨.inl ⟨4, by decide, rfl⟩, ((HBW.out.setCell (p := ⟨Rb, 0, none⟩) hRlow _).setCell (p := ⟨Rb, 1, none⟩) hRlow _).setCell (p := ⟨Rb, 2, none⟩) hRlow _⟩
        · have q1 : decide ((200 : Int) < (k1 : Int)) = false := decide_eq_false (by omega)
          have HLE := Lib.hid (show (insE v E).length ≤ 200 by rw [← HK1.out]; omega)
          have HRE := Lib.hid (((HRB3.out.set 0 (.slice b1 k1 d1)).set 1 (.slice b2 k2 d2)).set 2 (.slice b3 k3 d3))
          clear h200
          go_wp2_with fail
          refine bodyPost_ret (results_cell_tmp_row rfl _ _ Rb _ _ (0, 0) _ rfl HRE.out Try.underlying29 rfl infoIx) rfl ?_
          rw [← HQ.out]
          have hr0 := RowOther.of_has HRB3.out (by decide) (by decide) (by decide)
          have g0 := grownBy_set wc Rb 0 (.slice b1 k1 d1)
          have h1 := HRB3.out.set 0 (.slice b1 k1 d1)
          have hr1 := RowOther.of_has h1 (by decide) (by decide) (by decide)
          have g1 := grownBy_set (wc.setCell ⟨Rb, 0, none⟩ (.slice b1 k1 d1)) Rb 1 (.slice b2 k2 d2)
          have h2 := h1.set 1 (.slice b2 k2 d2)
          have hr2 := RowOther.of_has h2 (by decide) (by decide) (by decide)
          have g2 := grownBy_set ((wc.setCell ⟨Rb, 0, none⟩ (.slice b1 k1 d1)).setCell ⟨Rb, 1, none⟩ (.slice b2 k2 d2)) Rb 2 (.slice b3 k3 d3)
          exact ⟨.inr ⟨HGOOD.out, HLE.out, _, _, _, xr, rfl, ((HIXR.out.other hr0 g0).other hr1 g1).other hr2 g2, HOKR.out, HLENR.out⟩, ((HBW.out.setCell (p := ⟨Rb, 0, none⟩) hRlow _).setCell (p := ⟨Rb, 1, none⟩) hRlow _).setCell (p := ⟨Rb, 2, none⟩) hRlow _⟩
    · have q2 : (z != 0) = true := by simpa using hz0
      have HZ0 := Lib.hid hz0
      have r0 := hrb.cell 0
      have r1 := hrb.cell 1
      have r2 := hrb.cell 2
      have s0 := hrb.fz 0
      have s1 := hrb.fz 1
      have s2 := hrb.fz 2
      have HRE := Lib.hid (((hrb.set 0 (.slice none 0 0)).set 1 (.slice none 0 0)).set 2 (.slice none 0 0))
      clear hz0 hbc hrb
      go_wp2_with fail
      refine bodyPost_ret (results_cell_tmp_row rfl _ _ Rb _ _ (0, 0) _ rfl HRE.out Try.underlying29 rfl infoIx) rfl ?_
      rw [← HQ.out]
      exact ⟨.inl ⟨z, HZ0.out, rfl⟩, ((HBC.out.setCell (p := ⟨Rb, 0, none⟩) hRlow _).setCell (p := ⟨Rb, 1, none⟩) hRlow _).setCell (p := ⟨Rb, 2, none⟩) hRlow _⟩
end Go.Proofs.Ytfjcbclakgidkaa
