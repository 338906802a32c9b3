/- The walk of (know.Index).without. -/
import Derived.Test.YtfjcbclakgidkaaIaNew
namespace Go.Proofs.Ytfjcbclakgidkaa
open Go.RowKit

/-- where an entry's number lies -/
theorem out_lists {E : List EnD} (hE : AscE E) (id : Int) {α : Type} (f : EnD → α) : (outE id E).map f = if (E.map (·.1)).contains id = true then (E.map f).take ((E.map (·.1)).countP (· < id)) ++ (E.map f).drop ((E.map (·.1)).countP (· < id) + 1) else E.map f := by
  have key : outE id E = if (E.map (·.1)).contains id = true then E.take ((E.map (·.1)).countP (· < id)) ++ E.drop ((E.map (·.1)).countP (· < id) + 1) else E := by
    induction E with
    | nil => rfl
    | cons u E ih =>
      have h1 := List.pairwise_cons.1 hE
      have ih := ih h1.2
      have hall : ∀ z ∈ E, u.1 < z.1 := fun z hz => h1.1 z hz
      unfold outE at ih ⊢
      rw [List.filter_cons, List.map_cons, List.contains_cons, List.countP_cons]
      by_cases g : u.1 = id
      · have hno : E.filter (fun v => decide (v.1 ≠ id)) = E := List.filter_eq_self.2 fun z hz => by
          have := hall z hz
          have hz2 : z.1 ≠ id := by omega
          simpa using hz2
        have hc : (E.map (·.1)).countP (fun a => decide (a < id)) = 0 := by
          rw [List.countP_eq_zero]
          intro a ha
          obtain ⟨z, hz, rfl⟩ := List.mem_map.1 ha
          have := hall z hz
          have h2 : ¬ z.1 < id := by omega
          simpa using h2
        have hlt : ¬ u.1 < id := by omega
        rw [if_neg (by simp [g]), if_pos (by simp [g]), hno, hc, if_neg (by simpa using hlt)]
        rfl
      · rw [if_pos (by simpa using g)]
        have hbeq : (id == u.1) = false := by simp; omega
        rw [hbeq, Bool.false_or, ih]
        by_cases hin : (E.map (·.1)).contains id = true
        · rw [if_pos hin, if_pos hin]
          have hlt : u.1 < id := by
            obtain ⟨z, hz, e⟩ := List.mem_map.1 (List.contains_iff_mem.1 hin)
            have := hall z hz
            omega
          rw [if_pos (by simpa using hlt), List.take_succ_cons, List.drop_succ_cons]
          rfl
        · rw [if_neg hin, if_neg hin]
  rw [key]
  split
  · rw [List.map_append, List.map_take, List.map_drop]
  · rfl
theorem IntsAt.kept {w w' : World} {v : Value} {l : List Int} (h : IntsAt w v l) {row : Option Nat} (hg : w.grownBy w' row) (hne : ∀ b, v.ownBlock = some b → some b ≠ row) : IntsAt w' v l :=
  ⟨SliceAt.kept (fun _ _ _ _ h => h) h.1 hg hne, fun b hb => by
    obtain ⟨cs, fr, e⟩ := h.2 b hb
    exact ⟨cs, fr, (hg.block b (Array.getElem?_eq_some_iff.1 e).1 (hne b hb)).trans e⟩⟩
theorem NE.off {a b v : Value} (h : NE a b) (hv : v.ownBlock = a.ownBlock) : ∀ c, v.ownBlock = some c → some c ≠ b.ownBlock := fun c hc e => by
  rw [hv] at hc
  rcases h with q | q | q
  · rw [q] at hc; cases hc
  · rw [q] at e; cases e
  · exact q (hc.trans e)
def keepP (id : Int) (l : List PoD) : List PoD := l.filter fun p => decide (p.1 ≠ id)
def outT1 (id : Int) (t : TmD) : Option TmD := if keepP id t.2 = [] then none else some (t.1, keepP id t.2)
theorem outT_eq (id : Int) (l : List TmD) : outT id l = l.filterMap (outT1 id) := rfl
theorem outT_next (id : Int) {l : List TmD} {i : Nat} (hi : i < l.length) : outT id (l.take (i + 1)) = outT id (l.take i) ++ (if keepP id l[i].2 = [] then [] else [(l[i].1, keepP id l[i].2)]) := by
  rw [outT_eq, outT_eq, List.take_succ_eq_append_getElem hi, List.filterMap_append]
  congr 1
  rw [List.filterMap_cons]
  unfold outT1
  split <;> rename_i h
  · split at h
    · rename_i g
      rw [if_pos g]
      rfl
    · cases h
  · split at h
    · cases h
    · rename_i g
      rw [if_neg g]
      cases h
      rfl
theorem keepP_next (id : Int) {l : List PoD} {j : Nat} (hj : j < l.length) : keepP id (l.take (j + 1)) = keepP id (l.take j) ++ (if l[j].1 = id then [] else [l[j]]) := by
  unfold keepP
  rw [List.take_succ_eq_append_getElem hj, List.filter_append, List.filter_cons]
  congr 1
  by_cases g : l[j].1 = id
  · simp [g]
  · simp [g]
def WoPost (w : World) (x : IxD) (E : List EnD) (id : Int) (e : Ending) (w' : World) : Prop :=
  (∃ iv sv tv x', e = .returned (.agg #[iv, sv, tv]) ∧ IxAt w' iv sv tv x' ∧ IxOk (outE id E) x' ∧ x'.terms.length ≤ x.terms.length) ∧ Below w.heap.size w w'
structure WoO (w wr : World) (Xb Rb Ob : Nat) (iv sv tv iv2 sv2 : Value) (il sl : List Int) (x : IxD) (id : Int) (i : Nat) (ov : Value) (A : List TmM) : Prop where
  xb : Has wr Xb #[iv, sv, tv] 29
  rb : Has wr Rb #[.slice none 0 0, .slice none 0 0, .slice none 0 0] 29
  ob : Has wr Ob #[iv2, sv2, ov] 29
  ids : IntsAt wr iv2 il
  sizes : IntsAt wr sv2 sl
  own : wr.ownsRow w.heap.size 54 2 ov A.length (A.flatMap encT)
  eq : A.map (·.1) = outT id (x.terms.take i)
  at' : ∀ y ∈ A, TmMOk wr y
  below : Below w.heap.size w wr
theorem WoO.down {w wr wr' : World} {Xb Rb Ob : Nat} {iv sv tv iv2 sv2 : Value} {il sl : List Int} {x : IxD} {id : Int} {i : Nat} {ov : Value} {A : List TmM} (h : WoO w wr Xb Rb Ob iv sv tv iv2 sv2 il sl x id i ov A) (hb : Below wr.heap.size wr wr') (hB : w.heap.size ≤ wr.heap.size) : WoO w wr' Xb Rb Ob iv sv tv iv2 sv2 il sl x id i ov A :=
  ⟨h.xb.below hb h.xb.lt, h.rb.below hb h.rb.lt, h.ob.below hb h.ob.lt, h.ids.below hb, h.sizes.below hb, owns_below h.own hb, h.eq, fun y hy => PoL.below (h.at' y hy) hb, h.below.trans (hb.mono hB)⟩
/-- postings gathered -/
structure WoI (w2 wr : World) (B0 : Nat) (id : Int) (l : List PoD) (j : Nat) (pv : Value) (C : List PoM) : Prop where
  own : wr.ownsRow B0 57 3 pv C.length (C.flatMap encP)
  eq : C.map (·.1) = keepP id (l.take j)
  at' : ∀ y ∈ C, PoMOk wr y
  below : Below B0 w2 wr
theorem WoI.done {w2 wr : World} {B0 : Nat} {id : Int} {l : List PoD} {j : Nat} {pv : Value} {C : List PoM} (h : WoI w2 wr B0 id l j pv C) (hj : l.length ≤ j) : PoL wr pv (keepP id l) :=
  ⟨C, by rw [h.eq, List.take_of_length_le hj], ⟨rows_of_owns encP h.own (fun _ => rfl), Typed.of_own h.own⟩, h.at'⟩
set_option maxRecDepth 100000 in
set_option maxHeartbeats 16000000 in
theorem without_any (iv sv tv : Value) (x : IxD) (E : List EnD) (id : Int) (w : World) (h : IxAt w iv sv tv x) (hE : AscE E) (hx : IxOk E x) (hl : E.length ≤ 1000) (hN : x.terms.length ≤ 100000000) (hpo : ∀ t ∈ x.terms, ∀ p ∈ t.2, p.2.1.length ≤ 1000000 ∧ p.2.2.length ≤ 1000000) :
    Calls Try.prog 20 #[.agg #[iv, sv, tv], .int .i64 id] w (WoPost w x E id) := by
  generalize hQ : WoPost w x E id = Q
  have HQ := Lib.hid hQ
  have H := Lib.hid h
  have HX := Lib.hid hx
  have HE := Lib.hid hE
  have HPO := Lib.hid hpo
  clear hQ h hx hE hpo
  go_enter Try.func20, Try.ntmps20
  go_upto_region 1 with fail
  obtain ⟨Xb, hXb⟩ : ∃ Xb, Xb = w.heap.size := ⟨_, rfl⟩
  have k0 := Has.new w #[iv, sv, tv] 29
  have b0 : Below w.heap.size w (w.alloc (.cells #[iv, sv, tv] 29)) := (Below.refl _ _).alloc (Nat.le_refl _) _
  have s0 : (w.alloc (.cells #[iv, sv, tv] 29)).heap.size = w.heap.size + 1 := World.size_alloc _ _
  generalize w.alloc (.cells #[iv, sv, tv] 29) = w1 at *
  have k1 := Has.new w1 #[.slice none 0 0, .slice none 0 0, .slice none 0 0] 29
  have b1 := b0.alloc b0.size (.cells #[.slice none 0 0, .slice none 0 0, .slice none 0 0] 29)
  have m1 := k0.alloc (.cells #[.slice none 0 0, .slice none 0 0, .slice none 0 0] 29)
  generalize w1.alloc (.cells #[.slice none 0 0, .slice none 0 0, .slice none 0 0] 29) = w0 at *
  rw [s0] at k1
  obtain ⟨Rb, hRb⟩ : ∃ Rb, Rb = w.heap.size + 1 := ⟨_, rfl⟩
  rw [← hRb] at k1 ⊢
  rw [← hXb] at m1 ⊢
  have hRX : Rb ≠ Xb := by omega
  have hXlow : w.heap.size ≤ Xb := by omega
  have hRlow : w.heap.size ≤ Rb := by omega
  clear hXb hRb k0 b0 s0
  have x0 : w0.cell? ⟨Xb, 0, none⟩ = some iv := m1.cell 0
  have x1 : w0.cell? ⟨Xb, 1, none⟩ = some sv := m1.cell 1
  have hXl := m1.lt
  have hB0s : w.heap.size ≤ w0.heap.size := b1.size
  have HIV := Lib.hid (H.out.ids.below b1)
  have HSV := Lib.hid (H.out.sizes.below b1)
  have HM1 := Lib.hid m1
  have HK1 := Lib.hid k1
  have HB1 := Lib.hid b1
  have hil : x.ids.length ≤ 1000 := by rw [HX.out.ids, List.length_map]; exact hl
  have hsl : x.sizes.length ≤ 1000 := by rw [HX.out.sizes, List.length_map]; exact hl
  clear m1 k1 b1
  go_cut [5] from 13 to 19 (fun v wx => ∃ Ob cva cvc cwa cwc, v = .pointer (some ⟨Ob, 0, none⟩) ∧ Has wx Ob #[.slice cva x.ids.length cvc, .slice cwa x.sizes.length cwc, .slice none 0 0] 29 ∧ w0.heap.size ≤ Ob ∧ wx.ownsRow w0.heap.size 3 1 (.slice cva x.ids.length cvc) x.ids.length (x.ids.map (Value.int .i64)) ∧ wx.ownsRow w0.heap.size 3 1 (.slice cwa x.sizes.length cwc) x.sizes.length (x.sizes.map (Value.int .i64)) ∧ NE (.slice cva x.ids.length cvc) (.slice cwa x.sizes.length cwc) ∧ Below w0.heap.size w0 wx)
  case first =>
    refine anyT_start (S := fun W : World => W.cell? ⟨Xb, 0, none⟩ = some iv ∧ W.cell? ⟨Xb, 1, none⟩ = some sv) (t := 8) (by kernel_rfl) ?_
    have hall0 := (Below.refl w0.heap.size w0).drew
    have hS0 : w0.drew.cell? ⟨Xb, 0, none⟩ = some iv ∧ w0.drew.cell? ⟨Xb, 1, none⟩ = some sv := ⟨x0, x1⟩
    generalize w0.drew = wd at *
    refine takeT (i := 0) (v := ?_) rfl rfl (by kernel_rfl) (by kernel_rfl) (by kernel_rfl) (fun _ _ _ h => h) (by decide) (by kernel_rfl) (by kernel_rfl) ?_ hS0 ?_
    rotate_left
    · intro w hSw; (try dsimp only at hSw); go_simp; (try with_reducible rfl)
    simp only [List.setIfInBounds_toArray, List.set_cons_zero, List.set_cons_succ]
    refine takeT (i := 1) (v := ?_) rfl rfl (by kernel_rfl) (by kernel_rfl) (by kernel_rfl) (fun _ _ _ h => h) (by decide) (by kernel_rfl) (by kernel_rfl) ?_ hS0 ?_
    rotate_left
    · intro w hSw; (try dsimp only at hSw); go_simp; (try with_reducible rfl)
    simp only [List.setIfInBounds_toArray, List.set_cons_zero, List.set_cons_succ]
    refine takeT (i := 3) (v := ?_) rfl rfl (by kernel_rfl) (by kernel_rfl) (by kernel_rfl) (fun _ _ _ h => h) (by decide) (by kernel_rfl) (by kernel_rfl) ?_ hS0 ?_
    rotate_left
    · intro w hSw; (try dsimp only at hSw); go_simp; (try with_reducible rfl)
    simp only [List.setIfInBounds_toArray, List.set_cons_zero, List.set_cons_succ]
    refine takeT (i := 4) (v := ?_) rfl rfl (by kernel_rfl) (by kernel_rfl) (by kernel_rfl) (fun _ _ _ h => h) (by decide) (by kernel_rfl) (by kernel_rfl) ?_ hS0 ?_
    rotate_left
    · intro w hSw; (try dsimp only at hSw); go_simp; (try with_reducible rfl)
    simp only [List.setIfInBounds_toArray, List.set_cons_zero, List.set_cons_succ]
    refine twoT (i := 2) (j := 7) rfl rfl (by kernel_rfl) (fun K hK => ?_) (fun K hK => ?_)
    · skip
      go_simp
      refine (cloneI iv x.ids wd (HIV.out.below hall0) (by omega)).mono ?_
      rintro e wp1 ⟨⟨cv, rfl, hcv⟩, hbp1⟩
      obtain ⟨cva, cvc, hcvs⟩ := owns_slice hcv
      subst hcvs
      have hall1 := below_up hall0 hbp1 hall0.size
      have hS1 : wp1.cell? ⟨Xb, 0, none⟩ = some iv ∧ wp1.cell? ⟨Xb, 1, none⟩ = some sv := ⟨(below_cell hall1 hXl).trans x0, (below_cell hall1 hXl).trans x1⟩
      refine hK.out _ _ (fun _ => hS1) ?_
      clear hK
      try simp only [List.setIfInBounds_toArray, List.set_cons_zero, List.set_cons_succ, Act.put]
      replace hcv := owns_base hcv hall0.size
      refine twoT (i := 5) (j := 7) rfl rfl (by kernel_rfl) (fun K hK => ?_) (fun K hK => ?_)
      · skip
        go_simp
        refine (cloneI sv x.sizes wp1 (HSV.out.below hall1) (by omega)).mono ?_
        rintro e wp2 ⟨⟨cw, rfl, hcw⟩, hbp2⟩
        obtain ⟨cwa, cwc, hcws⟩ := owns_slice hcw
        subst hcws
        have hne : NE (.slice cva x.ids.length cvc) (.slice cwa x.sizes.length cwc) := by
          cases hq : (Value.slice cva x.ids.length cvc).ownBlock with
          | none => exact .inl hq
          | some k =>
            cases hq2 : (Value.slice cwa x.sizes.length cwc).ownBlock with
            | none => exact .inr (.inl hq2)
            | some k2 =>
              refine .inr (.inr ?_)
              have h1 := (hcv.lt k hq).2
              have h2 := (hcw.lt k2 hq2).1
              rw [hq, hq2]
              simp only [ne_eq, Option.some.injEq]
              omega
        replace hcv := owns_below hcv hbp2
        have hall2 := below_up hall1 hbp2 hall1.size
        have hS2 : wp2.cell? ⟨Xb, 0, none⟩ = some iv ∧ wp2.cell? ⟨Xb, 1, none⟩ = some sv := ⟨(below_cell hall2 hXl).trans x0, (below_cell hall2 hXl).trans x1⟩
        refine hK.out _ _ (fun _ => hS2) ?_
        clear hK
        try simp only [List.setIfInBounds_toArray, List.set_cons_zero, List.set_cons_succ, Act.put]
        replace hcw := owns_base hcw hall1.size
        refine takeT (i := 6) (v := ?_) rfl rfl (by kernel_rfl) (by kernel_rfl) (by kernel_rfl) (fun _ _ _ h => h) (by decide) (by kernel_rfl) (by kernel_rfl) ?_ hS2 ?_
        rotate_left
        · intro w hSw; (try dsimp only at hSw); go_simp; (try with_reducible rfl)
        simp only [List.setIfInBounds_toArray, List.set_cons_zero, List.set_cons_succ]
        refine oneT (i := 7) rfl (by kernel_rfl) (fun K hK => ?_)
        go_simp
        have hbp3 : Below wp2.heap.size wp2 (wp2.alloc (.cells #[.slice none 0 0, .slice none 0 0, .slice none 0 0] 29)) := (Below.refl _ _).alloc (Nat.le_refl _) _
        have hob := Has.new wp2 #[.slice none 0 0, .slice none 0 0, .slice none 0 0] 29
        have hobl : w0.heap.size ≤ wp2.heap.size := hall2.size
        generalize hW3 : wp2.alloc (.cells #[.slice none 0 0, .slice none 0 0, .slice none 0 0] 29) = wp3 at *
        replace hcv := owns_below hcv hbp3
        replace hcw := owns_below hcw hbp3
        have hall3 := below_up hall2 hbp3 hall2.size
        have hS3 : wp3.cell? ⟨Xb, 0, none⟩ = some iv ∧ wp3.cell? ⟨Xb, 1, none⟩ = some sv := ⟨(below_cell hall3 hXl).trans x0, (below_cell hall3 hXl).trans x1⟩
        refine hK.out _ _ (fun _ => hS3) ?_
        clear hK
        try simp only [List.setIfInBounds_toArray, List.set_cons_zero, List.set_cons_succ, Act.put]
        generalize hOb : wp2.heap.size = Ob
        rw [hOb] at hob hobl
        clear hOb
        have q0 := hob.cell 0
        have q1 := hob.cell 1
        have q2 := hob.cell 2
        have p0 := hob.fz 0
        have p1 := hob.fz 1
        have p2 := hob.fz 2
        have HOB := Lib.hid hob
        have HCV := Lib.hid hcv
        have HCW := Lib.hid hcw
        have HALL := Lib.hid hall3
        have HNE := Lib.hid hne
        have HOBL := Lib.hid hobl
        clear hob hcv hcw hne hobl
        refine oneT (i := 8) rfl (by kernel_rfl) (fun K hK => ?_)
        go_simp
        refine hK.out _ _ (fun q => absurd rfl q) ?_
        refine doneT (by kernel_rfl) ?_ _
        clear hK
        go_wp2_with fail
        go_meet
        have g0 := grownBy_set wp3 Ob 0 (.slice cva x.ids.length cvc)
        have h1 := HOB.out.set 0 (.slice cva x.ids.length cvc)
        have g1 := grownBy_set (wp3.setCell ⟨Ob, 0, none⟩ (.slice cva x.ids.length cvc)) Ob 1 (.slice cwa x.sizes.length cwc)
        have h2 := h1.set 1 (.slice cwa x.sizes.length cwc)
        have g2 := grownBy_set ((wp3.setCell ⟨Ob, 0, none⟩ (.slice cva x.ids.length cvc)).setCell ⟨Ob, 1, none⟩ (.slice cwa x.sizes.length cwc)) Ob 2 (.slice none 0 0)
        have h3 := h2.set 2 (.slice none 0 0)
        exact ⟨Ob, cva, cvc, cwa, cwc, rfl, h3, HOBL.out, owns_kept_has (owns_kept_has (owns_kept_has HCV.out HOB.out (by decide) g0) h1 (by decide) g1) h2 (by decide) g2, owns_kept_has (owns_kept_has (owns_kept_has HCW.out HOB.out (by decide) g0) h1 (by decide) g1) h2 (by decide) g2, HNE.out, ((HALL.out.setCell (p := ⟨Ob, 0, none⟩) HOBL.out _).setCell (p := ⟨Ob, 1, none⟩) HOBL.out _).setCell (p := ⟨Ob, 2, none⟩) HOBL.out _⟩
      · skip
        go_simp
        have hbp2 : Below wp1.heap.size wp1 (wp1.alloc (.cells #[.slice none 0 0, .slice none 0 0, .slice none 0 0] 29)) := (Below.refl _ _).alloc (Nat.le_refl _) _
        have hob := Has.new wp1 #[.slice none 0 0, .slice none 0 0, .slice none 0 0] 29
        have hobl : w0.heap.size ≤ wp1.heap.size := hall1.size
        generalize hW2 : wp1.alloc (.cells #[.slice none 0 0, .slice none 0 0, .slice none 0 0] 29) = wp2 at *
        replace hcv := owns_below hcv hbp2
        have hall2 := below_up hall1 hbp2 hall1.size
        have hS2 : wp2.cell? ⟨Xb, 0, none⟩ = some iv ∧ wp2.cell? ⟨Xb, 1, none⟩ = some sv := ⟨(below_cell hall2 hXl).trans x0, (below_cell hall2 hXl).trans x1⟩
        refine hK.out _ _ (fun _ => hS2) ?_
        clear hK
        try simp only [List.setIfInBounds_toArray, List.set_cons_zero, List.set_cons_succ, Act.put]
        generalize hOb : wp1.heap.size = Ob
        rw [hOb] at hob hobl
        clear hOb
        refine oneT (i := 5) rfl (by kernel_rfl) (fun K hK => ?_)
        go_simp
        refine (cloneI sv x.sizes wp2 (HSV.out.below hall2) (by omega)).mono ?_
        rintro e wp3 ⟨⟨cw, rfl, hcw⟩, hbp3⟩
        obtain ⟨cwa, cwc, hcws⟩ := owns_slice hcw
        subst hcws
        have hne : NE (.slice cva x.ids.length cvc) (.slice cwa x.sizes.length cwc) := by
          cases hq : (Value.slice cva x.ids.length cvc).ownBlock with
          | none => exact .inl hq
          | some k =>
            cases hq2 : (Value.slice cwa x.sizes.length cwc).ownBlock with
            | none => exact .inr (.inl hq2)
            | some k2 =>
              refine .inr (.inr ?_)
              have h1 := (hcv.lt k hq).2
              have h2 := (hcw.lt k2 hq2).1
              rw [hq, hq2]
              simp only [ne_eq, Option.some.injEq]
              omega
        replace hcv := owns_below hcv hbp3
        replace hob := hob.below hbp3 hob.lt
        have hall3 := below_up hall2 hbp3 hall2.size
        have hS3 : wp3.cell? ⟨Xb, 0, none⟩ = some iv ∧ wp3.cell? ⟨Xb, 1, none⟩ = some sv := ⟨(below_cell hall3 hXl).trans x0, (below_cell hall3 hXl).trans x1⟩
        refine hK.out _ _ (fun _ => hS3) ?_
        clear hK
        try simp only [List.setIfInBounds_toArray, List.set_cons_zero, List.set_cons_succ, Act.put]
        replace hcw := owns_base hcw hall2.size
        refine takeT (i := 6) (v := ?_) rfl rfl (by kernel_rfl) (by kernel_rfl) (by kernel_rfl) (fun _ _ _ h => h) (by decide) (by kernel_rfl) (by kernel_rfl) ?_ hS3 ?_
        rotate_left
        · intro w hSw; (try dsimp only at hSw); go_simp; (try with_reducible rfl)
        simp only [List.setIfInBounds_toArray, List.set_cons_zero, List.set_cons_succ]
        have q0 := hob.cell 0
        have q1 := hob.cell 1
        have q2 := hob.cell 2
        have p0 := hob.fz 0
        have p1 := hob.fz 1
        have p2 := hob.fz 2
        have HOB := Lib.hid hob
        have HCV := Lib.hid hcv
        have HCW := Lib.hid hcw
        have HALL := Lib.hid hall3
        have HNE := Lib.hid hne
        have HOBL := Lib.hid hobl
        clear hob hcv hcw hne hobl
        refine oneT (i := 8) rfl (by kernel_rfl) (fun K hK => ?_)
        go_simp
        refine hK.out _ _ (fun q => absurd rfl q) ?_
        refine doneT (by kernel_rfl) ?_ _
        clear hK
        go_wp2_with fail
        go_meet
        have g0 := grownBy_set wp3 Ob 0 (.slice cva x.ids.length cvc)
        have h1 := HOB.out.set 0 (.slice cva x.ids.length cvc)
        have g1 := grownBy_set (wp3.setCell ⟨Ob, 0, none⟩ (.slice cva x.ids.length cvc)) Ob 1 (.slice cwa x.sizes.length cwc)
        have h2 := h1.set 1 (.slice cwa x.sizes.length cwc)
        have g2 := grownBy_set ((wp3.setCell ⟨Ob, 0, none⟩ (.slice cva x.ids.length cvc)).setCell ⟨Ob, 1, none⟩ (.slice cwa x.sizes.length cwc)) Ob 2 (.slice none 0 0)
        have h3 := h2.set 2 (.slice none 0 0)
        exact ⟨Ob, cva, cvc, cwa, cwc, rfl, h3, HOBL.out, owns_kept_has (owns_kept_has (owns_kept_has HCV.out HOB.out (by decide) g0) h1 (by decide) g1) h2 (by decide) g2, owns_kept_has (owns_kept_has (owns_kept_has HCW.out HOB.out (by decide) g0) h1 (by decide) g1) h2 (by decide) g2, HNE.out, ((HALL.out.setCell (p := ⟨Ob, 0, none⟩) HOBL.out _).setCell (p := ⟨Ob, 1, none⟩) HOBL.out _).setCell (p := ⟨Ob, 2, none⟩) HOBL.out _⟩
    · skip
      go_simp
      have hbp1 : Below wd.heap.size wd (wd.alloc (.cells #[.slice none 0 0, .slice none 0 0, .slice none 0 0] 29)) := (Below.refl _ _).alloc (Nat.le_refl _) _
      have hob := Has.new wd #[.slice none 0 0, .slice none 0 0, .slice none 0 0] 29
      have hobl : w0.heap.size ≤ wd.heap.size := hall0.size
      generalize hW1 : wd.alloc (.cells #[.slice none 0 0, .slice none 0 0, .slice none 0 0] 29) = wp1 at *
      have hall1 := below_up hall0 hbp1 hall0.size
      have hS1 : wp1.cell? ⟨Xb, 0, none⟩ = some iv ∧ wp1.cell? ⟨Xb, 1, none⟩ = some sv := ⟨(below_cell hall1 hXl).trans x0, (below_cell hall1 hXl).trans x1⟩
      refine hK.out _ _ (fun _ => hS1) ?_
      clear hK
      try simp only [List.setIfInBounds_toArray, List.set_cons_zero, List.set_cons_succ, Act.put]
      generalize hOb : wd.heap.size = Ob
      rw [hOb] at hob hobl
      clear hOb
      refine oneT (i := 2) rfl (by kernel_rfl) (fun K hK => ?_)
      go_simp
      refine (cloneI iv x.ids wp1 (HIV.out.below hall1) (by omega)).mono ?_
      rintro e wp2 ⟨⟨cv, rfl, hcv⟩, hbp2⟩
      obtain ⟨cva, cvc, hcvs⟩ := owns_slice hcv
      subst hcvs
      replace hob := hob.below hbp2 hob.lt
      have hall2 := below_up hall1 hbp2 hall1.size
      have hS2 : wp2.cell? ⟨Xb, 0, none⟩ = some iv ∧ wp2.cell? ⟨Xb, 1, none⟩ = some sv := ⟨(below_cell hall2 hXl).trans x0, (below_cell hall2 hXl).trans x1⟩
      refine hK.out _ _ (fun _ => hS2) ?_
      clear hK
      try simp only [List.setIfInBounds_toArray, List.set_cons_zero, List.set_cons_succ, Act.put]
      replace hcv := owns_base hcv hall1.size
      refine oneT (i := 5) rfl (by kernel_rfl) (fun K hK => ?_)
      go_simp
      refine (cloneI sv x.sizes wp2 (HSV.out.below hall2) (by omega)).mono ?_
      rintro e wp3 ⟨⟨cw, rfl, hcw⟩, hbp3⟩
      obtain ⟨cwa, cwc, hcws⟩ := owns_slice hcw
      subst hcws
      have hne : NE (.slice cva x.ids.length cvc) (.slice cwa x.sizes.length cwc) := by
        cases hq : (Value.slice cva x.ids.length cvc).ownBlock with
        | none => exact .inl hq
        | some k =>
          cases hq2 : (Value.slice cwa x.sizes.length cwc).ownBlock with
          | none => exact .inr (.inl hq2)
          | some k2 =>
            refine .inr (.inr ?_)
            have h1 := (hcv.lt k hq).2
            have h2 := (hcw.lt k2 hq2).1
            rw [hq, hq2]
            simp only [ne_eq, Option.some.injEq]
            omega
      replace hcv := owns_below hcv hbp3
      replace hob := hob.below hbp3 hob.lt
      have hall3 := below_up hall2 hbp3 hall2.size
      have hS3 : wp3.cell? ⟨Xb, 0, none⟩ = some iv ∧ wp3.cell? ⟨Xb, 1, none⟩ = some sv := ⟨(below_cell hall3 hXl).trans x0, (below_cell hall3 hXl).trans x1⟩
      refine hK.out _ _ (fun _ => hS3) ?_
      clear hK
      try simp only [List.setIfInBounds_toArray, List.set_cons_zero, List.set_cons_succ, Act.put]
      replace hcw := owns_base hcw hall2.size
      refine takeT (i := 6) (v := ?_) rfl rfl (by kernel_rfl) (by kernel_rfl) (by kernel_rfl) (fun _ _ _ h => h) (by decide) (by kernel_rfl) (by kernel_rfl) ?_ hS3 ?_
      rotate_left
      · intro w hSw; (try dsimp only at hSw); go_simp; (try with_reducible rfl)
      simp only [List.setIfInBounds_toArray, List.set_cons_zero, List.set_cons_succ]
      have q0 := hob.cell 0
      have q1 := hob.cell 1
      have q2 := hob.cell 2
      have p0 := hob.fz 0
      have p1 := hob.fz 1
      have p2 := hob.fz 2
      have HOB := Lib.hid hob
      have HCV := Lib.hid hcv
      have HCW := Lib.hid hcw
      have HALL := Lib.hid hall3
      have HNE := Lib.hid hne
      have HOBL := Lib.hid hobl
      clear hob hcv hcw hne hobl
      refine oneT (i := 8) rfl (by kernel_rfl) (fun K hK => ?_)
      go_simp
      refine hK.out _ _ (fun q => absurd rfl q) ?_
      refine doneT (by kernel_rfl) ?_ _
      clear hK
      go_wp2_with fail
      go_meet
      have g0 := grownBy_set wp3 Ob 0 (.slice cva x.ids.length cvc)
      have h1 := HOB.out.set 0 (.slice cva x.ids.length cvc)
      have g1 := grownBy_set (wp3.setCell ⟨Ob, 0, none⟩ (.slice cva x.ids.length cvc)) Ob 1 (.slice cwa x.sizes.length cwc)
      have h2 := h1.set 1 (.slice cwa x.sizes.length cwc)
      have g2 := grownBy_set ((wp3.setCell ⟨Ob, 0, none⟩ (.slice cva x.ids.length cvc)).setCell ⟨Ob, 1, none⟩ (.slice cwa x.sizes.length cwc)) Ob 2 (.slice none 0 0)
      have h3 := h2.set 2 (.slice none 0 0)
      exact ⟨Ob, cva, cvc, cwa, cwc, rfl, h3, HOBL.out, owns_kept_has (owns_kept_has (owns_kept_has HCV.out HOB.out (by decide) g0) h1 (by decide) g1) h2 (by decide) g2, owns_kept_has (owns_kept_has (owns_kept_has HCW.out HOB.out (by decide) g0) h1 (by decide) g1) h2 (by decide) g2, HNE.out, ((HALL.out.setCell (p := ⟨Ob, 0, none⟩) HOBL.out _).setCell (p := ⟨Ob, 1, none⟩) HOBL.out _).setCell (p := ⟨Ob, 2, none⟩) HOBL.out _⟩
  case rest =>
    obtain ⟨Ob, cva, cvc, cwa, cwc, rfl, hob, hobl, hcv, hcw, hne, hbc⟩ := hcut
    have HCV := Lib.hid hcv
    have HCW := Lib.hid hcw
    have HNE := Lib.hid hne
    have HOB := Lib.hid hob
    have hBW := HB1.out.trans (hbc.mono hB0s)
    have HBW := Lib.hid hBW
    have hBc : w.heap.size ≤ wc.heap.size := hBW.size
    have hOlow : w.heap.size ≤ Ob := Nat.le_trans hB0s hobl
    have HXB := Lib.hid (HM1.out.below hbc HM1.out.lt)
    have HRB := Lib.hid (HK1.out.below hbc HK1.out.lt)
    have hOX : Ob ≠ Xb := by omega
    have hOR : Ob ≠ Rb := by have := HK1.out.lt; omega
    have o0 : wc.cell? ⟨Ob, 0, none⟩ = some (.slice cva x.ids.length cvc) := hob.cell 0
    have hasc : x.ids.Pairwise (· ≤ ·) := by
      rw [HX.out.ids]
      exact List.pairwise_map.2 (HE.out.imp fun {a b} h => Int.le_of_lt h)
    have HASC := Lib.hid hasc
    obtain ⟨kk, hkk0⟩ : ∃ kk, kk = x.ids.countP (· < id) := ⟨_, rfl⟩
    obtain ⟨qb, hqb⟩ : ∃ qb : Bool, qb = x.ids.contains id := ⟨_, rfl⟩
    have o1 := out_lists HE.out id (·.1)
    have o2 := out_lists HE.out id szF
    rw [← HX.out.ids, ← hkk0, ← hqb] at o1
    rw [← HX.out.ids, ← HX.out.sizes, ← hkk0, ← hqb] at o2
    have HO1 := Lib.hid o1
    have HO2 := Lib.hid o2
    have hkl : qb = true → kk < x.ids.length := fun g => by
      rw [hkk0]
      refine Nat.lt_of_le_of_ne List.countP_le_length fun e => ?_
      rw [hqb] at g
      have := List.countP_eq_length.1 e id (List.contains_iff_mem.1 g)
      simp at this
    have HKL := Lib.hid hkl
    have HKK := Lib.hid hkk0
    have HQB := Lib.hid hqb
    have hslen : x.sizes.length = x.ids.length := by rw [HX.out.sizes, HX.out.ids, List.length_map, List.length_map]
    have HSLEN := Lib.hid hslen
    clear hcv hcw hne hob hBW hasc hkk0 hqb o1 o2 hkl hslen hbc x0 x1
    go_wp2_with fail
    refine (binI (.slice cva x.ids.length cvc) x.ids id wc (IntsAt.of_own HCV.out) (by omega) HASC.out).mono ?_
    rintro e w3 ⟨rfl, hb3⟩
    rw [← HKK.out, ← HQB.out]
    have HOB3 := Lib.hid (HOB.out.below hb3 HOB.out.lt)
    have HCV3 := Lib.hid (owns_below HCV.out hb3)
    have HCW3 := Lib.hid (owns_below HCW.out hb3)
    have HXB3 := Lib.hid (HXB.out.below hb3 HXB.out.lt)
    have HRB3 := Lib.hid (HRB.out.below hb3 HRB.out.lt)
    have HBW3 := Lib.hid (HBW.out.trans (hb3.mono hBc))
    have hB3 : w.heap.size ≤ w3.heap.size := HBW3.out.size
    clear hb3 o0 HOB HCV HCW HXB HRB HBW hBc
    go_upto_if 27 with fail
    go_cut [] from 28 to 41 (fun wx => ∃ iv2 sv2, Has wx Ob #[iv2, sv2, .slice none 0 0] 29 ∧ IntsAt wx iv2 ((outE id E).map (·.1)) ∧ IntsAt wx sv2 ((outE id E).map szF) ∧ Has wx Xb #[iv, sv, tv] 29 ∧ Has wx Rb #[.slice none 0 0, .slice none 0 0, .slice none 0 0] 29 ∧ Below w.heap.size w wx)
    case first =>
      cases qb with
      | false =>
        have h1 := HO1.out
        have h2 := HO2.out
        rw [if_neg (by decide)] at h1 h2
        have H1 := Lib.hid h1
        have H2 := Lib.hid h2
        clear h1 h2
        go_wp2_with fail
        go_meet
        exact ⟨_, _, HOB3.out, by rw [H1.out]; exact IntsAt.of_own HCV3.out, by rw [H2.out]; exact IntsAt.of_own HCW3.out, HXB3.out, HRB3.out, HBW3.out⟩
      | true =>
        have h1 := HO1.out
        have h2 := HO2.out
        rw [if_pos rfl] at h1 h2
        have H1 := Lib.hid h1
        have H2 := Lib.hid h2
        have hkk := HKL.out rfl
        have HD1 := Lib.hid (show Calls Try.prog 40 #[.slice cva x.ids.length cvc, .int .i64 kk, .int .i64 ((kk : Int) + 1)] w3 _ from delI w0.heap.size (.slice cva x.ids.length cvc) x.ids kk w3 HCV3.out hkk)
        have o0 : w3.cell? ⟨Ob, 0, none⟩ = some (.slice cva x.ids.length cvc) := HOB3.out.cell 0
        have hwr : IntKind.i64.wrap ((kk : Int) + 1) = (kk : Int) + 1 := by rw [IntWalk.i64_in _ (by omega)]
        clear h1 h2
        go_wp2_with fail
        refine HD1.out.mono ?_
        rintro e w4 ⟨⟨dv, rfl, hd1, hdb⟩, hg4⟩
        obtain ⟨da, dn, dc, hds⟩ : ∃ da dn dc, dv = .slice da dn dc := by
          obtain ⟨a1, c1, e1⟩ := SliceAt.len hd1.1
          exact ⟨_, _, _, e1⟩
        subst hds
        have hob4 := HOB3.out.kept_own HCV3.out (by decide) hg4
        have hcw4 := HCW3.out.kept hg4 HNE.out.far
        have hbw4 := HBW3.out.grown hg4 hB3 (fun q hq => Nat.le_trans hB0s (HCV3.out.lt q hq).1)
        have HXB4 := Lib.hid (HXB3.out.kept_own HCV3.out (by decide) hg4)
        have HRB4 := Lib.hid (HRB3.out.kept_own HCV3.out (by decide) hg4)
        have y0 := hob4.cell 0
        have z0 := hob4.fz 0
        have HOB4 := Lib.hid hob4
        have HCW4 := Lib.hid hcw4
        have HBW4 := Lib.hid hbw4
        have HD4 := Lib.hid hd1
        have HDB := Lib.hid hdb
        clear hob4 hcw4 hbw4 hd1 hg4 o0 hdb
        go_upto_region 5 with fail
        have hro := RowOther.of_has HOB4.out (by decide) (by decide) (by decide)
        have hgs := grownBy_set w4 Ob 0 (.slice da dn dc)
        have hob5 := HOB4.out.set 0 (.slice da dn dc)
        have HD5 := Lib.hid (HD4.out.other hro hgs)
        have HCW5 := Lib.hid (owns_kept_has HCW4.out HOB4.out (by decide) hgs)
        have HXB5 := Lib.hid (HXB4.out.set_other 0 (.slice da dn dc) (Ne.symm hOX))
        have HRB5 := Lib.hid (HRB4.out.set_other 0 (.slice da dn dc) (Ne.symm hOR))
        have HBW5 := Lib.hid (HBW4.out.setCell (p := ⟨Ob, 0, none⟩) hOlow (.slice da dn dc))
        generalize w4.setCell ⟨Ob, 0, none⟩ (.slice da dn dc) = w5 at *
        have hob5 : Has w5 Ob #[.slice da dn dc, .slice cwa x.sizes.length cwc, .slice none 0 0] 29 := hob5
        have HOB5 := Lib.hid hob5
        have o1 : w5.cell? ⟨Ob, 1, none⟩ = some (.slice cwa x.sizes.length cwc) := hob5.cell 1
        have HDD := Lib.hid (show Calls Try.prog 40 #[.slice cwa x.sizes.length cwc, .int .i64 kk, .int .i64 ((kk : Int) + 1)] w5 _ from delI w0.heap.size (.slice cwa x.sizes.length cwc) x.sizes kk w5 HCW5.out (by rw [HSLEN.out]; exact hkk))
        have hB5 : w.heap.size ≤ w5.heap.size := HBW5.out.size
        clear hro hgs hob5 y0 z0 HOB4 HD4 HXB4 HRB4 HBW4
        go_wp2_with fail
        refine HDD.out.mono ?_
        rintro e w6 ⟨⟨dv, rfl, hd2, hdb⟩, hg6⟩
        obtain ⟨fa, fn, fc, hds⟩ : ∃ fa fn fc, dv = .slice fa fn fc := by
          obtain ⟨a1, c1, e1⟩ := SliceAt.len hd2.1
          exact ⟨_, _, _, e1⟩
        subst hds
        have hob6 := HOB5.out.kept_own HCW5.out (by decide) hg6
        have y1 := hob6.cell 1
        have z1 := hob6.fz 1
        have HOB6 := Lib.hid hob6
        have HBW6 := Lib.hid (HBW5.out.grown hg6 hB5 (fun q hq => Nat.le_trans hB0s (HCW5.out.lt q hq).1))
        have HXB6 := Lib.hid (HXB5.out.kept_own HCW5.out (by decide) hg6)
        have HRB6 := Lib.hid (HRB5.out.kept_own HCW5.out (by decide) hg6)
        have HD6 := Lib.hid hd2
        have HG6 := Lib.hid hg6
        clear hob6 hd2 hg6 o1 hdb
        go_wp2_with fail
        go_meet
        have hro := RowOther.of_has HOB6.out (by decide) (by decide) (by decide)
        have hgs := grownBy_set w6 Ob 1 (.slice fa fn fc)
        refine ⟨_, _, HOB6.out.set 1 (.slice fa fn fc), ?_, ?_, HXB6.out.set_other 1 _ (Ne.symm hOX), HRB6.out.set_other 1 _ (Ne.symm hOR), HBW6.out.setCell (p := ⟨Ob, 1, none⟩) hOlow _⟩
        · rw [H1.out]
          exact (HD5.out.kept HG6.out (HNE.out.off HDB.out)).other hro hgs
        · rw [H2.out]
          exact HD6.out.other hro hgs
    case rest =>
      obtain ⟨iv2, sv2, hob, hids, hsizes, hxb, hrb, hbw⟩ := hcut
      obtain ⟨ia, inn, ic, hie⟩ : ∃ ia inn ic, iv2 = .slice ia inn ic := by
        obtain ⟨a1, c1, e1⟩ := SliceAt.len hids.1
        exact ⟨_, _, _, e1⟩
      obtain ⟨sa, sn, sc, hse⟩ : ∃ sa sn sc, sv2 = .slice sa sn sc := by
        obtain ⟨a1, c1, e1⟩ := SliceAt.len hsizes.1
        exact ⟨_, _, _, e1⟩
      subst hie hse
      obtain ⟨ta, tc, htv⟩ := TmL.len H.out.terms
      subst htv
      have HI0 := Lib.hid (show WoO w wc Xb Rb Ob iv sv (.slice ta x.terms.length tc) (.slice ia inn ic) (.slice sa sn sc) ((outE id E).map (·.1)) ((outE id E).map szF) x id 0 (.slice none 0 0) [] from ⟨hxb, hrb, hob, hids, hsizes, World.ownsRow_nil _ _ _ _, rfl, fun y hy => (by cases hy), hbw⟩)
      have x2 : wc.cell? ⟨Xb, 2, none⟩ = some (.slice ta x.terms.length tc) := hxb.cell 2
      clear hob hids hsizes hxb hrb hbw
      go_wp2_with fail
      clear x2
      go_loopw [45] (fun qv wr => ∃ i : Nat, ∃ ov A, qv = .int .i64 ((i : Nat) : Int) ∧ i ≤ x.terms.length ∧ WoO w wr Xb Rb Ob iv sv (.slice ta x.terms.length tc) (.slice ia inn ic) (.slice sa sn sc) ((outE id E).map (·.1)) ((outE id E).map szF) x id i ov A) (fun qv _ => x.terms.length - (intOf qv).toNat)
      case atStart => exact ⟨0, _, _, rfl, Nat.zero_le _, HI0.out⟩
      case round =>
        clear HI0
        obtain ⟨i, ov, A, rfl, hi, hI⟩ := hrel
        have HI := Lib.hid hI
        have hBr : w.heap.size ≤ wr.heap.size := hI.below.size
        clear hI
        by_cases hlt : i < x.terms.length
        · obtain ⟨bt, ot, ct, htv, hct, hbl0, hel⟩ := TmL.at ((H.out.below HI.out.below).terms) (by omega)
          simp only [Value.slice.injEq] at htv
          obtain ⟨rfl, _, rfl⟩ := htv
          obtain ⟨lx, c0, c1, hlx⟩ := hel i hlt
          obtain ⟨tt, htt⟩ : ∃ tt, tt = x.terms[i] := ⟨_, rfl⟩
          rw [← htt] at c0 hlx
          obtain ⟨la, lc, hle⟩ := PoL.len hlx
          subst hle
          obtain ⟨l, hll⟩ : ∃ l, l = tt.2 := ⟨_, rfl⟩
          rw [← hll] at hlx c1
          have hlm : l.length ≤ 1000 := by
            rw [hll, htt, (HX.out.mem (List.getElem_mem hlt)).1]
            exact Nat.le_trans (listF_len E _) hl
          have hpos : ∀ p ∈ l, p.2.1.length ≤ 1000000 ∧ p.2.2.length ≤ 1000000 := fun p hp => HPO.out tt (by rw [htt]; exact List.getElem_mem hlt) p (by rw [← hll]; exact hp)
          have hbt : Below wr.heap.size wr (wr.alloc (.cells #[.string (bs tt.1), .slice la l.length lc] 54)) := (Below.refl _ _).alloc (Nat.le_refl _) _
          have hbx := Has.new wr #[.string (bs tt.1), .slice la l.length lc] 54
          have HW2 := Lib.hid (HI.out.down hbt hBr)
          have HBT := Lib.hid hbt
          have HBX := Lib.hid hbx
          have HPL := Lib.hid (hlx.below hbt)
          have HTT := Lib.hid htt
          have HLL := Lib.hid hll
          have HPOS := Lib.hid hpos
          clear hel hlx hbt hpos htt hll
          go_upto_region 9 with fail
          obtain ⟨Tb, hTb⟩ : ∃ Tb, Tb = wr.heap.size := ⟨_, rfl⟩
          rw [← hTb] at hbx ⊢
          clear hTb
          have hBr2 : w.heap.size ≤ (wr.alloc (.cells #[.string (bs tt.1), .slice la l.length lc] 54)).heap.size := Nat.le_trans hBr HBT.out.size
          generalize wr.alloc (.cells #[.string (bs tt.1), .slice la l.length lc] 54) = w2 at *
          clear c0 c1 HBX HBT
          have HBX := Lib.hid hbx
          have t1 := hbx.cell 1
          obtain ⟨B0, hB0⟩ : ∃ B0, B0 = w2.heap.size := ⟨_, rfl⟩
          have HB0 := Lib.hid hB0
          have HJ0 := Lib.hid (show WoI w2 w2 B0 id l 0 (.slice none 0 0) [] from ⟨World.ownsRow_nil _ _ _ _, rfl, fun y hy => (by cases hy), Below.refl _ _⟩)
          clear hB0 hbx
          go_wp2_with fail
          clear t1
          go_loopw [10, 52] (fun pv qv wi => ∃ j : Nat, ∃ C, qv = .int .i64 ((j : Nat) : Int) ∧ j ≤ l.length ∧ WoI w2 wi B0 id l j pv C) (fun _ qv _ => l.length - (intOf qv).toNat)
          case atStart => exact ⟨0, [], rfl, Nat.zero_le _, HJ0.out⟩
          case round =>
            clear HJ0
            obtain ⟨j, C, rfl, hj, hJ⟩ := hrel
            have HJ := Lib.hid hJ
            have hBi : B0 ≤ wr.heap.size := by rw [HB0.out]; exact hJ.below.size
            obtain ⟨pa, pc, hpv⟩ := owns_slice hJ.own
            subst hpv
            have hCl : C.length ≤ 1000 := by
              have h1 := congrArg List.length hJ.eq
              rw [List.length_map] at h1
              have h2 : (keepP id (l.take j)).length ≤ (l.take j).length := List.length_filter_le _ _
              rw [List.length_take] at h2
              omega
            clear hJ
            by_cases hjl : j < l.length
            · obtain ⟨bp, op, cp, hpv, _, hbp, hel⟩ := PoL.at HPL.out (by omega)
              simp only [Value.slice.injEq] at hpv
              obtain ⟨rfl, _, rfl⟩ := hpv
              obtain ⟨ptv, pbv, ⟨e0, e1, e2⟩, hpt, hpb⟩ := hel j hjl
              have hbw2 : Below w2.heap.size w2 wr := by have := HJ.out.below; rw [HB0.out] at this; exact this
              have c0 := (below_cell hbw2 hbp).trans e0
              have c1 := (below_cell hbw2 hbp).trans e1
              have c2 := (below_cell hbw2 hbp).trans e2
              obtain ⟨p, hp⟩ : ∃ p, p = l[j] := ⟨_, rfl⟩
              rw [← hp] at c0 hpt hpb
              have hppos := HPOS.out p (by rw [hp]; exact List.getElem_mem _)
              obtain ⟨pid, hpid⟩ : ∃ pid, pid = p.1 := ⟨_, rfl⟩
              rw [← hpid] at c0
              have HP := Lib.hid hp
              have HPID := Lib.hid hpid
              obtain ⟨q1a, q1n, q1c, hq1⟩ : ∃ a n c, ptv = .slice a n c := by
                obtain ⟨a1, c1, e1⟩ := SliceAt.len hpt.1
                exact ⟨_, _, _, e1⟩
              obtain ⟨q2a, q2n, q2c, hq2⟩ : ∃ a n c, pbv = .slice a n c := by
                obtain ⟨a1, c1, e1⟩ := SliceAt.len hpb.1
                exact ⟨_, _, _, e1⟩
              subst hq1 hq2
              have hbn : Below wr.heap.size wr (wr.alloc (.cells #[.int .i64 pid, .slice q1a q1n q1c, .slice q2a q2n q2c] 57)) := (Below.refl _ _).alloc (Nat.le_refl _) _
              have hpx := Has.new wr #[.int .i64 pid, .slice q1a q1n q1c, .slice q2a q2n q2c] 57
              have HPT := Lib.hid ((hpt.below hbw2).below hbn)
              have HPV := Lib.hid ((hpb.below hbw2).below hbn)
              have HOC := Lib.hid (owns_below HJ.out.own hbn)
              have HBN0 := Lib.hid hbn
              have hPne : some wr.heap.size ≠ (Value.slice pa C.length pc).ownBlock := fun q => by
                have := (HJ.out.own.lt _ q.symm).2
                omega
              have p0 := hpx.cell 0
              have p1 := hpx.cell 1
              have p2 := hpx.cell 2
              have hPl := hpx.lt
              have hB5 : B0 ≤ (wr.alloc (.cells #[.int .i64 pid, .slice q1a q1n q1c, .slice q2a q2n q2c] 57)).heap.size := Nat.le_trans hBi hbn.size
              have hpt8 : p.2.1.length * 8 ≤ 140737488355328 := by omega
              have hpb8 : p.2.2.length * 8 ≤ 140737488355328 := by omega
              clear hel e0 e1 e2 hpt hpb hbw2 hp hpid hbn hpx
              go_upto_region 13 with fail
              clear c0 c1 c2
              obtain ⟨Pb, hPb⟩ : ∃ Pb, Pb = wr.heap.size := ⟨_, rfl⟩
              rw [← hPb] at hPne p0 p1 p2 hPl ⊢
              clear hPb
              generalize wr.alloc (.cells #[.int .i64 pid, .slice q1a q1n q1c, .slice q2a q2n q2c] 57) = w5 at *
              by_cases hid : pid = id
              · have q0 : (pid != id) = false := by simpa using hid
                have HID := Lib.hid hid
                clear hid
                go_wp2_with fail
                go_roundw
                case rel =>
                  refine ⟨j + 1, C, by go_num, hjl, HOC.out, ?_, fun y hy => (HJ.out.at' y hy).below ?_, HJ.out.below.trans ?_⟩
                  · rw [HJ.out.eq, keepP_next id hjl, ← HP.out, ← HPID.out, if_pos HID.out, List.append_nil]
                  · exact HBN0.out
                  · exact HBN0.out.mono hBi
                case measure => simp [intOf]; omega
              · have q0 : (pid != id) = true := by simpa using hid
                have HID := Lib.hid hid
                clear hid
                go_upto_region 14 with fail
                refine anyT_start (S := fun W : World => W.cell? ⟨Pb, 0, none⟩ = some (.int .i64 pid) ∧ W.cell? ⟨Pb, 1, none⟩ = some (.slice q1a q1n q1c) ∧ W.cell? ⟨Pb, 2, none⟩ = some (.slice q2a q2n q2c)) (t := 13) (by kernel_rfl) ?_
                have hall0 := (Below.refl w5.heap.size w5).drew
                have hS0 : w5.drew.cell? ⟨Pb, 0, none⟩ = some (.int .i64 pid) ∧ w5.drew.cell? ⟨Pb, 1, none⟩ = some (.slice q1a q1n q1c) ∧ w5.drew.cell? ⟨Pb, 2, none⟩ = some (.slice q2a q2n q2c) := ⟨p0, p1, p2⟩
                generalize w5.drew = wd at *
                refine takeS (i := 0) (v := ?_) rfl rfl (by kernel_rfl) (by kernel_rfl) (by kernel_rfl) (fun _ _ _ h => h) (by decide) (by kernel_rfl) ?_ hS0 ?_
                rotate_left
                · intro w hSw; (try dsimp only at hSw); go_simp; (try with_reducible rfl)
                simp only [List.setIfInBounds_toArray, List.set_cons_zero, List.set_cons_succ]
                refine takeS (i := 1) (v := ?_) rfl rfl (by kernel_rfl) (by kernel_rfl) (by kernel_rfl) (fun _ _ _ h => h) (by decide) (by kernel_rfl) ?_ hS0 ?_
                rotate_left
                · intro w hSw; (try dsimp only at hSw); go_simp; (try with_reducible rfl)
                simp only [List.setIfInBounds_toArray, List.set_cons_zero, List.set_cons_succ]
                refine takeS (i := 2) (v := ?_) rfl rfl (by kernel_rfl) (by kernel_rfl) (by kernel_rfl) (fun _ _ _ h => h) (by decide) (by kernel_rfl) ?_ hS0 ?_
                rotate_left
                · intro w hSw; (try dsimp only at hSw); go_simp; (try with_reducible rfl)
                simp only [List.setIfInBounds_toArray, List.set_cons_zero, List.set_cons_succ]
                refine takeS (i := 3) (v := ?_) rfl rfl (by kernel_rfl) (by kernel_rfl) (by kernel_rfl) (fun _ _ _ h => h) (by decide) (by kernel_rfl) ?_ hS0 ?_
                rotate_left
                · intro w hSw; (try dsimp only at hSw); go_simp; (try with_reducible rfl)
                simp only [List.setIfInBounds_toArray, List.set_cons_zero, List.set_cons_succ]
                refine takeS (i := 4) (v := ?_) rfl rfl (by kernel_rfl) (by kernel_rfl) (by kernel_rfl) (fun _ _ _ h => h) (by decide) (by kernel_rfl) ?_ hS0 ?_
                rotate_left
                · intro w hSw; (try dsimp only at hSw); go_simp; (try with_reducible rfl)
                simp only [List.setIfInBounds_toArray, List.set_cons_zero, List.set_cons_succ]
                refine takeS (i := 6) (v := ?_) rfl rfl (by kernel_rfl) (by kernel_rfl) (by kernel_rfl) (fun _ _ _ h => h) (by decide) (by kernel_rfl) ?_ hS0 ?_
                rotate_left
                · intro w hSw; (try dsimp only at hSw); go_simp; (try with_reducible rfl)
                simp only [List.setIfInBounds_toArray, List.set_cons_zero, List.set_cons_succ]
                refine takeS (i := 7) (v := ?_) rfl rfl (by kernel_rfl) (by kernel_rfl) (by kernel_rfl) (fun _ _ _ h => h) (by decide) (by kernel_rfl) ?_ hS0 ?_
                rotate_left
                · intro w hSw; (try dsimp only at hSw); go_simp; (try with_reducible rfl)
                simp only [List.setIfInBounds_toArray, List.set_cons_zero, List.set_cons_succ]
                refine oneT (i := 5) rfl (by kernel_rfl) (fun K hK => ?_)
                go_simp
                refine (cloneI (.slice q1a q1n q1c) p.2.1 wd (HPT.out.below hall0) hpt8).mono ?_
                rintro e wa ⟨⟨cv, rfl, hcv⟩, hba⟩
                obtain ⟨cva, cvc, hcvs⟩ := owns_slice hcv
                subst hcvs
                have hall1 := below_up hall0 hba hall0.size
                have hS1 : wa.cell? ⟨Pb, 0, none⟩ = some (.int .i64 pid) ∧ wa.cell? ⟨Pb, 1, none⟩ = some (.slice q1a q1n q1c) ∧ wa.cell? ⟨Pb, 2, none⟩ = some (.slice q2a q2n q2c) := ⟨(below_cell hall1 hPl).trans p0, (below_cell hall1 hPl).trans p1, (below_cell hall1 hPl).trans p2⟩
                refine hK.out _ _ (fun _ => hS1) ?_
                clear hK
                try simp only [List.setIfInBounds_toArray, List.set_cons_zero, List.set_cons_succ, Act.put]
                refine oneT (i := 8) rfl (by kernel_rfl) (fun K hK => ?_)
                go_simp
                refine (cloneI (.slice q2a q2n q2c) p.2.2 wa (HPV.out.below hall1) hpb8).mono ?_
                rintro e wb ⟨⟨cw, rfl, hcw⟩, hbb⟩
                obtain ⟨cwa, cwc, hcws⟩ := owns_slice hcw
                subst hcws
                have hall2 := below_up hall1 hbb hall1.size
                have hS2 : wb.cell? ⟨Pb, 0, none⟩ = some (.int .i64 pid) ∧ wb.cell? ⟨Pb, 1, none⟩ = some (.slice q1a q1n q1c) ∧ wb.cell? ⟨Pb, 2, none⟩ = some (.slice q2a q2n q2c) := ⟨(below_cell hall2 hPl).trans p0, (below_cell hall2 hPl).trans p1, (below_cell hall2 hPl).trans p2⟩
                have HCV := Lib.hid (IntsAt.of_own (owns_below hcv hbb))
                have HCW := Lib.hid (IntsAt.of_own hcw)
                have HOW := Lib.hid (owns_below HOC.out hall2)
                have HALL := Lib.hid hall2
                have hBb : B0 ≤ wb.heap.size := Nat.le_trans hB5 hall2.size
                refine hK.out _ _ (fun _ => hS2) ?_
                clear hK hall0 hall1 hall2 hcv hcw hba hbb hS0 hS1
                try simp only [List.setIfInBounds_toArray, List.set_cons_zero, List.set_cons_succ, Act.put]
                refine takeS (i := 9) (v := ?_) rfl rfl (by kernel_rfl) (by kernel_rfl) (by kernel_rfl) (fun _ _ _ h => h) (by decide) (by kernel_rfl) ?_ hS2 ?_
                rotate_left
                · intro w hSw; (try dsimp only at hSw); go_simp; (try with_reducible rfl)
                simp only [List.setIfInBounds_toArray, List.set_cons_zero, List.set_cons_succ]
                refine oneT (i := 10) rfl (by kernel_rfl) (fun K hK => ?_)
                go_simp
                have hbn : Below wb.heap.size wb (wb.alloc (.cells #[.int .i64 pid, .slice cva p.2.1.length cvc, .slice cwa p.2.2.length cwc] 57)) := (Below.refl _ _).alloc (Nat.le_refl _) _
                have hS3 : (wb.alloc (.cells #[.int .i64 pid, .slice cva p.2.1.length cvc, .slice cwa p.2.2.length cwc] 57)).cell? ⟨Pb, 0, none⟩ = some (.int .i64 pid) ∧ (wb.alloc (.cells #[.int .i64 pid, .slice cva p.2.1.length cvc, .slice cwa p.2.2.length cwc] 57)).cell? ⟨Pb, 1, none⟩ = some (.slice q1a q1n q1c) ∧ (wb.alloc (.cells #[.int .i64 pid, .slice cva p.2.1.length cvc, .slice cwa p.2.2.length cwc] 57)).cell? ⟨Pb, 2, none⟩ = some (.slice q2a q2n q2c) := ⟨(below_cell hbn (Nat.lt_of_lt_of_le hPl HALL.out.size)).trans hS2.1, (below_cell hbn (Nat.lt_of_lt_of_le hPl HALL.out.size)).trans hS2.2.1, (below_cell hbn (Nat.lt_of_lt_of_le hPl HALL.out.size)).trans hS2.2.2⟩
                refine hK.out _ _ (fun _ => hS3) ?_
                clear hK
                try simp only [List.setIfInBounds_toArray, List.set_cons_zero, List.set_cons_succ, Act.put]
                obtain ⟨i0, hi0, hz0, hz1, hz2⟩ := info_parts infoPo
                refine oneT (i := 11) rfl (by kernel_rfl) (fun K hK => ?_)
                refine step_append_lies _ (by rfl) _ _ _ (by rfl) B0 57 i0 (.agg #[.int .i64 0, .slice none 0 0, .slice none 0 0]) 3 56 Try.underlying52 hi0 hz0 hz1 hz2 rfl (by omega) _ _ _ (by rfl) (HOW.out.alloc _) ⟨wb.heap.size, 0, none⟩ 1 1 [.int .i64 pid, .slice cva p.2.1.length cvc, .slice cwa p.2.2.length cwc] (by rfl) rfl (World.news_of_block (heap_alloc_new _ _)) (by simp [Value.oneCell']) (by first | omega | (unfold maxLen; omega) | (simp only; omega) | (simp only; unfold maxLen; omega)) (by first | omega | (unfold maxLen; omega) | (simp only; omega) | (simp only; unfold maxLen; omega)) (by first | omega | (unfold maxLen; omega) | (simp only; omega) | (simp only; unfold maxLen; omega)) (by simp; omega) (wb.heap.size + 1) (by simp) ?_
                intro g' c2 w8 hown8 hg8 hat8 hlt8
                have hg8 : (wb.alloc (.cells #[.int .i64 pid, .slice cva p.2.1.length cvc, .slice cwa p.2.2.length cwc] 57)).grownBy w8 (Value.slice pa C.length pc).ownBlock := hg8
                have hPb : Pb < (wb.alloc (.cells #[.int .i64 pid, .slice cva p.2.1.length cvc, .slice cwa p.2.2.length cwc] 57)).heap.size := Nat.lt_of_lt_of_le (Nat.lt_of_lt_of_le hPl HALL.out.size) hbn.size
                have hcc : ∀ o, w8.cell? ⟨Pb, o, none⟩ = (wb.alloc (.cells #[.int .i64 pid, .slice cva p.2.1.length cvc, .slice cwa p.2.2.length cwc] 57)).cell? ⟨Pb, o, none⟩ := fun o => by
                  have e := hg8.block Pb hPb hPne
                  simp only [World.cell?, e]
                have hS8 : w8.cell? ⟨Pb, 0, none⟩ = some (.int .i64 pid) ∧ w8.cell? ⟨Pb, 1, none⟩ = some (.slice q1a q1n q1c) ∧ w8.cell? ⟨Pb, 2, none⟩ = some (.slice q2a q2n q2c) := ⟨(hcc 0).trans hS3.1, (hcc 1).trans hS3.2.1, (hcc 2).trans hS3.2.2⟩
                have HBN := Lib.hid hbn
                have HO8 := Lib.hid hown8
                have HG8 := Lib.hid hg8
                refine hK.out _ _ (fun _ => hS8) ?_
                clear hK hown8 hg8 hat8 hlt8 hPb hcc hbn hS3 hi0 hz0 hz1 hz2
                try simp only [List.setIfInBounds_toArray, List.set_cons_zero, List.set_cons_succ, Act.put]
                refine oneT (i := 12) rfl (by kernel_rfl) (fun K hK => ?_)
                go_simp
                refine hK.out _ _ (fun _ => hS8) ?_
                clear hK
                try simp only [List.setIfInBounds_toArray, List.set_cons_zero, List.set_cons_succ, Act.put]
                refine doneT (by kernel_rfl) ?_ _
                go_wp2_with fail
                go_roundw
                case rel =>
                  refine ⟨j + 1, C ++ [(p, .slice cva p.2.1.length cvc, .slice cwa p.2.2.length cwc)], by go_num, hjl, ?_, ?_, fun y hy => ?_, ?_⟩
                  · have h := HO8.out
                    rw [List.length_append, List.flatMap_append]
                    rw [HPID.out] at h
                    simpa [encP] using h
                  · rw [List.map_append, HJ.out.eq, keepP_next id hjl, ← HP.out, ← HPID.out, if_neg HID.out]
                    rfl
                  · rcases List.mem_append.1 hy with hy | hy
                    · exact (((HJ.out.at' y hy).below (HBN0.out.trans (HALL.out.mono HBN0.out.size))).below HBN.out).kept_own (owns_below HOW.out HBN.out) (by decide) HG8.out
                    · rw [List.mem_singleton.1 hy]
                      exact PoMOk.kept_own (x := (p, .slice cva p.2.1.length cvc, .slice cwa p.2.2.length cwc)) ⟨HCV.out.below HBN.out, HCW.out.below HBN.out⟩ (owns_below HOW.out HBN.out) (by decide) HG8.out
                  · have h1 := (HJ.out.below.trans (HBN0.out.mono hBi)).trans ((HALL.out.mono hB5).trans (HBN.out.mono hBb))
                    exact h1.grown HG8.out (Nat.le_trans hBb HBN.out.size) (fun q hq => (HOW.out.lt q hq).1)
                case measure => simp [intOf]; omega
            · obtain rfl : j = l.length := by omega
              have hpl := HJ.out.done (Nat.le_refl _)
              have hCk : C.length = (keepP id l).length := by
                have h1 := congrArg List.length HJ.out.eq
                rw [List.length_map, List.take_length] at h1
                exact h1
              have hbw2 : Below w2.heap.size w2 wr := by have := HJ.out.below; rw [HB0.out] at this; exact this
              have hO := HW2.out.down hbw2 hBr2
              have hnx := outT_next id hlt
              rw [← HTT.out, ← HLL.out] at hnx
              have HNX := Lib.hid hnx
              have HO := Lib.hid hO
              have HPLL := Lib.hid hpl
              have t0 : wr.cell? ⟨Tb, 0, none⟩ = some (.string (bs tt.1)) := (below_cell hbw2 HBX.out.lt).trans (HBX.out.cell 0)
              have o2 : wr.cell? ⟨Ob, 2, none⟩ = some ov := hO.ob.cell 2
              have hBw : w.heap.size ≤ wr.heap.size := hO.below.size
              have hAl : A.length ≤ 100000000 := by
                have h1 := congrArg List.length hO.eq
                rw [List.length_map, outT_eq] at h1
                have h2 := List.length_filterMap_le (outT1 id) (x.terms.take i)
                rw [List.length_take] at h2
                omega
              clear hpl hbw2 hO hnx
              by_cases h0 : C.length = 0
              · have q0 : decide ((0 : Int) < (C.length : Int)) = false := decide_eq_false (by omega)
                have q0n : decide (0 < C.length) = false := decide_eq_false (by omega)
                have q0e : ¬ 0 < C.length := by omega
                have HK0 := Lib.hid (show keepP id l = [] from List.eq_nil_of_length_eq_zero (by omega))
                clear hCk h0
                go_wp2_with fail
                go_roundw
                case rel => exact ⟨i + 1, ov, A, by go_num, hlt, HO.out.xb, HO.out.rb, HO.out.ob, HO.out.ids, HO.out.sizes, HO.out.own, by rw [HO.out.eq, HNX.out, if_pos HK0.out, List.append_nil], HO.out.at', HO.out.below⟩
                case measure => simp [intOf]; omega
              · have q0 : decide ((0 : Int) < (C.length : Int)) = true := decide_eq_true (by omega)
                have q0n : decide (0 < C.length) = true := decide_eq_true (by omega)
                have HK0 := Lib.hid (show ¬ keepP id l = [] from fun e => by rw [e] at hCk; exact h0 hCk)
                clear hCk h0
                obtain ⟨va, vc, hov⟩ := owns_slice HO.out.own
                subst hov
                go_wp2_with (at_builtin; go_must (refine append_one rfl _ _ 27 rfl w.heap.size 54 (.agg #[.string ⟨#[]⟩, .slice none 0 0]) 2 40 Try.underlying27 infoTmT rfl (by decide) wr wr (.slice va A.length vc) A.length (A.flatMap encT) rfl HO.out.own [.string (bs tt.1), .slice pa C.length pc] rfl rfl rfl (by simp [Value.oneCell']) (by omega) (by omega) hBw (Below.refl _ _) ?_); intro v' w8 ho8 hb8 hg8 hnn; obtain ⟨na, nc, rfl⟩ := owns_slice ho8; have HO8 := Lib.hid ho8; have HG8 := Lib.hid hg8; have HB8 := Lib.hid hb8; have hob8 := HO.out.ob.kept_own HO.out.own (by decide) hg8; have HOB8 := Lib.hid hob8; have y2 := hob8.cell 2; have z2 := hob8.fz 2; clear ho8 hb8 hg8 hnn hob8 o2 t0)
                go_roundw
                case rel =>
                  have hro := RowOther.of_has HOB8.out (by decide) (by decide) (by decide)
                  have hgs := grownBy_set w8 Ob 2 (.slice na (A.length + 1) nc)
                  refine ⟨i + 1, _, A ++ [((tt.1, keepP id l), .slice pa C.length pc)], by go_num, hlt, ?_, ?_, HOB8.out.set 2 (.slice na (A.length + 1) nc), ?_, ?_, ?_, ?_, fun y hy => ?_, ?_⟩
                  · exact (HO.out.xb.kept_own HO.out.own (by decide) HG8.out).set_other 2 _ (Ne.symm hOX)
                  · exact (HO.out.rb.kept_own HO.out.own (by decide) HG8.out).set_other 2 _ (Ne.symm hOR)
                  · exact (HO.out.ids.kept_own HO.out.own (by decide) HG8.out).other hro hgs
                  · exact (HO.out.sizes.kept_own HO.out.own (by decide) HG8.out).other hro hgs
                  · have h := owns_kept_has HO8.out HOB8.out (by decide) hgs
                    rw [List.length_append, List.flatMap_append]
                    simpa [encT] using h
                  · rw [List.map_append, HO.out.eq, HNX.out, if_neg HK0.out]
                    rfl
                  · rcases List.mem_append.1 hy with hy | hy
                    · exact PoL.other (PoL.kept_own (HO.out.at' y hy) HO.out.own (by decide) (by decide) HG8.out) hro hgs
                    · rw [List.mem_singleton.1 hy]
                      exact PoL.other (PoL.kept_own HPLL.out HO.out.own (by decide) (by decide) HG8.out) hro hgs
                  · exact (HO.out.below.trans HB8.out).setCell (p := ⟨Ob, 2, none⟩) hOlow _
                case measure => simp [intOf]; omega
        · obtain rfl : i = x.terms.length := by omega
          obtain ⟨oa, oc, hov⟩ := owns_slice HI.out.own
          subst hov
          have o0 := HI.out.ob.cell 0
          have o1 := HI.out.ob.cell 1
          have o2 := HI.out.ob.cell 2
          have r0 := HI.out.rb.cell 0
          have r1 := HI.out.rb.cell 1
          have r2 := HI.out.rb.cell 2
          have s0 := HI.out.rb.fz 0
          have s1 := HI.out.rb.fz 1
          have s2 := HI.out.rb.fz 2
          have HRE := Lib.hid (((HI.out.rb.set 0 (.slice ia inn ic)).set 1 (.slice sa sn sc)).set 2 (.slice oa A.length oc))
          go_wp2_with fail
          refine bodyPost_ret (results_cell_row rfl _ _ Rb _ _ (0, 0) _ rfl HRE.out Try.underlying29 rfl infoIx) rfl ?_
          rw [← HQ.out]
          have hr0 := RowOther.of_has HI.out.rb (by decide) (by decide) (by decide)
          have g0 := grownBy_set wr Rb 0 (.slice ia inn ic)
          have h1 := HI.out.rb.set 0 (.slice ia inn ic)
          have hr1 := RowOther.of_has h1 (by decide) (by decide) (by decide)
          have g1 := grownBy_set (wr.setCell ⟨Rb, 0, none⟩ (.slice ia inn ic)) Rb 1 (.slice sa sn sc)
          have h2 := h1.set 1 (.slice sa sn sc)
          have hr2 := RowOther.of_has h2 (by decide) (by decide) (by decide)
          have g2 := grownBy_set ((wr.setCell ⟨Rb, 0, none⟩ (.slice ia inn ic)).setCell ⟨Rb, 1, none⟩ (.slice sa sn sc)) Rb 2 (.slice oa A.length oc)
          have htl : TmL wr (.slice oa A.length oc) (outT id x.terms) := ⟨A, by rw [HI.out.eq, List.take_length], ⟨rows_of_owns encT HI.out.own (fun _ => rfl), Typed.of_own HI.out.own⟩, HI.out.at'⟩
          have hix : IxAt wr (.slice ia inn ic) (.slice sa sn sc) (.slice oa A.length oc) ⟨(outE id E).map (·.1), (outE id E).map szF, outT id x.terms⟩ := ⟨HI.out.ids, HI.out.sizes, htl⟩
          exact ⟨⟨_, _, _, _, rfl, ((hix.other hr0 g0).other hr1 g1).other hr2 g2, without_ok HX.out id, by rw [outT_eq]; exact List.length_filterMap_le _ _⟩, ((HI.out.below.setCell (p := ⟨Rb, 0, none⟩) hRlow _).setCell (p := ⟨Rb, 1, none⟩) hRlow _).setCell (p := ⟨Rb, 2, none⟩) hRlow _⟩
end Go.Proofs.Ytfjcbclakgidkaa
