/- The walk of know.Drop, at a right index that has the entry. -/
import Derived.Test.YtfjcbclakgidkaaIaPut
namespace Go.Proofs.Ytfjcbclakgidkaa
open Go.RowKit

def DropPost (w : World) (E : List EnD) (id : Int) (e : Ending) (w' : World) : Prop :=
  (∃ iv sv tv x, e = .returned (.tuple #[.agg #[iv, sv, tv], .int .i64 0]) ∧ IxAt w' iv sv tv x ∧ IxOk (outE id E) x) ∧ Below w.heap.size w w'
set_option maxRecDepth 100000 in
set_option maxHeartbeats 8000000 in
theorem Drop_any (iv sv tv : Value) (x : IxD) (E : List EnD) (id : Int) (w : World) (h : IxAt w iv sv tv x) (hx : IxOk E x) (hE : OkE E) (hN : x.terms.length ≤ 40000000) (hid : ∃ u ∈ E, u.1 = id) :
    Calls Try.prog 12 #[.agg #[iv, sv, tv], .int .i64 id] w (DropPost w E id) := by
  obtain ⟨⟨ia, ic, hie⟩, ⟨sa, sc, hse⟩, ⟨ta, tc, hte⟩⟩ := h.forms
  obtain ⟨inn, hinn⟩ : ∃ n, n = x.ids.length := ⟨_, rfl⟩
  obtain ⟨sn, hsn⟩ : ∃ n, n = x.sizes.length := ⟨_, rfl⟩
  obtain ⟨tn, htn⟩ : ∃ n, n = x.terms.length := ⟨_, rfl⟩
  rw [← hinn] at hie
  rw [← hsn] at hse
  rw [← htn] at hte
  subst hie hse hte
  generalize hQ : DropPost w E id = Q
  have HQ := Lib.hid hQ
  have HX := Lib.hid hx
  have HE := Lib.hid hE
  have HN := Lib.hid hN
  have HPO := Lib.hid (pos_small hx hE)
  have hcon : x.ids.contains id = true := by
    rw [List.contains_iff_mem, hx.ids]
    obtain ⟨u, hu, e⟩ := hid
    exact List.mem_map.2 ⟨u, hu, e⟩
  have HCON := Lib.hid hcon
  have hasc : x.ids.Pairwise (· ≤ ·) := by
    rw [hx.ids]
    exact List.pairwise_map.2 (hE.asc.imp fun {a b} h => Int.le_of_lt h)
  have HASC := Lib.hid hasc
  have hil : x.ids.length ≤ 1000 := by rw [hx.ids, List.length_map]; have := hE.few; omega
  have HIL := Lib.hid hil
  obtain ⟨Xb, hXb⟩ : ∃ Xb, Xb = w.heap.size := ⟨_, rfl⟩
  have k0 := Has.new w #[.slice ia inn ic, .slice sa sn sc, .slice ta tn tc] 29
  have b0 : Below w.heap.size w (w.alloc (.cells #[.slice ia inn ic, .slice sa sn sc, .slice ta tn tc] 29)) := (Below.refl _ _).alloc (Nat.le_refl _) _
  have s0 : (w.alloc (.cells #[.slice ia inn ic, .slice sa sn sc, .slice ta tn tc] 29)).heap.size = w.heap.size + 1 := World.size_alloc _ _
  clear hQ hx hE hN hinn hsn htn hid hcon hasc hil
  go_enter Try.func12, Try.ntmps12
  go_upto_region 1 with fail
  generalize w.alloc (.cells #[.slice ia inn ic, .slice sa sn sc, .slice ta tn tc] 29) = w1 at *
  have k2 := Has.new w1 #[.slice none 0 0, .slice none 0 0, .slice none 0 0] 29
  have b2 := b0.alloc b0.size (.cells #[.slice none 0 0, .slice none 0 0, .slice none 0 0] 29)
  have m2 := k0.alloc (.cells #[.slice none 0 0, .slice none 0 0, .slice none 0 0] 29)
  generalize w1.alloc (.cells #[.slice none 0 0, .slice none 0 0, .slice none 0 0] 29) = w3 at *
  rw [s0] at k2
  obtain ⟨Rb, hRb⟩ : ∃ Rb, Rb = w.heap.size + 1 := ⟨_, rfl⟩
  rw [← hRb] at k2 ⊢
  rw [← hXb] at m2 ⊢
  have hRlow : w.heap.size ≤ Rb := by omega
  clear hXb hRb k0 b0 s0
  have HIX := Lib.hid (h.below b2)
  have x0 := m2.cell 0
  have x1 := m2.cell 1
  have x2 := m2.cell 2
  have HRB := Lib.hid k2
  have HB2 := Lib.hid b2
  have HM2 := Lib.hid m2
  have hB3 : w.heap.size ≤ w3.heap.size := b2.size
  clear h m2 k2 b2
  go_wp2_with fail
  refine (CheckIndex_ok (.slice ia inn ic) (.slice sa sn sc) (.slice ta tn tc) x E w3 HIX.out HX.out HE.out (by have := HN.out; omega)).mono ?_
  rintro e w4 ⟨rfl, hb4⟩
  have hm4 := HM2.out.below hb4 HM2.out.lt
  have HM4 := Lib.hid hm4
  have HIX4 := Lib.hid (HIX.out.below hb4)
  have HRB4 := Lib.hid (HRB.out.below hb4 HRB.out.lt)
  have HB4 := Lib.hid (HB2.out.trans (hb4.mono hB3))
  have hB4 : w.heap.size ≤ w4.heap.size := HB4.out.size
  clear x0 x1 x2 HIX hb4
  have x0 := hm4.cell 0
  clear hm4
  go_wp2_with fail
  refine (binI (.slice ia inn ic) x.ids id w4 HIX4.out.ids (by have := HIL.out; omega) HASC.out).mono ?_
  rintro e w5 ⟨rfl, hb5⟩
  rw [HCON.out]
  obtain ⟨kk, hkk⟩ : ∃ kk, kk = x.ids.countP (· < id) := ⟨_, rfl⟩
  rw [← hkk]
  have hm5 := HM4.out.below hb5 HM4.out.lt
  have HIX5 := Lib.hid (HIX4.out.below hb5)
  have HRB5 := Lib.hid (HRB4.out.below hb5 HRB4.out.lt)
  have HB5 := Lib.hid (HB4.out.trans (hb5.mono hB4))
  have hB5 : w.heap.size ≤ w5.heap.size := HB5.out.size
  clear x0 HIX4 hb5 hkk
  have x0 := hm5.cell 0
  have x1 := hm5.cell 1
  have x2 := hm5.cell 2
  clear hm5
  go_wp2_with fail
  refine (without_any (.slice ia inn ic) (.slice sa sn sc) (.slice ta tn tc) x E id w5 HIX5.out HE.out.asc HX.out (by have := HE.out.few; omega) (by have := HN.out; omega) HPO.out).mono ?_
  rintro e w6 ⟨⟨iv2, sv2, tv2, xq, rfl, hix2, hok2, -⟩, hb6⟩
  obtain ⟨⟨b1, d1, g1⟩, ⟨b2, d2, g2⟩, ⟨b3, d3, g3⟩⟩ := hix2.forms
  obtain ⟨k1, hk1⟩ : ∃ k1, k1 = xq.ids.length := ⟨_, rfl⟩
  obtain ⟨k2, hk2⟩ : ∃ k2, k2 = xq.sizes.length := ⟨_, rfl⟩
  obtain ⟨k3, hk3⟩ : ∃ k3, k3 = xq.terms.length := ⟨_, rfl⟩
  rw [← hk1] at g1
  rw [← hk2] at g2
  rw [← hk3] at g3
  subst g1 g2 g3
  have hrb := HRB5.out.below hb6 HRB5.out.lt
  have HB6 := Lib.hid (HB5.out.trans (hb6.mono hB5))
  have HIX6 := Lib.hid hix2
  have HOK6 := Lib.hid hok2
  have r0 := hrb.cell 0
  have r1 := hrb.cell 1
  have r2 := hrb.cell 2
  have s0 := hrb.fz 0
  have s1 := hrb.fz 1
  have s2 := hrb.fz 2
  have HRB6 := Lib.hid hrb
  have HRE := Lib.hid (((hrb.set 0 (.slice b1 k1 d1)).set 1 (.slice b2 k2 d2)).set 2 (.slice b3 k3 d3))
  clear hk1 hk2 hk3 hix2 hok2 hb6 hrb x0 x1 x2
  go_wp2_with fail
  refine bodyPost_ret (results_cell_tmp_row rfl _ _ Rb _ _ (0, 0) _ rfl HRE.out Try.underlying29 rfl infoIx) rfl ?_
  rw [← HQ.out]
  have hr0 := RowOther.of_has HRB6.out (by decide) (by decide) (by decide)
  have g0 := grownBy_set w6 Rb 0 (.slice b1 k1 d1)
  have h1 := HRB6.out.set 0 (.slice b1 k1 d1)
  have hr1 := RowOther.of_has h1 (by decide) (by decide) (by decide)
  have g1 := grownBy_set (w6.setCell ⟨Rb, 0, none⟩ (.slice b1 k1 d1)) Rb 1 (.slice b2 k2 d2)
  have h2 := h1.set 1 (.slice b2 k2 d2)
  have hr2 := RowOther.of_has h2 (by decide) (by decide) (by decide)
  have g2 := grownBy_set ((w6.setCell ⟨Rb, 0, none⟩ (.slice b1 k1 d1)).setCell ⟨Rb, 1, none⟩ (.slice b2 k2 d2)) Rb 2 (.slice b3 k3 d3)
  exact ⟨⟨_, _, _, xq, rfl, ((HIX6.out.other hr0 g0).other hr1 g1).other hr2 g2, HOK6.out⟩, ((HB6.out.setCell (p := ⟨Rb, 0, none⟩) hRlow _).setCell (p := ⟨Rb, 1, none⟩) hRlow _).setCell (p := ⟨Rb, 2, none⟩) hRlow _⟩
end Go.Proofs.Ytfjcbclakgidkaa
