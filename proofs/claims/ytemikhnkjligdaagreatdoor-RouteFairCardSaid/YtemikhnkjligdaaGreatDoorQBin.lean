/- The walk of slices.BinarySearchFunc over a calendar's special days. -/
import Derived.Test.YtemikhnkjligdaaGreatDoorQCalChk
namespace Go.Proofs.YtemikhnkjligdaaGreatDoor
open Go.RowKit

theorem cmpI_neg (a b : Int) : cmpI a b < 0 ↔ a < b := by
  unfold cmpI
  repeat' split
  all_goals omega
theorem cmpI_zero (a b : Int) : cmpI a b = 0 ↔ a = b := by
  unfold cmpI
  repeat' split
  all_goals omega
theorem spcmp_any (d t : Int) (v : Value) (hv : v.oneCell' = true) (w : World) :
    Calls Tryz.prog 141 #[.agg #[.int .i64 d, v], .int .i64 t] w fun e w' => e = .returned (.int .i64 (cmpI d t)) ∧ Below w.heap.size w w' := by
  have hbx := box1 w #[.int .i64 d, v] 111
  go_enter Tryz.func141, Tryz.ntmps141
  go_upto_region 1 with fail
  generalize w.alloc (.cells #[.int .i64 d, v] 111) = w2 at *
  obtain ⟨hx, hbl⟩ := hbx
  have k0 := hx.cell 0
  have HB2 := Lib.hid hbl
  clear hx hbl
  go_wp2_with fail
  refine (cmp_any _ _ _).mono ?_
  rintro e w' ⟨rfl, rfl⟩
  go_wp2_with fail
  go_ret
  exact ⟨rfl, HB2.out⟩

structure BinInv (l : List (Int × List Shf)) (t : Int) (w wr : World) (i j : Nat) : Prop where
  le : i ≤ j
  hi : j ≤ l.length
  lo : ∀ q (h : q < l.length), q < i → l[q].1 < t
  up : ∀ q (h : q < l.length), j ≤ q → t ≤ l[q].1
  below : Below w.heap.size w wr
def Found (l : List (Int × List Shf)) (t : Int) (k : Nat) (b : Bool) : Prop := (b = true → ∃ h : k < l.length, l[k].1 = t) ∧ (b = false → ∀ x ∈ l, x.1 ≠ t)

set_option maxRecDepth 100000 in
set_option maxHeartbeats 2000000 in
theorem bin_any (v : Value) (l : List (Int × List Shf)) (t : Int) (w : World) (h : Specs w v l) (hl : l.length ≤ 1000) (hr : ∀ i j (hi : i < l.length) (hj : j < l.length), i < j → l[i].1 < l[j].1) :
    Calls Tryz.prog 140 #[v, .int .i64 t, .func (.func 141) #[] #[]] w fun e w' => (∃ k b, e = .returned (.tuple #[.int .i64 (k : Nat), .bool b]) ∧ Found l t k b) ∧ Below w.heap.size w w' := by
  obtain ⟨a, cap, rfl⟩ := SliceAt.len h
  have H := Lib.hid h
  have HR := Lib.hid hr
  clear h hr
  go_enter Tryz.func140, Tryz.ntmps140
  go_wp2_with fail
  go_loopw [9, 10] (fun iv jv wr => ∃ i j : Nat, iv = .int .i64 i ∧ jv = .int .i64 j ∧ BinInv l t w wr i j) (fun iv jv _ => (intOf jv).toNat - (intOf iv).toNat)
  case atStart => exact ⟨0, l.length, rfl, rfl, Nat.zero_le _, Nat.le_refl _, fun q _ h => by omega, fun q _ h => by omega, Below.refl _ _⟩
  case round =>
    obtain ⟨i, j, rfl, rfl, hI⟩ := hrel
    have HI := Lib.hid hI
    have hij := hI.le
    have hjl := hI.hi
    clear hI
    by_cases hlt : i < j
    · have qk : decide ((i : Int) < (j : Int)) = true := decide_eq_true (by omega)
      have s1 : IntKind.i64.wrap ((i : Int) + (j : Int)) = ((i + j : Nat) : Int) := by rw [IntWalk.i64_in _ (by omega)]; omega
      obtain ⟨h, hh⟩ : ∃ h, h = (i + j) / 2 := ⟨_, rfl⟩
      have e : ((i : Int) + (j : Int)) / 2 = (h : Int) := by omega
      have hm : h < l.length := by omega
      obtain ⟨b, of', cap', hv, hb, hel⟩ := Specs.at H.out (by omega)
      cases hv
      obtain ⟨u, e0, e1, hus⟩ := hel h hm
      have c0 := (below_cell HI.out.below hb).trans e0
      have c1 := (below_cell HI.out.below hb).trans e1
      obtain ⟨ua, uc, rfl⟩ := SliceAt.len hus
      have HIH := Lib.hid (show i ≤ h ∧ h < j by omega)
      have HLT := Lib.hid (show l[h].1 < t → BinInv l t w wr (h + 1) j from fun g => ⟨by omega, hjl, fun q hq hql => by
        by_cases hqh : q = h
        · subst hqh; exact g
        · have := HR.out q h hq hm (by omega); omega, HI.out.up, HI.out.below⟩)
      have HGE := Lib.hid (show t ≤ l[h].1 → BinInv l t w wr i h from fun g => ⟨by omega, by omega, HI.out.lo, fun q hq hql => by
        by_cases hqh : q = h
        · subst hqh; exact g
        · have := HR.out h q hm hq (by omega); omega, HI.out.below⟩)
      have hcm := cmpI_neg l[h].1 t
      generalize l[h].1 = d at *
      generalize l[h].2 = sl at *
      have HCM := Lib.hid hcm
      have hcall := spcmp_any d t (.slice ua sl.length uc) rfl wr
      generalize cmpI d t = z at *
      have HCALL := Lib.hid hcall
      clear e0 e1 hel hus hh hcm hcall
      go_upto_region 5 with fail
      clear e
      go_wp2_with fail
      refine HCALL.out.mono ?_
      rintro e w5 ⟨rfl, hb5⟩
      have HB5 := Lib.hid (below_up HI.out.below hb5 HI.out.below.size)
      clear hb5
      have hih := HIH.out
      by_cases hz : z < 0
      · have qz : decide (z < 0) = true := decide_eq_true hz
        have HN := Lib.hid (HLT.out (HCM.out.1 hz))
        clear hz
        go_wp2_with fail
        go_roundw
        case rel => exact ⟨h + 1, j, by go_num, rfl, HN.out.le, HN.out.hi, HN.out.lo, HN.out.up, HB5.out⟩
        case measure => simp [intOf]; omega
      · have qz : decide (z < 0) = false := decide_eq_false hz
        have HN := Lib.hid (HGE.out (by
          have : ¬ d < t := fun g => hz (HCM.out.2 g)
          omega))
        clear hz
        go_wp2_with fail
        go_roundw
        case rel => exact ⟨i, h, rfl, rfl, HN.out.le, HN.out.hi, HN.out.lo, HN.out.up, HB5.out⟩
        case measure => simp [intOf]; omega
    · obtain rfl : i = j := by omega
      by_cases hn : i < l.length
      · obtain ⟨b, of', cap', hv, hb, hel⟩ := Specs.at H.out (by omega)
        cases hv
        obtain ⟨u, e0, e1, hus⟩ := hel i hn
        have c0 := (below_cell HI.out.below hb).trans e0
        have c1 := (below_cell HI.out.below hb).trans e1
        obtain ⟨ua, uc, rfl⟩ := SliceAt.len hus
        have HFD := Lib.hid (show Found l t i (cmpI l[i].1 t == 0) by
          have hcm := cmpI_zero l[i].1 t
          refine ⟨fun g => ⟨hn, hcm.1 (by simpa using g)⟩, fun g x hx => ?_⟩
          obtain ⟨q, hq, rfl⟩ := List.mem_iff_getElem.1 hx
          have hne : l[i].1 ≠ t := fun g2 => by rw [hcm.2 g2] at g; simp at g
          have h2 := HI.out.up i hn (Nat.le_refl _)
          intro g3
          rcases Nat.lt_or_ge q i with g4 | g4
          · have := HI.out.lo q hq g4; omega
          · rcases Nat.lt_or_ge i q with g5 | g5
            · have := HR.out i q hn hq g5; omega
            · obtain rfl : q = i := by omega
              exact hne g3)
        generalize l[i].1 = d at *
        generalize l[i].2 = sl at *
        have hcall := spcmp_any d t (.slice ua sl.length uc) rfl wr
        generalize cmpI d t = z at *
        have HCALL := Lib.hid hcall
        clear e0 e1 hel hus hcall
        go_wp2_with fail
        refine HCALL.out.mono ?_
        rintro e w5 ⟨rfl, hb5⟩
        have HB5 := Lib.hid (below_up HI.out.below hb5 HI.out.below.size)
        clear hb5
        go_wp2_with fail
        go_ret2
        exact ⟨⟨i, _, rfl, HFD.out⟩, HB5.out⟩
      · have HFD := Lib.hid (show Found l t i false from ⟨fun g => (by cases g), fun _ x hx => by
          obtain ⟨q, hq, rfl⟩ := List.mem_iff_getElem.1 hx
          have := HI.out.lo q hq (by omega)
          omega⟩)
        go_wp2_with fail
        go_ret2
        exact ⟨⟨i, _, rfl, HFD.out⟩, HI.out.below⟩

end Go.Proofs.YtemikhnkjligdaaGreatDoor
