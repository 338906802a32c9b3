/- The walk of cal.ReadMoment, at the text that MomentText writes. -/
import Derived.Test.YtbafldhhhbdhhaaDoorMoment
namespace Go.Proofs.YtbafldhhhbdhhaaDoor
open Go.RowKit

theorem bs_nil : bs [] = ⟨#[]⟩ := rfl

set_option maxRecDepth 100000 in
set_option maxHeartbeats 4000000 in
theorem ReadMoment_ok (off : Int) (v : Value) (cs : List (Int × Int)) (m d : Int) (mn k : Nat) (w : World) (h : Changes w v cs) (hE : Env w) (hzc : zcode off cs = 0)
    (hd1 : -1 ≤ d) (hd2 : d ≤ 2084) (hmn : mn < 1440) (hk61 : k < 61) (hkm : (shownAt (d * 1440 + mn) (prts 0 off cs))[k]? = some m) :
    Calls Tryd.prog 7 #[.agg #[.int .i64 off, v], .string (bs (baseL d mn ++ tailL k))] w fun e w' => e = .returned (.tuple #[.int .i64 m, .int .i64 0]) ∧ Below w.heap.size w w' := by
  obtain ⟨a, cap, rfl⟩ := SliceAt.len h
  have H := Lib.hid h
  have HE := Lib.hid hE
  have HZO := Lib.hid (zcode_ok hzc)
  have HZC := Lib.hid hzc
  have hcz := CheckZone_any off (.slice a cs.length cap) cs
  rw [hzc] at hcz
  have HCZ := Lib.hid hcz
  obtain ⟨hh, hhq⟩ : ∃ hh : Nat, hh = mn / 60 := ⟨_, rfl⟩
  obtain ⟨mm, hmq⟩ : ∃ mm : Nat, mm = mn % 60 := ⟨_, rfl⟩
  have hh1 : hh < 24 := by omega
  have hm1' : mm < 60 := by omega
  have hsum : (60 : Int) * hh + mm = mn := by omega
  have hbl : (baseL d mn ++ tailL k).length < 4294967281 := by
    have h1 := itoa_len d 3 (by omega)
    have h2 := itoa_len ((k + 1 : Nat) : Int) 3 (by omega)
    rw [trim_itoa] at h1 h2
    have h3 : (Lib.itoa d).length ≤ 30 := by
      unfold Lib.itoa
      split
      · rw [List.length_cons]; omega
      · rw [show d.toNat = d.natAbs by omega]; omega
    have h4 : (tailL k).length ≤ 30 := by
      unfold tailL
      split
      · simp
      · rw [List.length_cons]
        unfold Lib.itoa
        rw [if_neg (by omega), show ((k + 1 : Nat) : Int).toNat = ((k + 1 : Nat) : Int).natAbs by omega]
        omega
    rw [List.length_append]
    unfold baseL clockL
    rw [List.length_append, List.length_cons, List.length_append, List.length_cons]
    have h5 : ∀ n, (twoL n).length = 2 := fun _ => rfl
    rw [h5, h5]
    omega
  have hbl2 : (baseL d mn).length < 4294967281 := by rw [List.length_append] at hbl; omega
  have hcl2 : (clockL hh mm).length < 4294967281 := by
    unfold clockL
    rw [List.length_append, List.length_cons]
    have h5 : ∀ n, (twoL n).length = 2 := fun _ => rfl
    rw [h5, h5]
    omega
  have hc1 := fun W hW => cut_any (baseL d mn ++ tailL k) 47 hbl W hW
  have hc2 := fun W hW => cut_any (baseL d mn) 46 hbl2 W hW
  have hc3 := fun W hW => cut_any (clockL hh mm) 58 hcl2 W hW
  rw [cut_slash d mn k hmn] at hc1
  rw [cut_dot d mn, ← hhq, ← hmq] at hc2
  rw [cut_colon hh mm (by omega)] at hc3
  have HC1 := Lib.hid hc1
  have HC2 := Lib.hid hc2
  have HC3 := Lib.hid hc3
  have hn1 := fun W hW => number_ok d 3 (by omega) (by omega) W hW
  have HN1 := Lib.hid hn1
  have ht1 := fun W hW => twoDigits_ok hh 23 (by omega) (by omega) (by omega) W hW
  have ht2 := fun W hW => twoDigits_ok mm 59 (by omega) (by omega) (by omega) W hW
  have HT1 := Lib.hid ht1
  have HT2 := Lib.hid ht2
  have HKM := Lib.hid hkm
  have hkl : k < (shownAt (d * 1440 + mn) (prts 0 off cs)).length := (List.getElem?_eq_some_iff.1 hkm).1
  have hlen61 : (shownAt (d * 1440 + mn) (prts 0 off cs)).length ≤ 61 := by
    have h1 := shownAt_length (d * 1440 + mn) (prts 0 off cs)
    rw [prts_length] at h1
    have := HZO.out.len
    omega
  have HSH := Lib.hid (fun W (hW : Changes W (.slice a cs.length cap) cs) => Shown_any off (.slice a cs.length cap) cs d mn W hW HZO.out HZC.out hd1 hd2 (by omega) (by omega))
  have hbx := box1 w #[.int .i64 off, .slice a cs.length cap] 24
  clear h hE hzc hcz hc1 hc2 hc3 hn1 ht1 ht2 hkm hhq hmq hbl hbl2 hcl2
  go_enter Tryd.func7, Tryd.ntmps7
  go_upto_region 1 with fail
  generalize w.alloc (.cells #[.int .i64 off, .slice a cs.length cap] 24) = w2 at *
  obtain ⟨hx, hbl⟩ := hbx
  have HX := Lib.hid hx
  have HB2 := Lib.hid hbl
  have k0 := hx.cell 0
  have k1 := hx.cell 1
  clear hx hbl
  go_wp2_with fail
  refine (HCZ.out w2 (H.out.below HB2.out)).mono ?_
  rintro e w3 ⟨rfl, hb3⟩
  have HX3 := Lib.hid (HX.out.below hb3 HX.out.lt)
  have HB3 := Lib.hid (below_up HB2.out hb3 HB2.out.size)
  clear hb3 k0 k1
  go_wp2_with fail
  refine (HC1.out w3 (HE.out.below HB3.out)).mono ?_
  rintro e w4 ⟨rfl, hb4⟩
  have HX4 := Lib.hid (HX3.out.below hb4 HX3.out.lt)
  have HB4 := Lib.hid (below_up HB3.out hb4 HB3.out.size)
  clear hb4
  by_cases hk : k = 0
  · subst hk
    simp only [if_true, bs_nil]
    go_wp2_with fail
    refine (HC2.out w4 (HE.out.below HB4.out)).mono ?_
    rintro e w5 ⟨rfl, hb5⟩
    have HX5 := Lib.hid (HX4.out.below hb5 HX4.out.lt)
    have HB5 := Lib.hid (below_up HB4.out hb5 HB4.out.size)
    clear hb5
    go_wp2_with fail
    refine (HC3.out w5 (HE.out.below HB5.out)).mono ?_
    rintro e w6 ⟨rfl, hb6⟩
    have HX6 := Lib.hid (HX5.out.below hb6 HX5.out.lt)
    have HB6 := Lib.hid (below_up HB5.out hb6 HB5.out.size)
    clear hb6
    go_wp2_with fail
    refine (HN1.out w6 (HE.out.below HB6.out)).mono ?_
    rintro e w7 ⟨rfl, hb7⟩
    have HX7 := Lib.hid (HX6.out.below hb7 HX6.out.lt)
    have HB7 := Lib.hid (below_up HB6.out hb7 HB6.out.size)
    clear hb7
    go_wp2_with fail
    refine (HT1.out w7 (HE.out.below HB7.out)).mono ?_
    rintro e w8 ⟨rfl, hb8⟩
    have HX8 := Lib.hid (HX7.out.below hb8 HX7.out.lt)
    have HB8 := Lib.hid (below_up HB7.out hb8 HB7.out.size)
    clear hb8
    go_wp2_with fail
    refine (HT2.out w8 (HE.out.below HB8.out)).mono ?_
    rintro e w9 ⟨rfl, hb9⟩
    have HX9 := Lib.hid (HX8.out.below hb9 HX8.out.lt)
    have HB9 := Lib.hid (below_up HB8.out hb9 HB8.out.size)
    have k0 := HX9.out.cell 0
    have k1 := HX9.out.cell 1
    clear hb9
    go_wp2_with fail
    refine (HSH.out w9 (H.out.below HB9.out)).mono ?_
    rintro e w10 ⟨a7, c7, rfl, hs7, hb10⟩
    have HB10 := Lib.hid (below_up HB9.out hb10 HB9.out.size)
    generalize shownAt (d * 1440 + (mn : Int)) (prts 0 off cs) = sh at *
    obtain ⟨b, of', cap', hv, hcap, hb, hel⟩ := hs7.at (by omega)
    cases hv
    have c0 := ints_cell hel 0 m HKM.out
    clear hs7 hb10 hel k0 k1
    simp only [Nat.add_zero] at c0
    go_wp2_with fail
    go_ret2
    exact ⟨rfl, HB10.out⟩
  · simp only [if_neg hk]
    obtain ⟨j, rfl⟩ : ∃ j, k = j + 1 := ⟨k - 1, by omega⟩
    have HNK := Lib.hid (fun W hW => number_ok ((j + 1 + 1 : Nat) : Int) 1 (by omega) (by omega) W hW)
    have hge : decide ((2 : Int) ≤ (j : Int) + 1 + 1) = true := by simp; omega
    clear hk
    go_wp2_with fail
    refine (HC2.out w4 (HE.out.below HB4.out)).mono ?_
    rintro e w5 ⟨rfl, hb5⟩
    have HX5 := Lib.hid (HX4.out.below hb5 HX4.out.lt)
    have HB5 := Lib.hid (below_up HB4.out hb5 HB4.out.size)
    clear hb5
    go_wp2_with fail
    refine (HC3.out w5 (HE.out.below HB5.out)).mono ?_
    rintro e w6 ⟨rfl, hb6⟩
    have HX6 := Lib.hid (HX5.out.below hb6 HX5.out.lt)
    have HB6 := Lib.hid (below_up HB5.out hb6 HB5.out.size)
    clear hb6
    go_wp2_with fail
    refine (HN1.out w6 (HE.out.below HB6.out)).mono ?_
    rintro e w7 ⟨rfl, hb7⟩
    have HX7 := Lib.hid (HX6.out.below hb7 HX6.out.lt)
    have HB7 := Lib.hid (below_up HB6.out hb7 HB6.out.size)
    clear hb7
    go_wp2_with fail
    refine (HT1.out w7 (HE.out.below HB7.out)).mono ?_
    rintro e w8 ⟨rfl, hb8⟩
    have HX8 := Lib.hid (HX7.out.below hb8 HX7.out.lt)
    have HB8 := Lib.hid (below_up HB7.out hb8 HB7.out.size)
    clear hb8
    go_wp2_with fail
    refine (HT2.out w8 (HE.out.below HB8.out)).mono ?_
    rintro e w9a ⟨rfl, hb9a⟩
    have HX9a := Lib.hid (HX8.out.below hb9a HX8.out.lt)
    have HB9a := Lib.hid (below_up HB8.out hb9a HB8.out.size)
    clear hb9a
    go_wp2_with fail
    refine (HNK.out w9a (HE.out.below HB9a.out)).mono ?_
    rintro e w9 ⟨rfl, hb9⟩
    have HX9 := Lib.hid (HX9a.out.below hb9 HX9a.out.lt)
    have HB9 := Lib.hid (below_up HB9a.out hb9 HB9a.out.size)
    have k0 := HX9.out.cell 0
    have k1 := HX9.out.cell 1
    clear hb9
    go_wp2_with fail
    refine (HSH.out w9 (H.out.below HB9.out)).mono ?_
    rintro e w10 ⟨a7, c7, rfl, hs7, hb10⟩
    have HB10 := Lib.hid (below_up HB9.out hb10 HB9.out.size)
    generalize shownAt (d * 1440 + (mn : Int)) (prts 0 off cs) = sh at *
    obtain ⟨b, of', cap', hv, hcap, hb, hel⟩ := hs7.at (by omega)
    cases hv
    have c0 := ints_cell hel (j + 1) m HKM.out
    clear hs7 hb10 hel k0 k1
    go_wp2_with fail
    go_ret2
    exact ⟨rfl, HB10.out⟩

end Go.Proofs.YtbafldhhhbdhhaaDoor
