/- The walk of cal.MomentText. -/
import Derived.Test.YtbafldhhhbdhhaaDoorMText
namespace Go.Proofs.YtbafldhhhbdhhaaDoor
open Go.RowKit

/-- MomentText: the text of a moment, or an error -/
def MTPost (off : Int) (cs : List (Int × Int)) (m : Int) (w : World) (e : Ending) (w' : World) : Prop :=
  ∃ s c, e = .returned (.tuple #[.string s, .int .i64 c]) ∧ Below w.heap.size w w' ∧ ((c ≠ 0 ∧ s = ⟨#[]⟩) ∨
    (c = 0 ∧ zcode off cs = 0 ∧ 0 ≤ m ∧ m ≤ 3000000 ∧ ∃ (d : Int) (mi k : Nat), d * 1440 + mi = m + offAt m off cs ∧ -1 ≤ d ∧ d ≤ 2084 ∧ mi < 1440 ∧ k < 61 ∧ (shownAt (d * 1440 + mi) (prts 0 off cs))[k]? = some m ∧ s = bs (baseL d mi ++ tailL k)))

theorem ZoneOk.code {off : Int} {cs : List (Int × Int)} (h : ZoneOk off cs) : zcode off cs = 0 := by
  have hg : ∀ (cs : List (Int × Int)) (at_ o : Int), ZOk at_ o cs → zgo at_ o cs = 0 := by
    intro cs
    induction cs with
    | nil => intro _ _ _; rfl
    | cons c r ih =>
      intro at_ o hh
      obtain ⟨a, p⟩ := c
      obtain ⟨h1, h2, h3, h4, h5⟩ := hh
      simp only [zgo]
      rw [if_neg (fun g => g.elim (fun q => q h1) (fun q => q h2)), if_neg (by omega), if_neg h4]
      exact ih a p h5
  unfold zcode
  rw [if_neg (fun g => g ⟨h.o1, h.o2⟩), if_neg (by have := h.len; omega)]
  exact hg cs 0 off h.ok

/-- the text while the moments that show the same are looked at: k is the place of the moment -/
def tailAt (k i : Nat) : List UInt8 := if k < i then tailL k else []
theorem tailAt_succ (k i : Nat) : tailAt k (i + 1) = if i = k then tailL k else tailAt k i := by
  unfold tailAt
  by_cases h : i = k
  · subst h; rw [if_pos (by omega), if_pos rfl]
  · rw [if_neg h]
    by_cases g : k < i
    · rw [if_pos g, if_pos (by omega)]
    · rw [if_neg g, if_neg (by omega)]

set_option maxRecDepth 100000 in
set_option maxHeartbeats 4000000 in
theorem MomentText_any (off : Int) (v : Value) (cs : List (Int × Int)) (m : Int) (w : World) (h : Changes w v cs) (hE : Env w) :
    Calls Tryd.prog 6 #[.agg #[.int .i64 off, v], .int .i64 m] w (MTPost off cs m w) := by
  obtain ⟨a, cap, rfl⟩ := SliceAt.len h
  have H := Lib.hid h
  have HE := Lib.hid hE
  clear h hE
  have hbx := box1 w #[.int .i64 off, .slice a cs.length cap] 24
  go_enter Tryd.func6, Tryd.ntmps6
  go_upto_region 1 with fail
  generalize w.alloc (.cells #[.int .i64 off, .slice a cs.length cap] 24) = w2 at *
  obtain ⟨hx, hbl⟩ := hbx
  have HX := Lib.hid hx
  have HB2 := Lib.hid hbl
  have k0 := hx.cell 0
  have k1 := hx.cell 1
  clear hx hbl
  go_wp2_with fail
  refine (Local_any off _ cs m w2 (H.out.below HB2.out)).mono ?_
  rintro e w3 ⟨d, mi, c, rfl, hb3, hcase⟩
  have HX3 := Lib.hid (HX.out.below hb3 HX.out.lt)
  have HB3 := Lib.hid (below_up HB2.out hb3 HB2.out.size)
  clear k0 k1 hb3
  rcases hcase with hc | ⟨rfl, hzo, hm1, hm2, hd, hmi⟩
  · have hq0 : (c == 0) = false := by simpa using hc
    have hq1 : (c != 0) = true := by simpa using hc
    have HC := Lib.hid hc
    clear hc
    go_wp2_with fail
    go_ret2
    exact ⟨_, _, rfl, HB3.out, .inl ⟨HC.out, rfl⟩⟩
  · have hbd := offAt_bd m cs 0 off off hzo.ok hzo.o1 hzo.o2
    obtain ⟨hb1, hb2⟩ := hbd
    have hsum : d * 1440 + mi = m + offAt m off cs := by omega
    have hd1 : -1 ≤ d := by omega
    have hd2 : d ≤ 2084 := by omega
    obtain ⟨mn, rfl⟩ : ∃ mn : Nat, mi = mn := ⟨mi.toNat, by omega⟩
    have hmn : mn < 1440 := by omega
    have HSUM := Lib.hid hsum
    have HZO := Lib.hid hzo
    have HZC := Lib.hid hzo.code
    obtain ⟨k, hk61, hkl, hkm, hku⟩ := shown_at hzo m hm1 hm2
    rw [← hsum] at hkl
    have hkm' : (shownAt (d * 1440 + mn) (prts 0 off cs))[k]? = some m := by
      rw [List.getElem?_eq_getElem hkl]
      congr 1
      have := hkm
      simp only [← hsum] at this
      exact this
    have hku' : ∀ j, (shownAt (d * 1440 + mn) (prts 0 off cs))[j]? = some m → j = k := by
      intro j hj
      obtain ⟨hj1, hj2⟩ := List.getElem?_eq_some_iff.1 hj
      rw [hsum] at hj1
      refine hku j hj1 ?_
      simp only [hsum] at hj2
      exact hj2
    have HKM := Lib.hid hkm'
    have HKU := Lib.hid hku'
    have HKL := Lib.hid hkl
    have hlen61 : (shownAt (d * 1440 + mn) (prts 0 off cs)).length ≤ 61 := by
      have h1 := shownAt_length (d * 1440 + mn) (prts 0 off cs)
      rw [prts_length] at h1
      have := hzo.len
      omega
    have hE3 := HE.out.below HB3.out
    have hit := fun W hW => itoa_any d (by omega) (by omega) W hW
    have HIT := Lib.hid hit
    have k0 := HX3.out.cell 0
    have k1 := HX3.out.cell 1
    have HE3 := Lib.hid hE3
    clear hd hmi hzo hb1 hb2 hsum hkl hkm hku hkm' hku' hE3 hit
    go_wp2_with fail
    refine (HIT.out w3 HE3.out).mono ?_
    rintro e w4 ⟨rfl, hb4⟩
    have HX4 := Lib.hid (HX3.out.below hb4 HX3.out.lt)
    have HB4 := Lib.hid (below_up HB3.out hb4 HB3.out.size)
    obtain ⟨hh, hhq⟩ : ∃ hh : Nat, hh = mn / 60 := ⟨_, rfl⟩
    obtain ⟨mm, hmq⟩ : ∃ mm : Nat, mm = mn % 60 := ⟨_, rfl⟩
    have q1 : (mn : Int).tdiv 60 = (hh : Int) := by rw [Int.tdiv_eq_ediv_of_nonneg (by omega)]; omega
    have q2 : (mn : Int).tmod 60 = (mm : Int) := by rw [Int.tmod_eq_emod_of_nonneg (by omega)]; omega
    have q3 : (mn : Int) / 60 = (hh : Int) := by omega
    have q4 : (mn : Int) % 60 = (mm : Int) := by omega
    have hh1 : hh < 24 := by omega
    have hm1' : mm < 60 := by omega
    have HHQ := Lib.hid hhq
    have HMQ := Lib.hid hmq
    clear hhq hmq
    clear k0 k1 hb4
    have hdl : (bs (Lib.itoa d)).size ≤ 30 := by
      rw [bs_size]
      have := itoa_len d 3 (by omega)
      rw [trim_itoa] at this
      unfold Lib.itoa
      split
      · rw [List.length_cons]; omega
      · rw [show d.toNat = d.natAbs by omega]; omega
    go_wp2_with fail
    refine (two_any hh (by omega) w4 (HE.out.below HB4.out)).mono ?_
    rintro e w5 ⟨rfl, hb5⟩
    have HX5 := Lib.hid (HX4.out.below hb5 HX4.out.lt)
    have HB5 := Lib.hid (below_up HB4.out hb5 HB4.out.size)
    have z5 : (bs (twoL hh)).size = 2 := by rw [bs_size]; rfl
    clear hb5
    go_wp2_with fail
    refine (two_any mm (by omega) w5 (HE.out.below HB5.out)).mono ?_
    rintro e w6 ⟨rfl, hb6⟩
    have HX6 := Lib.hid (HX5.out.below hb6 HX5.out.lt)
    have HB6 := Lib.hid (below_up HB5.out hb6 HB5.out.size)
    have z6 : (bs (twoL mm)).size = 2 := by rw [bs_size]; rfl
    have k0 := HX6.out.cell 0
    have k1 := HX6.out.cell 1
    clear hb6
    have hcat : bs (Lib.itoa d) ++ ⟨#[46]⟩ ++ bs (twoL hh) ++ ⟨#[58]⟩ ++ bs (twoL mm) = bs (baseL d mn) := by
      rw [show (⟨#[46]⟩ : ByteArray) = bs [46] from rfl, show (⟨#[58]⟩ : ByteArray) = bs [58] from rfl, bs_append, bs_append, bs_append, bs_append]
      congr 1
      unfold baseL clockL
      rw [← HHQ.out, ← HMQ.out]
      simp
    have hbz : (bs (baseL d mn)).size ≤ 40 := by
      rw [← hcat]
      simp only [ByteArray.size_append, z5, z6]
      rw [show (⟨#[46]⟩ : ByteArray).size = 1 from rfl, show (⟨#[58]⟩ : ByteArray).size = 1 from rfl]
      omega
    have HBZ := Lib.hid hbz
    go_upto_region 5 with fail
    clear hcat hbz z5 z6 hdl
    go_wp2_with fail
    refine (Shown_any off _ cs d mn w6 (H.out.below HB6.out) HZO.out HZC.out hd1 hd2 (by omega) (by omega)).mono ?_
    rintro e w7 ⟨a7, c7, rfl, hs7, hb7⟩
    have HB7 := Lib.hid (below_up HB6.out hb7 HB6.out.size)
    have HE7 := Lib.hid (HE.out.below HB7.out)
    have HS7 := Lib.hid hs7
    clear hs7 hb7 k0 k1 q1 q2 q3 q4
    generalize hsh : shownAt (d * 1440 + (mn : Int)) (prts 0 off cs) = sh at *
    have HSH := Lib.hid hsh
    clear hsh
    go_wp2_with fail
    go_loopw [9, 12, 13, 45] (fun sv _ _ iv wr => ∃ i : Nat, iv = .int .i64 i ∧ i ≤ sh.length ∧ sv = .string (bs (baseL d mn ++ tailAt k i)) ∧ Below w7.heap.size w7 wr) (fun _ _ _ iv _ => sh.length - (intOf iv).toNat)
    case atStart => exact ⟨0, rfl, Nat.zero_le _, by simp [tailAt], Below.refl _ _⟩
    case round =>
      obtain ⟨i, rfl, hi, rfl, hbr⟩ := hrel
      have HBR := Lib.hid hbr
      clear hbr
      by_cases hlt : i < sh.length
      · obtain ⟨b, of', cap', hv, hcap, hb, hel⟩ := HS7.out.at (by omega)
        cases hv
        have c0 := (below_cell HBR.out hb).trans (ints_cell hel i sh[i] (List.getElem?_eq_getElem hlt))
        have hxe : sh[i]? = some sh[i] := List.getElem?_eq_getElem hlt
        have hts := tailAt_succ k i
        generalize sh[i] = x at *
        have HXE := Lib.hid hxe
        clear hel hxe
        by_cases hik : i = k
        · rw [if_pos hik] at hts
          have hxm : x = m := by
            have h1 := HKM.out
            rw [← hik, HXE.out] at h1
            exact Option.some.inj h1
          subst hxm
          have ht0 : tailAt k i = [] := by unfold tailAt; rw [if_neg (by omega)]
          rw [ht0, List.append_nil]
          have HTS := Lib.hid hts
          have HIK := Lib.hid hik
          clear hts ht0 hik
          cases i with
          | zero =>
            have e0 : bs (baseL d mn ++ tailAt k (0 + 1)) = bs (baseL d mn) := by
              rw [HTS.out, ← HIK.out]; simp [tailL]
            have E0 := Lib.hid e0
            clear e0
            simp only [Nat.add_zero] at c0
            go_wp2_with fail
            go_roundw
            case rel => exact ⟨1, by go_num, by omega, congrArg Value.string E0.out.symm, HBR.out⟩
            case measure => simp [intOf]; omega
          | succ j =>
            have hit := itoa_any ((j : Int) + 1 + 1) (by omega) (by omega) wr (HE7.out.below HBR.out)
            have e0 : bs (baseL d mn ++ tailAt k (j + 1 + 1)) = bs (baseL d mn) ++ ((⟨#[47]⟩ : ByteArray) ++ bs (Lib.itoa ((j : Int) + 1 + 1))) := by
              rw [HTS.out, ← HIK.out, show (⟨#[47]⟩ : ByteArray) = bs [47] from rfl, bs_append, bs_append]
              rfl
            have E0 := Lib.hid e0
            have HIT2 := Lib.hid hit
            have hz2 : (bs (Lib.itoa ((j : Int) + 1 + 1))).size ≤ 30 := by
              rw [bs_size]
              have := itoa_len ((j : Int) + 1 + 1) 3 (by omega)
              rw [trim_itoa] at this
              unfold Lib.itoa
              rw [if_neg (by omega), show ((j : Int) + 1 + 1).toNat = ((j : Int) + 1 + 1).natAbs by omega]
              omega
            have hbz : (bs (baseL d mn)).size ≤ 40 := HBZ.out
            clear e0 hit
            go_wp2_with fail
            refine HIT2.out.mono ?_
            rintro e w8 ⟨rfl, hb8⟩
            have HB8 := Lib.hid (below_up' HBR.out hb8)
            clear hb8
            go_wp2_with fail
            go_roundw
            case rel => exact ⟨j + 1 + 1, by go_num, by omega, congrArg Value.string E0.out.symm, HB8.out⟩
            case measure => simp [intOf]; omega
        · rw [if_neg hik] at hts
          have hxm : x ≠ m := fun e => hik (HKU.out i (by rw [HXE.out, e]))
          have hxb : (x == m) = false := by simpa using hxm
          have HTS := Lib.hid hts
          clear hts hik hxm
          go_wp2_with fail
          go_roundw
          case rel => exact ⟨i + 1, by go_num, by omega, by rw [HTS.out], HBR.out⟩
          case measure => simp [intOf]; omega
      · obtain rfl : i = sh.length := by omega
        have hke : tailAt k sh.length = tailL k := by unfold tailAt; rw [if_pos (by rw [← HSH.out]; exact HSH.out ▸ HKL.out)]
        rw [hke]
        clear hke
        go_wp2_with fail
        go_ret2
        exact ⟨_, _, rfl, below_up HB7.out HBR.out HB7.out.size, .inr ⟨rfl, HZC.out, hm1, hm2, d, mn, k, HSUM.out, hd1, hd2, hmn, hk61, by rw [HSH.out]; exact HKM.out, rfl⟩⟩

end Go.Proofs.YtbafldhhhbdhhaaDoor
