/- The walk of portkeep2.CalLeads. -/
import Derived.Test.YtjnaioellghggaaOpn
import Derived.Test.YtjnaioellghggaaEnd
import Derived.Test.YtjnaioellghggaaZone3
namespace Go.Proofs.Ytjnaioellghggaa
open Go.RowKit

theorem open_cnt {c : CalD} (hc : CalOk c) {fr a b hi : Int} (h0 : 0 ≤ fr) (h1 : fr ≤ a) (h2 : b ≤ hi) : cnt (covB (openL c fr hi)) a b = cnt (openB c) a b :=
  cnt_congr fun t g1 g2 => by
    rw [open_cov hc fr hi h0, show decide (fr ≤ t) = true by simp; omega, show decide (t < hi) = true by simp; omega]
    rfl
theorem leads_law {c : CalD} (hc : CalOk c) {fr en : Int} (h0 : 0 ≤ fr) (h1 : fr ≤ en) (h2 : en ≤ 3000000) (ho : openB c en = true) (n : Int) (hn : n = lens (openL c fr en)) :
    0 ≤ n ∧ n ≤ 3000001 ∧ addF n (openL c fr 3000001) = some en ∧ ∃ n', (if n = 0 then some fr else endF n (openL c fr 3000001)) = some n' ∧ fr ≤ n' ∧ n' ≤ en ∧ lens (openL c n' en) = 0 := by
  have hl := open_lens hc h0 h1
  rw [hl] at hn
  have hap := open_apart hc fr 3000001 h0
  have hcv : covB (openL c fr 3000001) en = true := by
    rw [open_cov hc fr 3000001 h0, ho, show decide (fr ≤ en) = true by simp; omega, show decide (en < 3000001) = true by simp; omega]
    rfl
  have hcn : cnt (covB (openL c fr 3000001)) fr en = cnt (openB c) fr en := open_cnt hc h0 (Int.le_refl _) (by omega)
  have hle := cnt_le (openB c) fr en
  refine ⟨by omega, by omega, ?_, ?_⟩
  · rw [hn, ← hcn]
    exact addF_to hap h1 hcv
  · by_cases hz : n = 0
    · refine ⟨fr, by rw [if_pos hz], Int.le_refl _, h1, ?_⟩
      rw [hl]
      omega
    · rw [if_neg hz, hn, ← hcn]
      obtain ⟨n', e1, e2, e3, e4⟩ := endF_to hap h1 hcv (by omega)
      refine ⟨n', e1, e2, e3, ?_⟩
      rw [open_lens hc (by omega) e3, ← open_cnt hc h0 e2 (by omega : en ≤ 3000001), e4]
      rfl

set_option maxRecDepth 100000 in
set_option maxHeartbeats 4000000 in
theorem leads_walk (c : CalD) (vcs vwk vsp : Value) (fr en : Int) (w : World) (h : CalAt w vcs vwk vsp c) :
    Calls Try.prog 3 #[.agg #[.int .i64 c.off, vcs, vwk, vsp], .int .i64 fr, .int .i64 en] w fun e w' => e = .returned (.bool true) ∧ Below w.heap.size w w' := by
  have H := Lib.hid h
  clear h
  obtain ⟨bx, bbl⟩ := box1 w #[.int .i64 c.off, vcs, vwk, vsp] 28
  go_enter Try.func3, Try.ntmps3
  go_upto_region 1 with fail
  generalize w.alloc (.cells #[.int .i64 c.off, vcs, vwk, vsp] 28) = w0 at *
  have HB0 := Lib.hid bbl
  have HX0 := Lib.hid bx
  clear bx bbl
  go_wp2_with fail
  refine (awake_any w0).mono ?_
  rintro e w1 ⟨rfl, hb1⟩
  have HB1 := Lib.hid (below_up HB0.out hb1 HB0.out.size)
  have HX1 := Lib.hid (HX0.out.below hb1 HX0.out.lt)
  clear hb1 HX0 HB0
  have k0 := HX1.out.cell 0
  have k1 := HX1.out.cell 1
  have k2 := HX1.out.cell 2
  have k3 := HX1.out.cell 3
  go_wp2_with fail
  refine (Open_any c vcs vwk vsp en w1 (H.out.below HB1.out)).mono ?_
  rintro e w2 ⟨b, k, rfl, hk, hkb, _, hb2⟩
  have HB2 := Lib.hid (below_up HB1.out hb2 HB1.out.size)
  have HX2 := Lib.hid (HX1.out.below hb2 HX1.out.lt)
  clear hb2 k0 k1 k2 k3 HX1
  have k0 := HX2.out.cell 0
  have k1 := HX2.out.cell 1
  have k2 := HX2.out.cell 2
  have k3 := HX2.out.cell 3
  by_cases hkz : k ≠ 0
  · have q : (k == 0) = false := by simpa using hkz
    have q2 : (k != 0) = true := by simpa using hkz
    clear hk hkb hkz
    go_wp2_with fail
    go_ret
    exact ⟨rfl, HB2.out⟩
  obtain rfl : k = 0 := by omega
  obtain ⟨hf, hm⟩ := hk.1 rfl
  have hbo := hkb rfl
  have HF := Lib.hid hf
  have r1 : 0 ≤ en ∧ en ≤ 3000000 := by
    unfold momI at hm
    split at hm
    · assumption
    · cases hm
  obtain ⟨r1, r2⟩ := r1
  have HBO := Lib.hid hbo
  clear hk hkb hf hm hbo hkz
  cases b
  · go_wp2_with fail
    go_ret
    exact ⟨rfl, HB2.out⟩
  by_cases hft : en < fr
  · have q : decide (en < fr) = true := by simpa using hft
    go_wp2_with fail
    go_ret
    exact ⟨rfl, HB2.out⟩
  have q : decide (en < fr) = false := by simpa using hft
  go_wp2_with fail
  refine (Worked_any c vcs vwk vsp fr en w2 (H.out.below HB2.out)).mono ?_
  rintro e w3 ⟨n, k, rfl, hk, hkn, _, hb3⟩
  have HB3 := Lib.hid (below_up HB2.out hb3 HB2.out.size)
  have HX3 := Lib.hid (HX2.out.below hb3 HX2.out.lt)
  clear hb3 k0 k1 k2 k3 HX2
  have k0 := HX3.out.cell 0
  have k1 := HX3.out.cell 1
  have k2 := HX3.out.cell 2
  have k3 := HX3.out.cell 3
  by_cases hkz : k ≠ 0
  · have q : (k == 0) = false := by simpa using hkz
    have q2 : (k != 0) = true := by simpa using hkz
    clear hk hkn hkz
    go_wp2_with fail
    go_ret
    exact ⟨rfl, HB3.out⟩
  obtain rfl : k = 0 := by omega
  obtain ⟨_, hs⟩ := hk.1 rfl
  obtain ⟨s1, s2, s3, s4⟩ := (strI_zero fr en).1 hs
  obtain ⟨l1, l2, l3, n', l4, l5, l6, l7⟩ := leads_law HF.out.fine.ok s1 s3 r2 HBO.out.symm n (hkn rfl)
  have HL3 := Lib.hid l3
  have HL4 := Lib.hid l4
  have HL7 := Lib.hid l7
  clear hk hkn hs l3 l4 l7 hft hkz
  have hm0 : momI fr = 0 := by unfold momI; rw [if_pos (by omega)]
  have hw0 : wkI n = 0 := by unfold wkI; rw [if_pos (by omega)]
  have HG := Lib.hid (show CkFine c ∧ momI fr = 0 ∧ wkI n = 0 from ⟨HF.out, hm0, hw0⟩)
  clear hm0 hw0
  go_wp2_with fail
  refine (Add_any c vcs vwk vsp fr n w3 (H.out.below HB3.out)).mono ?_
  rintro e w4 ⟨m, ka, rfl, hka, _, hb4⟩
  have hma : m = en ∧ ka = 0 := by
    rcases hka HG.out with ⟨m', g1, g2, g3⟩ | ⟨g1, _⟩
    · rw [HL3.out] at g1
      cases g1
      exact ⟨g2, g3⟩
    · rw [HL3.out] at g1
      cases g1
  obtain ⟨rfl, rfl⟩ := hma
  have HB4 := Lib.hid (below_up HB3.out hb4 HB3.out.size)
  have HX4 := Lib.hid (HX3.out.below hb4 HX3.out.lt)
  clear hb4 k0 k1 k2 k3 HX3 hka
  have k0 := HX4.out.cell 0
  have k1 := HX4.out.cell 1
  have k2 := HX4.out.cell 2
  have k3 := HX4.out.cell 3
  go_wp2_with fail
  refine (End_any c vcs vwk vsp fr n (some n') HL4.out.symm w4 (H.out.below HB4.out)).mono ?_
  rintro e w5 ⟨n2, kb, rfl, hkb, _, hb5⟩
  have hmb : n2 = n' ∧ kb = 0 := by
    rcases hkb HG.out with ⟨m', g1, g2, g3⟩ | ⟨g1, _⟩
    · cases g1
      exact ⟨g2, g3⟩
    · cases g1
  obtain ⟨rfl, rfl⟩ := hmb
  have HB5 := Lib.hid (below_up HB4.out hb5 HB4.out.size)
  have HX5 := Lib.hid (HX4.out.below hb5 HX4.out.lt)
  clear hb5 k0 k1 k2 k3 HX4 hkb
  have k0 := HX5.out.cell 0
  have k1 := HX5.out.cell 1
  have k2 := HX5.out.cell 2
  have k3 := HX5.out.cell 3
  have q9 : decide (m < n2) = false := by simp; omega
  go_wp2_with fail
  refine (Worked_any c vcs vwk vsp n2 m w5 (H.out.below HB5.out)).mono ?_
  rintro e w6 ⟨n3, k, rfl, hk, hkn, _, hb6⟩
  have hk0 : k = 0 := hk.2 ⟨HF.out, (strI_zero n2 m).2 ⟨by omega, by omega, by omega, by omega⟩⟩
  have hn3 := hkn hk0
  rw [HL7.out] at hn3
  subst hk0 hn3
  have HB6 := Lib.hid (below_up HB5.out hb6 HB5.out.size)
  clear hb6 hk hkn k0 k1 k2 k3
  go_wp2_with fail
  go_ret
  exact ⟨rfl, HB6.out⟩

end Go.Proofs.Ytjnaioellghggaa
