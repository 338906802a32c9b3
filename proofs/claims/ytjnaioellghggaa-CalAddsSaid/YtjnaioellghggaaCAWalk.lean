/- The walk of portkeep2.CalAdds. -/
import Derived.Test.YtjnaioellghggaaSpans
import Derived.Test.YtjnaioellghggaaSort3
import Derived.Test.YtjnaioellghggaaSpan
import Derived.Test.YtjnaioellghggaaZone3
namespace Go.Proofs.Ytjnaioellghggaa
open Go.RowKit

theorem adds_law {c : CalD} (hc : CalOk c) {a b d : Int} (h0 : 0 ≤ a) (h1 : a ≤ b) (h2 : b ≤ d) : lens (openL c a b) + lens (openL c b d) = lens (openL c a d) := by
  rw [open_lens hc h0 h1, open_lens hc (by omega) h2, open_lens hc h0 (by omega), cnt_split (openB c) h1 h2]
  omega
structure TriAt (w W : World) (c : CalD) (vcs vwk vsp : Value) (L : Nat) (x y z : Int) : Prop where
  below : Below w.heap.size w W
  c : Has W w.heap.size #[.int .i64 c.off, vcs, vwk, vsp] 28
  l : Has W L #[.int .i64 x, .int .i64 y, .int .i64 z] 3
theorem TriAt.to {w W W' : World} {c : CalD} {vcs vwk vsp : Value} {L : Nat} {x y z : Int} (h : TriAt w W c vcs vwk vsp L x y z) (hb : Below W.heap.size W W') : TriAt w W' c vcs vwk vsp L x y z :=
  ⟨below_up h.below hb h.below.size, h.c.below hb h.c.lt, h.l.below hb h.l.lt⟩
def TriS (c : CalD) (vcs vwk vsp : Value) (C L : Nat) (x y z : Int) (W : World) : Prop :=
  (W.cell? ⟨C, 0, none⟩ = some (.int .i64 c.off) ∧ W.cell? ⟨C, 1, none⟩ = some vcs ∧ W.cell? ⟨C, 2, none⟩ = some vwk ∧ W.cell? ⟨C, 3, none⟩ = some vsp) ∧ (W.cell? ⟨L, 0, none⟩ = some (.int .i64 x) ∧ W.cell? ⟨L, 1, none⟩ = some (.int .i64 y) ∧ W.cell? ⟨L, 2, none⟩ = some (.int .i64 z))
theorem TriAt.cells {w W : World} {c : CalD} {vcs vwk vsp : Value} {L : Nat} {x y z : Int} (h : TriAt w W c vcs vwk vsp L x y z) : TriS c vcs vwk vsp w.heap.size L x y z W :=
  ⟨⟨h.c.cell 0, h.c.cell 1, h.c.cell 2, h.c.cell 3⟩, h.l.cell 0, h.l.cell 1, h.l.cell 2⟩
/-- what a call of Worked leaves in two slots -/
def WkMid (c : CalD) (a b : Int) (w : World) (u v : Value) (wx : World) : Prop := ∃ n k : Int, u = .int .i64 n ∧ v = .int .i64 k ∧ (k = 0 ↔ CkFine c ∧ strI a b = 0) ∧ (k = 0 → n = lens (openL c a b)) ∧ Below w.heap.size w wx
def SpMid (c : CalD) (a b : Int) (w : World) (u v : Value) (wx : World) : Prop := ∃ l k, v = .int .i64 k ∧ Changes wx u l ∧ (CkFine c ∧ strI a b = 0 → (k = 0 ∧ l = openL c a b ∧ l.length ≤ 50000) ∨ (k = 4 ∧ l = [])) ∧ Below w.heap.size w wx

set_option maxRecDepth 100000 in
set_option maxHeartbeats 4000000 in
theorem adds_walk (c : CalD) (vcs vwk vsp : Value) (x y z : Int) (w : World) (h : CalAt w vcs vwk vsp c) :
    Calls Try.prog 5 #[.agg #[.int .i64 c.off, vcs, vwk, vsp], .int .i64 x, .int .i64 y, .int .i64 z] w fun e w' => e = .returned (.bool true) ∧ Below w.heap.size w w' := by
  have H := Lib.hid h
  clear h
  obtain ⟨bx, bbl⟩ := box1 w #[.int .i64 c.off, vcs, vwk, vsp] 28
  go_enter Try.func5, Try.ntmps5
  go_upto_region 1 with fail
  generalize w.alloc (.cells #[.int .i64 c.off, vcs, vwk, vsp] 28) = w0 at *
  have HB0 := Lib.hid bbl
  have HX0 := Lib.hid bx
  clear bx bbl
  go_wp2_with fail
  refine (awake_any w0).mono ?_
  rintro e w1 ⟨rfl, hb1⟩
  have HB1 := Lib.hid (below_up HB0.out hb1 HB0.out.size)
  have HX1 := Lib.hid (HX0.out.below hb1 HX0.out.lt)
  clear hb1 HX0 HB0
  obtain ⟨bx, bbl⟩ := box1 w1 #[.int .i64 x, .int .i64 y, .int .i64 z] 3
  have HB2 := Lib.hid (below_up HB1.out bbl HB1.out.size)
  have HX2 := Lib.hid (HX1.out.below bbl HX1.out.lt)
  have HL2 := Lib.hid bx
  have hcl := HX1.out.lt
  go_upto_region 4 with fail
  generalize w1.alloc (.cells #[.int .i64 x, .int .i64 y, .int .i64 z] 3) = w2 at *
  generalize w1.heap.size = L at *
  clear bx bbl
  go_wp2_with fail
  refine (sort3_any x y z L w2 HL2.out).mono ?_
  rintro e w3 ⟨rfl, a, b, d, hab, hbd, hl3, hg3⟩
  have HT := Lib.hid (show TriAt w w3 c vcs vwk vsp L a b d from ⟨below_grown HB2.out hg3 HB2.out.size (by omega), HX2.out.kept hg3 (by simp; omega), hl3⟩)
  clear hl3 hg3 HB2 HX2 HL2 HB1 HX1
  go_upto_region 5 with fail
  have HKS := Lib.hid (fun W (hW : Below w3.heap.size w3 W) => (HT.out.to hW).cells)
  have HWK := Lib.hid (fun W (hW : Below w3.heap.size w3 W) => Worked_any c vcs vwk vsp a b W (H.out.below (HT.out.to hW).below))
  go_cut [10, 11] (WkMid c a b w3)
  case first =>
    go_region_held3 (fun W => (W.cell? ⟨w.heap.size, 0, none⟩ = some (.int .i64 c.off) ∧ W.cell? ⟨w.heap.size, 1, none⟩ = some vcs ∧ W.cell? ⟨w.heap.size, 2, none⟩ = some vwk ∧ W.cell? ⟨w.heap.size, 3, none⟩ = some vsp) ∧ (W.cell? ⟨L, 0, none⟩ = some (.int .i64 a) ∧ W.cell? ⟨L, 1, none⟩ = some (.int .i64 b) ∧ W.cell? ⟨L, 2, none⟩ = some (.int .i64 d)))
      (first | exact HKS.out _ hB | exact HKS.out _ (Below.refl _ _).drew)
      ((go_at_call 9; refine (HWK.out _ (Below.refl _ _).drew).mono ?_; rintro e w' ⟨n, k, rfl, hk, hkn, _, hb⟩; have HQ := Lib.hid (And.intro hk hkn); clear hk hkn; have hB := below_up' (Below.refl _ w3).drew hb))
    all_goals go_wp2
    all_goals go_meet
    all_goals exact ⟨n, k, rfl, rfl, HQ.out.1, HQ.out.2, hB⟩
  obtain ⟨w4, rfl⟩ : ∃ w4, w4 = wc := ⟨_, rfl⟩
  obtain ⟨n1, k1, rfl, rfl, hk1, hn1, hbw⟩ := hcut
  have HQk1 := Lib.hid (And.intro hk1 hn1)
  clear hk1 hn1
  have HT4 := Lib.hid (HT.out.to hbw)
  clear hbw HKS HWK HT
  go_upto_region 6 with fail
  have HKS := Lib.hid (fun W (hW : Below w4.heap.size w4 W) => (HT4.out.to hW).cells)
  have HWK := Lib.hid (fun W (hW : Below w4.heap.size w4 W) => Worked_any c vcs vwk vsp b d W (H.out.below (HT4.out.to hW).below))
  go_cut [12, 13] (WkMid c b d w4)
  case first =>
    go_region_held3 (fun W => (W.cell? ⟨w.heap.size, 0, none⟩ = some (.int .i64 c.off) ∧ W.cell? ⟨w.heap.size, 1, none⟩ = some vcs ∧ W.cell? ⟨w.heap.size, 2, none⟩ = some vwk ∧ W.cell? ⟨w.heap.size, 3, none⟩ = some vsp) ∧ (W.cell? ⟨L, 0, none⟩ = some (.int .i64 a) ∧ W.cell? ⟨L, 1, none⟩ = some (.int .i64 b) ∧ W.cell? ⟨L, 2, none⟩ = some (.int .i64 d)))
      (first | exact HKS.out _ hB | exact HKS.out _ (Below.refl _ _).drew)
      ((go_at_call 9; refine (HWK.out _ (Below.refl _ _).drew).mono ?_; rintro e w' ⟨n, k, rfl, hk, hkn, _, hb⟩; have HQ := Lib.hid (And.intro hk hkn); clear hk hkn; have hB := below_up' (Below.refl _ w4).drew hb))
    all_goals go_wp2
    all_goals go_meet
    all_goals exact ⟨n, k, rfl, rfl, HQ.out.1, HQ.out.2, hB⟩
  obtain ⟨w5, rfl⟩ : ∃ w5, w5 = wc := ⟨_, rfl⟩
  obtain ⟨n2, k2, rfl, rfl, hk2, hn2, hbw⟩ := hcut
  have HQk2 := Lib.hid (And.intro hk2 hn2)
  clear hk2 hn2
  have HT5 := Lib.hid (HT4.out.to hbw)
  clear hbw HKS HWK HT4
  go_upto_region 7 with fail
  have HKS := Lib.hid (fun W (hW : Below w5.heap.size w5 W) => (HT5.out.to hW).cells)
  have HWK := Lib.hid (fun W (hW : Below w5.heap.size w5 W) => Worked_any c vcs vwk vsp a d W (H.out.below (HT5.out.to hW).below))
  go_cut [14, 15] (WkMid c a d w5)
  case first =>
    go_region_held3 (fun W => (W.cell? ⟨w.heap.size, 0, none⟩ = some (.int .i64 c.off) ∧ W.cell? ⟨w.heap.size, 1, none⟩ = some vcs ∧ W.cell? ⟨w.heap.size, 2, none⟩ = some vwk ∧ W.cell? ⟨w.heap.size, 3, none⟩ = some vsp) ∧ (W.cell? ⟨L, 0, none⟩ = some (.int .i64 a) ∧ W.cell? ⟨L, 1, none⟩ = some (.int .i64 b) ∧ W.cell? ⟨L, 2, none⟩ = some (.int .i64 d)))
      (first | exact HKS.out _ hB | exact HKS.out _ (Below.refl _ _).drew)
      ((go_at_call 9; refine (HWK.out _ (Below.refl _ _).drew).mono ?_; rintro e w' ⟨n, k, rfl, hk, hkn, _, hb⟩; have HQ := Lib.hid (And.intro hk hkn); clear hk hkn; have hB := below_up' (Below.refl _ w5).drew hb))
    all_goals go_wp2
    all_goals go_meet
    all_goals exact ⟨n, k, rfl, rfl, HQ.out.1, HQ.out.2, hB⟩
  obtain ⟨w6, rfl⟩ : ∃ w6, w6 = wc := ⟨_, rfl⟩
  obtain ⟨n3, k3, rfl, rfl, hk3, hn3, hbw⟩ := hcut
  have HQk3 := Lib.hid (And.intro hk3 hn3)
  clear hk3 hn3
  have HT6 := Lib.hid (HT5.out.to hbw)
  clear hbw HKS HWK HT5
  go_upto_region 8 with fail
  have HKS := Lib.hid (fun W (hW : Below w6.heap.size w6 W) => (HT6.out.to hW).cells)
  have HWK := Lib.hid (fun W (hW : Below w6.heap.size w6 W) => Spans_any c vcs vwk vsp a d W (H.out.below (HT6.out.to hW).below))
  go_cut [16, 17] (SpMid c a d w6)
  case first =>
    go_region_held3 (fun W => (W.cell? ⟨w.heap.size, 0, none⟩ = some (.int .i64 c.off) ∧ W.cell? ⟨w.heap.size, 1, none⟩ = some vcs ∧ W.cell? ⟨w.heap.size, 2, none⟩ = some vwk ∧ W.cell? ⟨w.heap.size, 3, none⟩ = some vsp) ∧ (W.cell? ⟨L, 0, none⟩ = some (.int .i64 a) ∧ W.cell? ⟨L, 1, none⟩ = some (.int .i64 b) ∧ W.cell? ⟨L, 2, none⟩ = some (.int .i64 d)))
      (first | exact HKS.out _ hB | exact HKS.out _ (Below.refl _ _).drew)
      ((go_at_call 18; refine (HWK.out _ (Below.refl _ _).drew).mono ?_; rintro e w' ⟨v, l, k, rfl, hch, hk, _, hb⟩; obtain ⟨al, cl, rfl⟩ := SliceAt.len hch; have HQ := Lib.hid (And.intro hch hk); clear hch hk; have hB := below_up' (Below.refl _ w6).drew hb))
    all_goals go_wp2
    all_goals go_meet
    all_goals exact ⟨l, k, rfl, HQ.out.1, HQ.out.2, hB⟩
  obtain ⟨w7, rfl⟩ : ∃ w7, w7 = wc := ⟨_, rfl⟩
  obtain ⟨sl, k4, rfl, hch, hk4, hbw⟩ := hcut
  obtain ⟨al, cl, rfl⟩ := SliceAt.len hch
  have HCH := Lib.hid hch
  have HK4 := Lib.hid hk4
  clear hch hk4
  have HT7 := Lib.hid (HT6.out.to hbw)
  clear hbw HKS HWK HT6
  by_cases hk1 : k1 ≠ 0
  · have q1 : (k1 != 0) = true := by simpa using hk1
    have q2 : (k1 == 0) = false := by simpa using hk1
    go_wp2_with fail
    go_ret
    exact ⟨rfl, HT7.out.below⟩
  obtain rfl : k1 = 0 := by omega
  by_cases hk2 : k2 ≠ 0
  · have q1 : (k2 != 0) = true := by simpa using hk2
    have q2 : (k2 == 0) = false := by simpa using hk2
    go_wp2_with fail
    go_ret
    exact ⟨rfl, HT7.out.below⟩
  obtain rfl : k2 = 0 := by omega
  by_cases hk3 : k3 ≠ 0
  · have q1 : (k3 != 0) = true := by simpa using hk3
    have q2 : (k3 == 0) = false := by simpa using hk3
    go_wp2_with fail
    go_ret
    exact ⟨rfl, HT7.out.below⟩
  obtain rfl : k3 = 0 := by omega
  clear hk1 hk2 hk3
  obtain ⟨hf, hs1⟩ := HQk1.out.1.1 rfl
  obtain ⟨_, hs2⟩ := HQk2.out.1.1 rfl
  obtain ⟨_, hs3⟩ := HQk3.out.1.1 rfl
  obtain ⟨r1, r2, r3, r4⟩ := (strI_zero a b).1 hs1
  obtain ⟨_, _, r5, r6⟩ := (strI_zero b d).1 hs2
  have hn1 := HQk1.out.2 rfl
  have hn2 := HQk2.out.2 rfl
  have hn3 := HQk3.out.2 rfl
  have hsum : n1 + n2 = n3 := by rw [hn1, hn2, hn3]; exact adds_law hf.fine.ok r1 r3 r5
  have hb1 := lens_pre List.prefix_rfl (open_apart hf.fine.ok a b r1) r3
  have hb2 := lens_pre List.prefix_rfl (open_apart hf.fine.ok b d (by omega)) r5
  have hap := open_apart hf.fine.ok a d r1
  have hk4' := HK4.out ⟨hf, hs3⟩
  rw [← hn1] at hb1
  rw [← hn2] at hb2
  obtain ⟨hb1, hb1'⟩ := hb1
  obtain ⟨hb2, hb2'⟩ := hb2
  have HAP := Lib.hid hap
  have HN3 := Lib.hid hn3
  have HSM := Lib.hid hsum
  have qs : (n1 + n2 == n3) = true := by simpa using hsum
  clear HQk1 HQk2 HQk3 HK4 hf hs1 hs2 hs3 hn1 hn2 hn3 hap hsum
  have hsl : sl.length ≤ 50000 ∧ (∀ i, 0 ≤ lens (sl.take i) ∧ lens (sl.take i) ≤ 3000001) ∧ ((k4 = 0 ∧ lens sl = n3 ∧ Apart 0 3000001 sl) ∨ k4 = 4) := by
    rcases hk4' with ⟨g1, g2, g3⟩ | ⟨g1, g2⟩
    · refine ⟨g3, fun i => ?_, .inl ⟨g1, by rw [g2, ← HN3.out], by rw [g2]; exact (HAP.out.le r1).hi r6⟩⟩
      have := lens_pre (List.take_prefix i sl) (g2 ▸ HAP.out) (by omega)
      omega
    · refine ⟨by rw [g2]; simp, fun i => ?_, .inr g1⟩
      rw [g2]
      simp [lens]
  obtain ⟨hsl1, hsl2, hsl3⟩ := hsl
  have HS2 := Lib.hid hsl2
  have HS3 := Lib.hid hsl3
  clear hsl2 hsl3 hk4'
  go_wp2_with fail
  go_loopw [18, 85] (fun sv iv wr => ∃ i : Nat, iv = .int .i64 i ∧ sv = .int .i64 (lens (sl.take i)) ∧ i ≤ sl.length ∧ Below w7.heap.size w7 wr) (fun _ iv _ => sl.length - (intOf iv).toNat)
  case atStart => exact ⟨0, rfl, by simp [lens], Nat.zero_le _, Below.refl _ _⟩
  case round =>
    obtain ⟨i, rfl, rfl, hi, hbr⟩ := hrel
    have HBR := Lib.hid hbr
    clear hbr
    by_cases hlt : i < sl.length
    · obtain ⟨g, of', cap', hv, hgb, hel⟩ := HCH.out.at (by omega)
      cases hv
      obtain ⟨e0, e1⟩ := hel i hlt
      have c0 := (below_cell HBR.out hgb).trans e0
      have c1 := (below_cell HBR.out hgb).trans e1
      have htk : sl.take (i + 1) = sl.take i ++ [sl[i]] := List.take_succ_eq_append_getElem hlt
      have hln := lens_snoc (sl.take i) sl[i]
      rw [← htk] at hln
      have HLN := Lib.hid hln
      obtain ⟨p1, p2⟩ := HS2.out i
      obtain ⟨p3, p4⟩ := HS2.out (i + 1)
      rw [hln] at p3 p4
      generalize sl[i] = u at *
      obtain ⟨u1, u2⟩ := u
      simp only at c0 c1 p3 p4
      have HBX := Lib.hid (box1 wr #[.int .i64 u1, .int .i64 u2] 41)
      have m0 := HBX.out.1.cell 0
      have m1 := HBX.out.1.cell 1
      clear e0 e1 hel htk hln
      generalize lens (sl.take i) = ls at *
      go_wp2_with fail
      go_roundw
      case rel => exact ⟨i + 1, by go_num, by rw [HLN.out], hlt, below_up' HBR.out HBX.out.2⟩
      case measure => simp [intOf]; omega
    · obtain rfl : i = sl.length := by omega
      have HLS := Lib.hid (List.take_length (l := sl))
      have hls := HS2.out sl.length
      rw [HLS.out] at hls ⊢
      obtain ⟨hls1, hls2⟩ := hls
      have HCK := Lib.hid (CheckSpans_any _ sl wr (HCH.out.below HBR.out))
      rcases HS3.out with ⟨rfl, hl3, hap⟩ | rfl
      · have qn : (lens sl == n3) = true := by simpa using hl3
        have HAP2 := Lib.hid hap
        generalize lens sl = ls at *
        clear hl3 hap
        go_wp2_with fail
        refine HCK.out.mono ?_
        rintro e w9 ⟨⟨cc, rfl, hcc⟩, hb9⟩
        obtain rfl : cc = 0 := hcc.2 ⟨hsl1, HAP2.out⟩
        have HB9 := Lib.hid (below_up HT7.out.below (below_up' HBR.out hb9) HT7.out.below.size)
        clear hcc hb9
        go_wp2_with fail
        go_ret
        exact ⟨rfl, HB9.out⟩
      · generalize lens sl = ls at *
        go_wp2_with fail
        go_ret
        exact ⟨rfl, below_up HT7.out.below HBR.out HT7.out.below.size⟩

end Go.Proofs.Ytjnaioellghggaa
