/- The walks of slices.EqualFunc at postings and of portkeep2.sameIndex, at two indexes that hold the same. -/
import Derived.Test.YtfjcbclakgidkaaIaCi
namespace Go.Proofs.Ytfjcbclakgidkaa
open Go.RowKit

theorem eqI (v v' : Value) (l : List Int) (w : World) (h : IntsAt w v l) (h' : IntsAt w v' l) (hl : l.length ≤ 100000000) :
    Calls Try.prog 23 #[v, v'] w fun e w' => e = .returned (.bool true) ∧ Below w.heap.size w w' := by
  rcases h.two with ⟨a, cap, rfl, rfl⟩ | ⟨h0, b, off, cap, rfl⟩
  · obtain ⟨a2, c2, rfl⟩ := SliceAt.len h'.1
    refine (Try.slices_Equal_int_empty a a2 cap 0 c2 w (by omega)).mono ?_
    rintro e w' ⟨rfl, rfl⟩
    exact ⟨rfl, Below.refl _ _⟩
  · rcases h'.two with ⟨a2, c2, _, h2⟩ | ⟨_, b2, off2, c2, rfl⟩
    · rw [h2] at h0
      simp at h0
    · refine (Try.slices_Equal_int b off l.length cap b2 off2 l.length c2 l l w (Nat.le_refl _) (Nat.le_refl _) (by omega) (by omega) (h.cells h0).2 (h'.cells h0).2).mono ?_
      rintro e w' ⟨rfl, q, rfl⟩
      exact ⟨by simp, drewN_below (Below.refl _ _) q⟩
set_option maxRecDepth 100000 in
set_option maxHeartbeats 4000000 in
theorem sameP_ok (p : PoD) (tv bv tv' bv' : Value) (w : World) (h1 : IntsAt w tv p.2.1) (h2 : IntsAt w bv p.2.2) (h3 : IntsAt w tv' p.2.1) (h4 : IntsAt w bv' p.2.2) (hl : p.2.1.length ≤ 1000000 ∧ p.2.2.length ≤ 1000000) :
    Calls Try.prog 25 #[.agg #[.int .i64 p.1, tv, bv], .agg #[.int .i64 p.1, tv', bv']] w fun e w' => e = .returned (.bool true) ∧ Below w.heap.size w w' := by
  obtain ⟨pid, hpid⟩ : ∃ pid, pid = p.1 := ⟨_, rfl⟩
  rw [← hpid]
  clear hpid
  have k0 := Has.new w #[.int .i64 pid, tv, bv] 57
  have b0 : Below w.heap.size w (w.alloc (.cells #[.int .i64 pid, tv, bv] 57)) := (Below.refl _ _).alloc (Nat.le_refl _) _
  have k1 := Has.new (w.alloc (.cells #[.int .i64 pid, tv, bv] 57)) #[.int .i64 pid, tv', bv'] 57
  have b1 := b0.alloc b0.size (.cells #[.int .i64 pid, tv', bv'] 57)
  have m0 := k0.alloc (.cells #[.int .i64 pid, tv', bv'] 57)
  have s0 : (w.alloc (.cells #[.int .i64 pid, tv, bv] 57)).heap.size = w.heap.size + 1 := World.size_alloc _ _
  rw [s0] at k1
  obtain ⟨P1, hP1⟩ : ∃ P1, P1 = w.heap.size := ⟨_, rfl⟩
  obtain ⟨P2, hP2⟩ : ∃ P2, P2 = w.heap.size + 1 := ⟨_, rfl⟩
  rw [← hP2] at k1
  rw [← hP1] at m0
  have H1 := Lib.hid (h1.below b1)
  have H2 := Lib.hid (h2.below b1)
  have H3 := Lib.hid (h3.below b1)
  have H4 := Lib.hid (h4.below b1)
  have HB := Lib.hid b1
  have HK1 := Lib.hid m0
  have HK2 := Lib.hid k1
  have a0 := m0.cell 0
  have a1 := m0.cell 1
  have a2 := m0.cell 2
  have c0 := k1.cell 0
  have c1 := k1.cell 1
  have c2 := k1.cell 2
  have hB1 : w.heap.size ≤ _ := b1.size
  clear h1 h2 h3 h4 k0 b0 k1 b1 m0 s0
  go_enter Try.func25, Try.ntmps25
  go_upto_region 1 with fail
  rw [← hP2, ← hP1]
  clear hP1 hP2
  generalize (w.alloc (.cells #[.int .i64 pid, tv, bv] 57)).alloc (.cells #[.int .i64 pid, tv', bv'] 57) = w2 at *
  go_wp2_with fail
  refine (eqI tv tv' p.2.1 w2 H1.out H3.out (by omega)).mono ?_
  rintro e w3 ⟨rfl, hb3⟩
  replace a0 := (below_cell hb3 HK1.out.lt).trans a0
  replace a2 := (below_cell hb3 HK1.out.lt).trans a2
  replace c2 := (below_cell hb3 HK2.out.lt).trans c2
  have H23 := Lib.hid (H2.out.below hb3)
  have H43 := Lib.hid (H4.out.below hb3)
  have HB3 := Lib.hid (HB.out.trans (hb3.mono hB1))
  have hB3 : w.heap.size ≤ w3.heap.size := HB3.out.size
  clear hb3 a1 c1 c0
  go_wp2_with fail
  refine (eqI bv bv' p.2.2 w3 H23.out H43.out (by omega)).mono ?_
  rintro e w4 ⟨rfl, hb4⟩
  have HB4 := Lib.hid (HB3.out.trans (hb4.mono hB3))
  clear hb4
  go_wp2_with fail
  go_ret
  exact ⟨rfl, HB4.out⟩
set_option maxRecDepth 100000 in
set_option maxHeartbeats 8000000 in
theorem EqualFunc_ok (v v' : Value) (L : List PoD) (w : World) (h : PoL w v L) (h' : PoL w v' L) (hl : L.length ≤ 1000) (hp : ∀ p ∈ L, p.2.1.length ≤ 1000000 ∧ p.2.2.length ≤ 1000000) :
    Calls Try.prog 24 #[v, v', .func (.func 25) #[] #[]] w fun e w' => e = .returned (.bool true) ∧ Below w.heap.size w w' := by
  obtain ⟨a, c, rfl⟩ := PoL.len h
  obtain ⟨a', c', rfl⟩ := PoL.len h'
  have H := Lib.hid h
  have H' := Lib.hid h'
  have HP := Lib.hid hp
  clear h h' hp
  go_enter Try.func24, Try.ntmps24
  go_wp2_with fail
  go_loopw [17] (fun qv wr => ∃ i : Nat, qv = .int .i64 ((i : Nat) : Int) ∧ i ≤ L.length ∧ Below w.heap.size w wr) (fun qv _ => L.length - (intOf qv).toNat)
  case atStart => exact ⟨0, rfl, Nat.zero_le _, Below.refl _ _⟩
  case round =>
    obtain ⟨i, rfl, hi, hbr⟩ := hrel
    have HBR := Lib.hid hbr
    clear hbr
    by_cases hlt : i < L.length
    · obtain ⟨b1, o1, d1, hv1, _, hb1, hel1⟩ := PoL.at H.out (by omega)
      simp only [Value.slice.injEq] at hv1
      obtain ⟨rfl, _, rfl⟩ := hv1
      obtain ⟨b2, o2, d2, hv2, _, hb2, hel2⟩ := PoL.at H'.out (by omega)
      simp only [Value.slice.injEq] at hv2
      obtain ⟨rfl, _, rfl⟩ := hv2
      obtain ⟨tv, bv, ⟨e0, e1, e2⟩, ht, hb⟩ := hel1 i hlt
      obtain ⟨tv', bv', ⟨f0, f1, f2⟩, ht', hb'⟩ := hel2 i hlt
      obtain ⟨p, hpe⟩ : ∃ p, p = L[i] := ⟨_, rfl⟩
      rw [← hpe] at e0 f0 ht hb ht' hb'
      have hpl := HP.out p (by rw [hpe]; exact List.getElem_mem _)
      obtain ⟨t1, t2, t3, ht1⟩ : ∃ a n c, tv = .slice a n c := by
        obtain ⟨a1, c1, e1⟩ := SliceAt.len ht.1
        exact ⟨_, _, _, e1⟩
      obtain ⟨u1, u2, u3, hu1⟩ : ∃ a n c, bv = .slice a n c := by
        obtain ⟨a1, c1, e1⟩ := SliceAt.len hb.1
        exact ⟨_, _, _, e1⟩
      obtain ⟨t4, t5, t6, ht4⟩ : ∃ a n c, tv' = .slice a n c := by
        obtain ⟨a1, c1, e1⟩ := SliceAt.len ht'.1
        exact ⟨_, _, _, e1⟩
      obtain ⟨u4, u5, u6, hu4⟩ : ∃ a n c, bv' = .slice a n c := by
        obtain ⟨a1, c1, e1⟩ := SliceAt.len hb'.1
        exact ⟨_, _, _, e1⟩
      subst ht1 hu1 ht4 hu4
      obtain ⟨pid, hpid⟩ : ∃ pid, pid = p.1 := ⟨_, rfl⟩
      rw [← hpid] at e0 f0
      have HPID := Lib.hid hpid
      have x0 := (below_cell HBR.out hb1).trans e0
      have x1 := (below_cell HBR.out hb1).trans e1
      have x2 := (below_cell HBR.out hb1).trans e2
      have hbn : Below wr.heap.size wr (wr.alloc (.cells #[.int .i64 pid, .slice t1 t2 t3, .slice u1 u2 u3] 57)) := (Below.refl _ _).alloc (Nat.le_refl _) _
      have hbn1 := HBR.out.trans (hbn.mono HBR.out.size)
      have k0 := Has.new wr #[.int .i64 pid, .slice t1 t2 t3, .slice u1 u2 u3] 57
      have y0 := (below_cell hbn1 hb2).trans f0
      have y1 := (below_cell hbn1 hb2).trans f1
      have y2 := (below_cell hbn1 hb2).trans f2
      have HBN1 := Lib.hid hbn1
      have HK0 := Lib.hid k0
      have HT := Lib.hid ht
      have HB := Lib.hid hb
      have HT' := Lib.hid ht'
      have HB' := Lib.hid hb'
      clear hel1 hel2 e0 e1 e2 f0 f1 f2 ht hb ht' hb' hpe hpid hbn hbn1 k0
      go_upto_region 6 with fail
      obtain ⟨P1, hP1⟩ : ∃ P1, P1 = wr.heap.size := ⟨_, rfl⟩
      rw [← hP1] at HK0 ⊢
      clear hP1 x0 x1 x2
      generalize wr.alloc (.cells #[.int .i64 pid, .slice t1 t2 t3, .slice u1 u2 u3] 57) = w2 at *
      have hbn : Below w2.heap.size w2 (w2.alloc (.cells #[.int .i64 pid, .slice t4 t5 t6, .slice u4 u5 u6] 57)) := (Below.refl _ _).alloc (Nat.le_refl _) _
      have k1 := Has.new w2 #[.int .i64 pid, .slice t4 t5 t6, .slice u4 u5 u6] 57
      have HBN2 := Lib.hid (HBN1.out.trans (hbn.mono HBN1.out.size))
      have m0 := HK0.out.below hbn HK0.out.lt
      clear hbn
      go_upto_region 7 with fail
      obtain ⟨P2, hP2⟩ : ∃ P2, P2 = w2.heap.size := ⟨_, rfl⟩
      rw [← hP2] at k1 ⊢
      clear hP2 y0 y1 y2
      generalize w2.alloc (.cells #[.int .i64 pid, .slice t4 t5 t6, .slice u4 u5 u6] 57) = w3 at *
      have z0 := m0.cell 0
      have z1 := m0.cell 1
      have z2 := m0.cell 2
      have v0 := k1.cell 0
      have v1 := k1.cell 1
      have v2 := k1.cell 2
      have HC := Lib.hid (sameP_ok p (.slice t1 t2 t3) (.slice u1 u2 u3) (.slice t4 t5 t6) (.slice u4 u5 u6) w3 (HT.out.below HBN2.out) (HB.out.below HBN2.out) (HT'.out.below HBN2.out) (HB'.out.below HBN2.out) hpl)
      have hc := HC.out
      rw [← HPID.out] at hc
      have HC2 := Lib.hid hc
      clear hc m0 k1
      go_wp2_with fail
      refine HC2.out.mono ?_
      rintro e w4 ⟨rfl, hb4⟩
      have HB4 := Lib.hid (HBN2.out.trans (hb4.mono HBN2.out.size))
      clear hb4 z0 z1 z2 v0 v1 v2
      go_wp2_with fail
      go_roundw
      case rel => exact ⟨i + 1, by go_num, hlt, HB4.out⟩
      case measure => simp [intOf]; omega
    · obtain rfl : i = L.length := by omega
      go_wp2_with fail
      go_ret
      exact ⟨rfl, HBR.out⟩
end Go.Proofs.Ytfjcbclakgidkaa
