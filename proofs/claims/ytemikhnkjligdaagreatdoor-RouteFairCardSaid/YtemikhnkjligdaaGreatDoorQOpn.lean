/- The walk of cal.Open. -/
import Derived.Test.YtemikhnkjligdaaGreatDoorQAdd
namespace Go.Proofs.YtemikhnkjligdaaGreatDoor
open Go Go.RowKit Go.Shelf
attribute [local go_sem] Oper.semAt_some

theorem openL_one {c : CalD} (hc : CalOk c) {m : Int} (h0 : 0 ≤ m) : openL c m (m + 1) ≠ [] ↔ openB c m = true := by
  have hap := open_apart hc m (m + 1) h0
  have hcov := open_cov hc m (m + 1) h0 m
  rw [show (decide (m ≤ m) && decide (m < m + 1) && openB c m) = openB c m by simp; omega] at hcov
  rw [← hcov]
  constructor
  · intro h
    obtain ⟨s, r, hs⟩ := List.exists_cons_of_ne_nil h
    have := hap.mem s (by rw [hs]; exact List.mem_cons_self)
    rw [covB_iff]
    exact ⟨s, by rw [hs]; exact List.mem_cons_self, by omega, by omega⟩
  · intro h hn
    rw [hn] at h
    cases h

structure KeepTwo (w : World) (B : Nat) (v1 v2 : Value) (O : Blocks) (W : World) : Prop where
  c1 : Has W B #[v1] 4
  c2 : Has W (B + 1) #[v2] 28
  below : Below w.heap.size w W
  off : ∀ k, B ≤ k → k < B + 2 → ¬ O k
  own : ∀ k, O k → w.heap.size ≤ k
theorem keepTwo_abides {w : World} {B : Nat} {v1 v2 : Value} : Abides (KeepTwo w B v1 v2) := by
  intro O W O' W' h ht ho hs
  have hb := h.c2.lt
  have hz := h.below.size
  have ho' : ∀ k, O' k → w.heap.size ≤ k := fun k g => by
    rcases ho k g with g | g
    · exact h.own k g
    · omega
  refine ⟨ht.has h.c1 (h.off _ (by omega) (by omega)), ht.has h.c2 (h.off _ (by omega) (by omega)), ht.below h.below hz h.own, fun k g1 g2 g => ?_, ho'⟩
  rcases ho _ g with g | g
  · exact h.off k g1 g2 g
  · omega
theorem keepTwo_put {w : World} {B : Nat} {v1 v2 : Value} {O : Blocks} {W : World} (h : KeepTwo w B v1 v2 O W) {D : Nat} (hD : O D) (hlt : ∀ k, O k → k < W.heap.size) (o : Obj) : KeepTwo w B v1 v2 O (W.putObj D o) :=
  keepTwo_abides _ _ _ _ h (Turns.putObj W o hD) (fun _ g => .inl g) (fun k g => by simpa using hlt k g)
theorem keepTwo_stop {w : World} {B : Nat} {v1 v2 : Value} {O R : Blocks} {W : World} (h : KeepTwo w B v1 v2 O W) (hB : w.heap.size ≤ B) (hR : ∀ k, B ≤ k → k < B + 2 → ¬ R k) (v1' v2' : Value) :
    Held O R W ((W.setCell ⟨B, 0, none⟩ v1').setCell ⟨B + 1, 0, none⟩ v2') ∧ KeepTwo w B v1' v2' O ((W.setCell ⟨B, 0, none⟩ v1').setCell ⟨B + 1, 0, none⟩ v2') := by
  refine ⟨(Held.of_turns (Turns.setCell (O := fun k => k = B) _ _ rfl) ?_).trans (Held.of_turns (Turns.setCell (O := fun k => k = B + 1) _ _ rfl) ?_),
    ⟨(h.c1.set 0 v1').set_other 0 _ (by omega), (h.c2.set_other 0 _ (by omega)).set 0 v2', (h.below.setCell (p := ⟨B, 0, none⟩) (by simp only; omega) _).setCell (p := ⟨B + 1, 0, none⟩) (by simp only; omega) _, h.off, h.own⟩⟩
  · rintro k (g | g) rfl
    · exact h.off _ (by omega) (by omega) g
    · exact hR _ (by omega) (by omega) g
  · rintro k (g | g) rfl
    · exact h.off _ (by omega) (by omega) g
    · exact hR _ (by omega) (by omega) g
structure OpnStop (w : World) (B : Nat) (ne : Prop) (c : Code) (O : Blocks) (W : World) : Prop where
  ret : c = .ret
  ne : ne
  two : KeepTwo w B (.bool true) (.int .i64 0) O W
theorem opnStop_abides {w : World} {B : Nat} {ne : Prop} {c : Code} : Abides (OpnStop w B ne c) := fun O W O' W' h ht ho hs => ⟨h.ret, h.ne, keepTwo_abides _ _ _ _ h.two ht ho hs⟩
theorem results_bool_cell {fn : Func} {p q : Tmp} (h : fn.results = #[.cell p 4, .cell q 28]) {tmps : Array Value} {w : World} {b1 b2 : Nat} {v1 : Bool} {v2 : Int} (ht1 : tmps.getD p undef = .pointer (some ⟨b1, 0, none⟩)) (ht2 : tmps.getD q undef = .pointer (some ⟨b2, 0, none⟩))
    (h1 : Has w b1 #[.bool v1] 4) (h2 : Has w b2 #[.int .i64 v2] 28) : (results fn tmps).run Tryz.prog w = .ok (.tuple #[.bool v1, .int .i64 v2]) w := by
  have c1 := h1.cell 0
  have c2 := h2.cell 0
  simp at c1 c2
  rw [Array.getD_eq_getD_getElem?] at ht1 ht2
  simp only [results, h]
  simp [go_sem, ht1, ht2, c1, c2]
def OpnPost (c : CalD) (m : Int) (w : World) (e : Ending) (w' : World) : Prop :=
  ∃ (b : Bool) (k : Int), e = .returned (.tuple #[.bool b, .int .i64 k]) ∧ (k = 0 ↔ CkFine c ∧ momI m = 0) ∧ (k = 0 → b = openB c m) ∧ (k ≠ 0 → b = false) ∧ Below w.heap.size w w'

set_option maxRecDepth 100000 in
set_option maxHeartbeats 4000000 in
theorem Open_any (c : CalD) (vcs vwk vsp : Value) (m : Int) (w : World) (h : CalAt w vcs vwk vsp c) :
    Calls Tryz.prog 53 #[.agg #[.int .i64 c.off, vcs, vwk, vsp], .int .i64 m] w (OpnPost c m w) := by
  have H := Lib.hid h
  have hbx := three_boxes w #[.int .i64 c.off, vcs, vwk, vsp] #[.bool false] #[.int .i64 0] 77 4 28
  clear h
  refine (callsIn_wide (n := 3)).1 ?_
  refine callsIn_of_wp_marks Tryz.func53 rfl trivial ?_ rfl
  simp only [Tryz.ntmps53, List.size_toArray, List.length_cons, List.length_nil, Nat.reduceAdd, Nat.reduceSub, Array.replicate_succ, Array.replicate_zero, List.push_toArray, List.append_toArray, List.nil_append, List.cons_append]
  refine wpIn_wide.2 ?_
  go_upto_region 1 with fail
  generalize ((w.alloc (.cells #[.int .i64 c.off, vcs, vwk, vsp] 77)).alloc (.cells #[.bool false] 4)).alloc (.cells #[.int .i64 0] 28) = w1 at *
  obtain ⟨x1, x2, x3, hz1, hb1⟩ := hbx
  have k0 := x1.cell 0
  have k1 := x1.cell 1
  have k2 := x1.cell 2
  have k3 := x1.cell 3
  have HX1 := Lib.hid x1
  have HX2 := Lib.hid x2
  have HX3 := Lib.hid x3
  have HB1 := Lib.hid hb1
  have hck := CheckCalendar_any c vcs vwk vsp w1 (H.out.below hb1)
  clear x1 x2 x3 hb1 hz1
  go_wp2_with fail
  refine hck.mono ?_
  clear hck
  rintro e w2 ⟨⟨ca, rfl, hca⟩, hb2⟩
  have hor := or_any _ [ca, momI m] _ (ints2_at w2 ca (momI m) 28) (by simp)
  rw [orI2] at hor
  have hb3 := box1 w2 #[.int .i64 ca, .int .i64 (momI m)] 28
  have hb23 := below_up' hb2 hb3.2
  have Y1 := Lib.hid (HX1.out.below hb23 HX1.out.lt)
  have Y2 := Lib.hid (HX2.out.below hb23 HX2.out.lt)
  have Y3 := Lib.hid (HX3.out.below hb23 HX3.out.lt)
  have HB3 := Lib.hid (below_up HB1.out hb23 HB1.out.size)
  have HCA := Lib.hid hca
  clear hb2 hca k0 k1 k2 k3 HX1 HX2 HX3 hb3 hb23 HB1
  go_wp2_with fail
  refine (moment_any m w2).mono ?_
  rintro e w' ⟨rfl, rfl⟩
  generalize hmo : momI m = mo at *
  have HMO := Lib.hid hmo
  clear hmo
  go_wp2_with fail
  refine hor.mono ?_
  rintro e w' ⟨rfl, rfl⟩
  clear hor
  generalize w2.alloc (.cells #[.int .i64 ca, .int .i64 mo] 28) = w3 at *
  have hgoal : (if ca = 0 then mo else ca) = 0 ↔ CkFine c ∧ momI m = 0 := by
    rw [← HCA.out, HMO.out]
    by_cases h : ca = 0
    · simp [h]
    · simp [h]
  generalize (if ca = 0 then mo else ca) = k at *
  have n1 := Y2.out.cell 0
  have n2 := Y3.out.cell 0
  have z1 := Y2.out.fz 0
  have z2 := Y3.out.fz 0
  have k0 := Y1.out.cell 0
  have k1 := Y1.out.cell 1
  have k2 := Y1.out.cell 2
  have k3 := Y1.out.cell 3
  have hlt3 := Y3.out.lt
  by_cases hk : k = 0
  · subst hk
    obtain ⟨hf, hm⟩ := hgoal.1 rfl
    have r1 : 0 ≤ m ∧ m ≤ 3000000 := by
      unfold momI at hm
      split at hm
      · assumption
      · cases hm
    obtain ⟨r1, r2⟩ := r1
    have HF := Lib.hid hf
    have HG := Lib.hid (show CkFine c ∧ momI m = 0 from ⟨hf, hm⟩)
    clear hgoal hf hm
    have HOP := Lib.hid (open_any c vcs vwk vsp m (m + 1) w3)
    go_wp2_with fail
    refine HOP.out.mono ?_
    clear HOP
    have h5 := three_boxes w3 #[.int .i64 c.off, vcs, vwk, vsp] #[.int .i64 m] #[.int .i64 (m + 1)] 77 3 3
    rintro e w5 ⟨rfl, hw5⟩
    rw [hw5] at h5
    obtain ⟨y1, y2, y3, hz5, hb5⟩ := h5
    have HY1 := Lib.hid y1
    have HY2 := Lib.hid y2
    have HY3 := Lib.hid y3
    have HZ5 := Lib.hid hz5
    have HB5 := Lib.hid (below_up HB3.out hb5 HB3.out.size)
    have HK2 := Lib.hid (show KeepTwo w (w.heap.size + 1) (.bool false) (.int .i64 0) (fun _ => False) w5 from
      ⟨Y2.out.below hb5 Y2.out.lt, Y3.out.below hb5 Y3.out.lt, below_up HB3.out hb5 HB3.out.size, fun _ _ _ h => h, fun _ h => h.elim⟩)
    have hS0 : w.heap.size + 3 ≤ w3.heap.size := by omega
    generalize w3.heap.size = S0 at *
    clear y1 y2 y3 hz5 hb5 hw5 k0 k1 k2 k3 Y1 Y2 Y3 n1 n2 z1 z2
    go_wp2_with fail
    refine (wpIn_wide (n := 3)).1 ?_
    have HNE := Lib.hid (openL_one HF.out.fine.ok r1)
    refine wpIn_range_sep (gf := 95) (lb := #[.pointer (some ⟨S0, 0, none⟩), .pointer (some ⟨S0 + 1, 0, none⟩), .pointer (some ⟨S0 + 1 + 1, 0, none⟩)]) rfl (enters_of Tryz.func95 (by kernel_rfl) rfl)
      (encs := encsS) (R := fun k => k < w.heap.size ∨ (S0 ≤ k ∧ k < S0 + 3)) (xs := openL c m (m + 1)) ?seq (fun _ => rfl)
      (fun pre O W => KeepTwo w (w.heap.size + 1) (.bool false) (.int .i64 0) O W ∧ pre = []) (fun c' _ => OpnStop w (w.heap.size + 1) (openL c m (m + 1) ≠ []) c')
      (fun _ => abides_and keepTwo_abides _) (fun _ _ => opnStop_abides) ⟨HK2.out, rfl⟩
      (fun x _ a' _ => a' = { tmps := #[.agg #[.int .i64 c.off, vcs, vwk, vsp], .int .i64 m, .pointer (some ⟨w.heap.size, 0, none⟩), undef, .pointer (some ⟨w.heap.size + 1, 0, none⟩), .pointer (some ⟨w.heap.size + 1 + 1, 0, none⟩), .int .i64 0, .agg #[.int .i64 c.off, vcs, vwk, vsp], .int .i64 ca, .int .i64 m, .int .i64 mo,
        .slice (some ⟨w2.heap.size, 0, none⟩) 2 2, .int .i64 0, .int .i64 0, .bool false, undef, .agg #[.int .i64 c.off, vcs, vwk, vsp], .int .i64 m, .int .i64 m, .int .i64 (m + 1),
        .func (.func 95) #[] #[.pointer (some ⟨S0, 0, none⟩), .pointer (some ⟨S0 + 1, 0, none⟩), .pointer (some ⟨S0 + 1 + 1, 0, none⟩)], .agg #[.int .i64 x.1, .int .i64 x.2]], defers := [] })
      (fun _ _ _ _ _ h _ => h) ?rr ?assign ?body ?done ?stop
    case seq =>
      intro W1 hb1
      have hz := HZ5.out
      have hz1 := hb1.size
      exact open_seq c vcs vwk vsp m (m + 1) S0 (S0 + 1) (S0 + 1 + 1) (fun k => k < w.heap.size ∨ (S0 ≤ k ∧ k < S0 + 3)) w W1 (fun k hk => by omega) (fun k hk => .inl hk) (.inr (by omega)) (.inr (by omega)) (.inr (by omega)) (by omega)
        (fun k hk => (hb1.block k (by omega)).trans (HB5.out.block k hk)) HF.out.fine H.out (HY1.out.below hb1 HY1.out.lt) (HY2.out.below hb1 HY2.out.lt) (HY3.out.below hb1 HY3.out.lt) r1 (by omega) (by omega) (by omega)
    case rr =>
      have hz := HZ5.out
      intro k hk
      omega
    case assign =>
      intro l' pre x O W1 K hI hlt hK
      have HK := Lib.hid hK
      clear hK
      simp only [encsS]
      gi_wp2
      exact HK.out _ _ (by simp) (Below.refl _ _)
    case body =>
      rintro pre x O Nn a' W1 ⟨hI, rfl⟩ rfl hN1 hN2 hnew hpre hO hD hLp hlt
      obtain ⟨x1, x2⟩ := x
      have n1 := hI.c1.cell 0
      have z1 := hI.c1.fz 0
      have n2 := hI.c2.cell 0
      have z2 := hI.c2.fz 0
      have HI := Lib.hid hI
      have HRR := Lib.hid (show ∀ k, w.heap.size + 1 ≤ k → k < w.heap.size + 1 + 2 → ¬ False from fun k h1 h2 => id)
      have HNN := Lib.hid (show openL c m (m + 1) ≠ [] from fun h => by rw [h] at hpre; have := hpre.length_le; simp at this)
      clear hI hpre hO hD hLp hnew
      gi_wp2
      obtain ⟨h1, h2⟩ := keepTwo_stop (R := fun _ => False) HI.out (by omega) HRR.out (.bool true) (.int .i64 0)
      exact ⟨h1, rfl, HNN.out, h2⟩
    case done =>
      rintro O W1 ⟨hI, hA⟩ hD hlt hK
      have HFN := Lib.hid (show openB c m = false from by
        by_cases h : openB c m = true
        · exact absurd hA (HNE.out.2 h)
        · simpa using h)
      have n1 := hI.c1.cell 0
      have z1 := hI.c1.fz 0
      have n2 := hI.c2.cell 0
      have z2 := hI.c2.fz 0
      obtain ⟨h1, h2⟩ := keepTwo_stop hI (R := fun _ => False) (by omega) (fun _ _ _ => id) (.bool false) (.int .i64 0)
      have HKD := Lib.hid ((h1.block _ (hlt _ hD) (.inl hD)).trans hK)
      have h3 := keepTwo_put h2 hD (fun k hk => Nat.lt_of_lt_of_le (hlt k hk) h1.size) (.deferred none)
      have H3 := Lib.hid h3
      clear hI hA hD hlt hK h1 h2 h3
      gi_wp2
      go_wp2_with fail
      refine ⟨by simp, .inl ⟨_, _, rfl, run_takeDeferred HKD.out, ?_⟩⟩
      refine ⟨_, results_bool_cell rfl rfl rfl H3.out.c1 H3.out.c2, ?_⟩
      exact ⟨_, _, rfl, ⟨fun _ => HG.out, fun _ => rfl⟩, fun _ => HFN.out.symm, fun h => absurd rfl h, H3.out.below⟩
    case stop =>
      rintro c' pre O W1 hpre ⟨rfl, hne, hI⟩ hD hlt hK
      have h3 := keepTwo_put hI hD hlt (.deferred none)
      have H3 := Lib.hid h3
      have HM := Lib.hid (HNE.out.1 hne)
      have HKD := Lib.hid hK
      clear hI hD hlt hK h3 hne
      gi_wp2
      refine ⟨by simp, .inl ⟨_, _, rfl, run_takeDeferred HKD.out, ?_⟩⟩
      refine ⟨_, results_bool_cell rfl rfl rfl H3.out.c1 H3.out.c2, ?_⟩
      exact ⟨_, _, rfl, ⟨fun _ => HG.out, fun _ => rfl⟩, fun _ => HM.out.symm, fun h => absurd rfl h, H3.out.below⟩
  · have q : (k == 0) = false := by simpa using hk
    have q2 : (k != 0) = true := by simpa using hk
    have HG := Lib.hid (show k = 0 ↔ CkFine c ∧ momI m = 0 from hgoal)
    have HK := Lib.hid hk
    clear hgoal hk k0 k1 k2 k3
    go_wp2_with fail
    refine ⟨_, results_bool_cell rfl rfl rfl ((Y2.out.set 0 (.bool false)).set_other 0 _ (by omega)) ((Y3.out.set_other 0 _ (by omega)).set 0 (.int .i64 k)), ?_⟩
    exact ⟨_, _, rfl, HG.out, fun h => absurd h HK.out, fun _ => rfl, (HB3.out.setCell (p := ⟨_, 0, none⟩) (by simp only; omega) _).setCell (p := ⟨_, 0, none⟩) (by simp only; omega) _⟩

end Go.Proofs.YtemikhnkjligdaaGreatDoor
