/- The walk of the iterator that (Calendar).open returns. -/
import Derived.Test.YtemikhnkjligdaaGreatDoorQSh1
import Derived.Test.YtemikhnkjligdaaGreatDoorQOpLaw
import Derived.Sort.CutIn
namespace Go.Proofs.YtemikhnkjligdaaGreatDoor
open Go Go.RowKit Go.Shelf
attribute [local go_sem] Oper.semAt_some

theorem shifts_any (c : CalD) (vcs vwk vsp : Value) (fr en : Int) (w : World) :
    Calls Tryz.prog 96 #[.agg #[.int .i64 c.off, vcs, vwk, vsp], .int .i64 fr, .int .i64 en] w fun e w' =>
      e = .returned (.func (.func 123) #[] #[.pointer (some ⟨w.heap.size, 0, none⟩), .pointer (some ⟨w.heap.size + 1, 0, none⟩), .pointer (some ⟨w.heap.size + 1 + 1, 0, none⟩)]) ∧
      ((w.alloc (.cells #[.int .i64 c.off, vcs, vwk, vsp] 77)).alloc (.cells #[.int .i64 fr] 3)).alloc (.cells #[.int .i64 en] 3) = w' := by
  go_enter Tryz.func96, Tryz.ntmps96
  go_wp2_with fail
  go_ret
  exact ⟨rfl, rfl⟩
theorem open_any (c : CalD) (vcs vwk vsp : Value) (fr en : Int) (w : World) :
    Calls Tryz.prog 70 #[.agg #[.int .i64 c.off, vcs, vwk, vsp], .int .i64 fr, .int .i64 en] w fun e w' =>
      e = .returned (.func (.func 95) #[] #[.pointer (some ⟨w.heap.size, 0, none⟩), .pointer (some ⟨w.heap.size + 1, 0, none⟩), .pointer (some ⟨w.heap.size + 1 + 1, 0, none⟩)]) ∧
      ((w.alloc (.cells #[.int .i64 c.off, vcs, vwk, vsp] 77)).alloc (.cells #[.int .i64 fr] 3)).alloc (.cells #[.int .i64 en] 3) = w' := by
  go_enter Tryz.func70, Tryz.ntmps70
  go_wp2_with fail
  go_ret
  exact ⟨rfl, rfl⟩

theorem three_boxes (w : World) (a b c : Array Value) (s t u : TypeId) : Has (((w.alloc (.cells a s)).alloc (.cells b t)).alloc (.cells c u)) w.heap.size a s ∧ Has (((w.alloc (.cells a s)).alloc (.cells b t)).alloc (.cells c u)) (w.heap.size + 1) b t ∧
    Has (((w.alloc (.cells a s)).alloc (.cells b t)).alloc (.cells c u)) (w.heap.size + 1 + 1) c u ∧ (((w.alloc (.cells a s)).alloc (.cells b t)).alloc (.cells c u)).heap.size = w.heap.size + 1 + 1 + 1 ∧ Below w.heap.size w (((w.alloc (.cells a s)).alloc (.cells b t)).alloc (.cells c u)) := by
  have h2 := Has.new (w.alloc (.cells a s)) b t
  have h3 := Has.new ((w.alloc (.cells a s)).alloc (.cells b t)) c u
  rw [World.size_alloc] at h2 h3
  rw [World.size_alloc] at h3
  exact ⟨((Has.new w a s).alloc _).alloc _, h2.alloc _, h3, by simp, (((Below.refl _ _).alloc (Nat.le_refl _) _).alloc (by simp) _).alloc (by simp; omega) _⟩

structure OpInv (J : List Sp → Blocks → World → Prop) (N N2 L0 Y0 l : Nat) (pre : List Sp) (O : Blocks) (W : World) : Prop where
  j : J (opSt pre).1 (fun k => O k ∨ (N ≤ k ∧ k < N2)) W
  last : Has W L0 #[.int .i64 (lastV (opSt pre).2).1, .int .i64 (lastV (opSt pre).2).2] 163
  y : Has W Y0 #[.func (.yield l) #[] #[]] 161
  off : ∀ k, N ≤ k → k < N2 → ¬ O k
  size : N2 ≤ W.heap.size
theorem opInv_abides {J : List Sp → Blocks → World → Prop} (hJ : ∀ s, Abides (J s)) {N N2 L0 Y0 l : Nat} (h1 : N ≤ L0) (h2 : L0 < N2) (h3 : N ≤ Y0) (h4 : Y0 < N2) (pre : List Sp) : Abides (OpInv J N N2 L0 Y0 l pre) := by
  intro O W O' W' h ht ho hs
  have hz := ht.size
  have hsz := h.size
  have hoff : ∀ k, N ≤ k → k < N2 → ¬ O' k := fun k g1 g2 g => by
    rcases ho k g with g | g
    · exact h.off k g1 g2 g
    · omega
  refine ⟨hJ _ _ _ _ _ h.j (ht.mono (fun k g => .inl g)) (fun k g => ?_) (fun k g => ?_), ht.has h.last (h.off _ h1 h2), ht.has h.y (h.off _ h3 h4), hoff, by omega⟩
  · rcases g with g | g
    · rcases ho k g with g | g
      · exact .inl (.inl g)
      · exact .inr g
    · exact .inl (.inr g)
  · rcases g with g | g
    · exact hs k g
    · omega
structure OpStop (Jx : List Sp → Blocks → World → Prop) (out : List Sp) (N N2 : Nat) (c : Code) (O : Blocks) (W : World) : Prop where
  ret : c = .ret
  jx : ∃ q, q <+: out ∧ Jx q (fun k => O k ∨ (N ≤ k ∧ k < N2)) W
  off : ∀ k, N ≤ k → k < N2 → ¬ O k
  size : N2 ≤ W.heap.size
theorem opStop_abides {Jx : List Sp → Blocks → World → Prop} (hJ : ∀ s, Abides (Jx s)) {out : List Sp} {N N2 : Nat} (c : Code) : Abides (OpStop Jx out N N2 c) := by
  intro O W O' W' h ht ho hs
  have hz := ht.size
  have hsz := h.size
  have hoff : ∀ k, N ≤ k → k < N2 → ¬ O' k := fun k g1 g2 g => by
    rcases ho k g with g | g
    · exact h.off k g1 g2 g
    · omega
  obtain ⟨q, hq, hj⟩ := h.jx
  refine ⟨h.ret, ⟨q, hq, hJ _ _ _ _ _ hj (ht.mono (fun k g => .inl g)) (fun k g => ?_) (fun k g => ?_)⟩, hoff, by omega⟩
  · rcases g with g | g
    · rcases ho k g with g | g
      · exact .inl (.inl g)
      · exact .inr g
    · exact .inl (.inr g)
  · rcases g with g | g
    · exact hs k g
    · omega

theorem opInv_next {J : List Sp → Blocks → World → Prop} (hJ : ∀ s, Abides (J s)) {N N2 L0 Y0 l : Nat} (h1 : N ≤ L0) (h2 : L0 < N2) (h3 : N ≤ Y0) (h4 : Y0 < N2) (hne : Y0 ≠ L0) {pre : List Sp} {O R : Blocks} {W W4 : World} {em : List Sp} {lo : Sp} (hst : opSt pre = (em, some lo))
    (hj : J em (fun k => O k ∨ (N ≤ k ∧ k < N2)) W) (hO : ∀ k, O k → k < W.heap.size) (hy : Has W Y0 #[.func (.yield l) #[] #[]] 161) (hoff : ∀ k, N ≤ k → k < N2 → ¬ O k) (hsz : N2 ≤ W.heap.size) (hR : ¬ R L0)
    (ht : Turns (fun k => k = L0) W W4) (hl4 : Has W4 L0 #[.int .i64 lo.1, .int .i64 lo.2] 163) : Held O R W W4 ∧ OpInv J N N2 L0 Y0 l pre O W4 := by
  refine ⟨Held.of_turns ht ?_, ⟨?_, ?_, ht.has hy hne, hoff, Nat.le_trans hsz ht.size⟩⟩
  · rintro k (g | g) rfl
    · exact hoff _ h1 h2 g
    · exact hR g
  · rw [hst]
    refine hJ _ _ _ _ _ hj (ht.mono (fun k g => .inr (by subst g; exact ⟨h1, h2⟩))) (fun k g => .inl g) (fun k g => ?_)
    have := ht.size
    rcases g with g | g
    · have := hO k g; omega
    · omega
  · rw [hst]
    exact hl4
theorem turns_set2 (W : World) (b : Nat) (u v : Value) : Turns (fun k => k = b) W ((W.setCell ⟨b, 0, none⟩ u).setCell ⟨b, 1, none⟩ v) := (Turns.setCell (O := fun k => k = b) W u rfl).trans (Turns.setCell (O := fun k => k = b) _ v rfl)
theorem has_two {W : World} {b : Nat} {u0 v0 : Value} {t : TypeId} (h : Has W b #[u0, v0] t) (u v : Value) : Has ((W.setCell ⟨b, 0, none⟩ u).setCell ⟨b, 1, none⟩ v) b #[u, v] t := (h.set 0 u).set 1 v
theorem has_one {W : World} {b : Nat} {u0 v0 : Value} {t : TypeId} (h : Has W b #[u0, v0] t) (v : Value) : Has (W.setCell ⟨b, 1, none⟩ v) b #[u0, v] t := h.set 1 v

theorem sh_end {J Jx : List Sp → Blocks → World → Prop} (hJ : ∀ s, Abides (J s)) {em : List Sp} {O : Blocks} {W : World} (hj : J em O W) {D : Nat} (hD : O D) (hlt : ∀ k, O k → k < W.heap.size) (v : Value) (o : Obj) : ShPost J Jx em (.returned v) (W.putObj D o) :=
  ⟨⟨_, rfl⟩, .inl ⟨O, hJ _ _ _ _ _ hj (Turns.putObj W o hD) (fun _ g => .inl g) (fun k g => by simpa using hlt k g), fun k g => by simpa using hlt k g⟩⟩
theorem sh_stop {J Jx : List Sp → Blocks → World → Prop} (hJ : ∀ s, Abides (Jx s)) {q out : List Sp} (hq : q <+: out) {O : Blocks} {W : World} (hj : Jx q O W) {D : Nat} (hD : O D) (hlt : ∀ k, O k → k < W.heap.size) (v : Value) (o : Obj) : ShPost J Jx out (.returned v) (W.putObj D o) :=
  ⟨⟨_, rfl⟩, .inr ⟨q, O, hq, hJ _ _ _ _ _ hj (Turns.putObj W o hD) (fun _ g => .inl g) (fun k g => by simpa using hlt k g), fun k g => by simpa using hlt k g⟩⟩

/-- the frame and the world as a round begins -/
def OpAx (c : CalD) (vcs vwk vsp : Value) (fr en : Int) (l Bc Bf Bt S0 N : Nat) (x : Sp) (n : Nat) (a : Act) (W : World) : Prop :=
  ∃ Bx, n ≤ Bx ∧ Bx < W.heap.size ∧ Has W Bx #[.int .i64 x.1, .int .i64 x.2] 163 ∧
    a = { tmps := #[.func (.yield l) #[] #[], .pointer (some ⟨Bc, 0, none⟩), .pointer (some ⟨Bf, 0, none⟩), .pointer (some ⟨Bt, 0, none⟩), .pointer (some ⟨N, 0, none⟩), .pointer (some ⟨N + 1, 0, none⟩), .pointer (some ⟨Bx, 0, none⟩),
      .agg #[.int .i64 (-1), .int .i64 (-1)], .agg #[.int .i64 c.off, vcs, vwk, vsp], .int .i64 fr, .int .i64 en,
      .func (.func 123) #[] #[.pointer (some ⟨S0, 0, none⟩), .pointer (some ⟨S0 + 1, 0, none⟩), .pointer (some ⟨S0 + 1 + 1, 0, none⟩)], .agg #[.int .i64 x.1, .int .i64 x.2],
      undef, undef, undef, undef, undef, undef, undef, undef, undef, undef, undef, undef, undef, undef, undef, undef, undef, undef, undef, undef, undef, undef, undef, undef, undef, undef, undef, undef], defers := [] }

set_option maxRecDepth 100000 in
set_option maxHeartbeats 4000000 in
theorem open_seq (c : CalD) (vcs vwk vsp : Value) (fr en : Int) (Bc Bf Bt : Nat) (R : Blocks) (w0 W : World) (hR : ∀ k, R k → k < W.heap.size) (hR0 : ∀ k, k < w0.heap.size → R k) (hRc : R Bc) (hRf : R Bf) (hRt : R Bt)
    (hs0 : w0.heap.size ≤ W.heap.size) (hb0 : ∀ k, k < w0.heap.size → W.heap[k]? = w0.heap[k]?) (hc : CalFine c) (h : CalAt w0 vcs vwk vsp c)
    (xc : Has W Bc #[.int .i64 c.off, vcs, vwk, vsp] 77) (xf : Has W Bf #[.int .i64 fr] 3) (xt : Has W Bt #[.int .i64 en] 3)
    (f1 : 0 ≤ fr) (f2 : fr ≤ 3000001) (t1 : 0 ≤ en) (t2 : en ≤ 3000001) :
    SeqAt Tryz.prog 95 #[.pointer (some ⟨Bc, 0, none⟩), .pointer (some ⟨Bf, 0, none⟩), .pointer (some ⟨Bt, 0, none⟩)] encsS R (openL c fr en) W := by
  intro l J Jx hJ hJx hRd h0
  change Calls _ _ _ _ (ShPost J Jx (openL c fr en))
  have HC := Lib.hid hc
  have HCA := Lib.hid h
  have HRl := Lib.hid hR
  have HR0 := Lib.hid hR0
  have HB0 := Lib.hid (And.intro hs0 hb0)
  have HX := Lib.hid (And.intro xc (And.intro xf xt))
  have HRX := Lib.hid (And.intro hRc (And.intro hRf hRt))
  have HJ := Lib.hid hJ
  have HJX := Lib.hid hJx
  have HRD := Lib.hid (show Rounds Tryz.prog l R (openL c fr en) J Jx from hRd)
  have H0 := Lib.hid h0
  obtain ⟨w2, hw2⟩ : ∃ w2, (W.alloc (.cells #[.func (.yield l) #[] #[]] 161)).alloc (.cells #[.int .i64 (-1), .int .i64 (-1)] 163) = w2 := ⟨_, rfl⟩
  have hz2 : w2.heap.size = W.heap.size + 1 + 1 := by rw [← hw2]; simp
  have hb2 : Below W.heap.size W w2 := by rw [← hw2]; exact ((Below.refl _ _).alloc (Nat.le_refl _) _).alloc (by simp) _
  have hy2 : Has w2 W.heap.size #[.func (.yield l) #[] #[]] 161 := by rw [← hw2]; exact (Has.new W _ _).alloc _
  have hl2 : Has w2 (W.heap.size + 1) #[.int .i64 (-1), .int .i64 (-1)] 163 := by rw [← hw2]; have := Has.new (W.alloc (.cells #[.func (.yield l) #[] #[]] 161)) #[.int .i64 (-1), .int .i64 (-1)] 163; rwa [World.size_alloc] at this
  have k0 := ((xc.below hb2 xc.lt).cell 0)
  have k1 := ((xc.below hb2 xc.lt).cell 1)
  have k2 := ((xc.below hb2 xc.lt).cell 2)
  have k3 := ((xc.below hb2 xc.lt).cell 3)
  have kf := ((xf.below hb2 xf.lt).cell 0)
  have kt := ((xt.below hb2 xt.lt).cell 0)
  have HW2 := Lib.hid hw2
  have HY := Lib.hid hy2
  have HL := Lib.hid hl2
  have HB2 := Lib.hid hb2
  have HZ2 := Lib.hid hz2
  clear hc h hR hR0 hs0 hb0 xc xf xt hRc hRf hRt hJ hJx hRd h0 hw2 hy2 hl2 hb2 hz2
  refine (callsIn_wide (n := 3)).1 ?_
  refine callsIn_of_wp_marks Tryz.func95 rfl trivial ?_ rfl
  simp only [Tryz.ntmps95, List.size_toArray, List.length_cons, List.length_nil, Nat.reduceAdd, Nat.reduceSub, Array.replicate_succ, Array.replicate_zero, List.push_toArray, List.append_toArray, List.nil_append, List.cons_append]
  gi_upto_region 2 with fail
  rw [HW2.out]
  obtain ⟨w3, hw3⟩ : ∃ w3, ((w2.alloc (.cells #[.int .i64 c.off, vcs, vwk, vsp] 77)).alloc (.cells #[.int .i64 fr] 3)).alloc (.cells #[.int .i64 en] 3) = w3 := ⟨_, rfl⟩
  have hsh := shifts_any c vcs vwk vsp fr en w2
  rw [hw3] at hsh
  have h3 := three_boxes w2 #[.int .i64 c.off, vcs, vwk, vsp] #[.int .i64 fr] #[.int .i64 en] 77 3 3
  rw [hw3] at h3
  obtain ⟨y1, y2, y3, hz3, hb3⟩ := h3
  generalize w2.heap.size = S0 at *
  have HY1 := Lib.hid y1
  have HY2 := Lib.hid y2
  have HY3 := Lib.hid y3
  have HZ3 := Lib.hid hz3
  have HB3 := Lib.hid hb3
  have HSH := Lib.hid hsh
  clear hsh y1 y2 y3 hz3 hb3 hw3
  gi_wp2_with fail
  refine ⟨trivial, ?_⟩
  refine (callsIn_wide.2 HSH.out).mono ?_
  rintro e w' ⟨rfl, rfl⟩
  clear HSH
  gi_wp2_with fail
  have hN2 : w3.heap.size = W.heap.size + 5 := by have := HZ2.out; have := HZ3.out; omega
  have HN2 := Lib.hid hN2
  have hrise := rise_shifts HC.out.ok fr en f1
  have HRS := Lib.hid (show ∀ x ∈ shiftL c fr en, 0 ≤ x.1 ∧ x.1 < x.2 ∧ x.2 ≤ 3000001 from fun x hx => by have := hrise.mem x hx; omega)
  clear hrise hN2 k0 k1 k2 k3 kf kt
  have HBW := Lib.hid (show Below W.heap.size W w3 from HB2.out.trans (HB3.out.mono (by have := HZ2.out; omega)))
  refine wpIn_range_sep (gf := 123) (lb := #[.pointer (some ⟨S0, 0, none⟩), .pointer (some ⟨S0 + 1, 0, none⟩), .pointer (some ⟨S0 + 1 + 1, 0, none⟩)]) rfl (enters_of Tryz.func123 (by kernel_rfl) rfl)
    (encs := encsS) (R := fun k => R k ∨ (S0 ≤ k ∧ k < S0 + 3)) (xs := shiftL c fr en) ?seq (fun _ => rfl)
    (OpInv J W.heap.size w3.heap.size (W.heap.size + 1) W.heap.size l) (fun c' _ => OpStop Jx (openL c fr en) W.heap.size w3.heap.size c')
    (opInv_abides HJ.out (by omega) (by have := HN2.out; omega) (Nat.le_refl _) (by have := HN2.out; omega)) (fun c' _ => opStop_abides HJX.out c') ?start (OpAx c vcs vwk vsp fr en l Bc Bf Bt S0 W.heap.size) ?ax ?rr ?assign ?body ?done ?stop
  case seq =>
    intro W1 hb1
    have hz1 := hb1.size
    have hn := HN2.out
    have hz := HZ2.out
    exact shifts_seq c vcs vwk vsp fr en S0 (S0 + 1) (S0 + 1 + 1) (fun k => R k ∨ (S0 ≤ k ∧ k < S0 + 3)) w0 W1 (fun k hk => by
      rcases hk with g | g
      · have := HRl.out k g; omega
      · omega) (fun k hk => .inl (HR0.out k hk)) (.inr (by omega)) (.inr (by omega)) (.inr (by omega)) (by have := HB0.out.1; omega) (fun k hk => by
        have h1 := HRl.out k (HR0.out k hk)
        exact (hb1.block k (by omega)).trans ((HBW.out.block k h1).trans (HB0.out.2 k hk))) HC.out HCA.out (HY1.out.below hb1 HY1.out.lt) (HY2.out.below hb1 HY2.out.lt) (HY3.out.below hb1 HY3.out.lt) f1 f2 t1 t2
  case start =>
    have hn := HN2.out
    have hz := HZ2.out
    refine ⟨?_, HL.out.below HB3.out (by omega), HY.out.below HB3.out (by omega), fun _ _ _ h => h, Nat.le_refl _⟩
    exact HJ.out [] _ _ _ _ H0.out (Turns.of_below HBW.out _) (fun k hk => by
      rcases hk with g | g
      · exact g.elim
      · exact .inr g.1) (fun k hk => by
      rcases hk with g | g
      · exact g.elim
      · exact g.2)
  case ax =>
    rintro x Nn a' W' o ⟨Bx, h1, h2, h3, h4⟩ hlt
    exact ⟨Bx, h1, by simpa using h2, (World.putObj_heap_other (by omega)).trans h3, h4⟩
  case rr =>
    have hn := HN2.out
    have hz := HZ2.out
    intro k hk
    rcases hk with g | g
    · have := HRl.out k g; omega
    · omega
  case assign =>
    intro l' pre x O W1 K hI hlt hK
    have HK := Lib.hid hK
    clear hK
    simp only [encsS]
    gi_wp2
    exact HK.out _ _ ⟨W1.heap.size, Nat.le_refl _, by simp, Has.new _ _ _, rfl⟩ ((Below.refl _ _).alloc (Nat.le_refl _) _)
  case body =>
    rintro pre x O Nn a' W1 hI ⟨Bx, hB1, hB2, hx, rfl⟩ hN1 hN2 hnew hpre hO hD hLp hlt
    obtain ⟨x1, x2⟩ := x
    have hR1 : ¬ (R (W.heap.size + 1) ∨ (S0 ≤ W.heap.size + 1 ∧ W.heap.size + 1 < S0 + 3)) := by
      have hz := HZ2.out
      rintro (g | g)
      · have := HRl.out _ g; omega
      · omega
    have hBL : W.heap.size + 1 < w3.heap.size := by have := HN2.out; omega
    have hBY : W.heap.size < w3.heap.size := by have := HN2.out; omega
    have HR1 := Lib.hid hR1
    clear hR1
    have hxm := HRS.out (x1, x2) (hpre.subset (List.mem_append_right _ List.mem_cons_self))
    obtain ⟨x3, x4, x5⟩ := hxm
    simp only at x3 x4 x5
    have hpp : pre <+: shiftL c fr en := (List.prefix_append _ _).trans hpre
    have hlast := fun l0 (hl0 : (opSt pre).2 = some l0) => opSt_last hpp HRS.out hl0
    have HSN := Lib.hid (opSt_snoc pre (x1, x2))
    have HPR := Lib.hid (opSt_pre hpre)
    obtain ⟨hj, hl, hy, hoff, hsz⟩ := hI
    have m0 := hx.cell 0
    have m1 := hx.cell 1
    have n0 := hl.cell 0
    have n1 := hl.cell 1
    have z0 := hl.fz 0
    have z1 := hl.fz 1
    have yy := hy.cell 0
    have HJ1 := Lib.hid hj
    have HL1 := Lib.hid hl
    have HY1 := Lib.hid hy
    have HXX := Lib.hid hx
    have HOF := Lib.hid hoff
    have HOL := Lib.hid hO
    have HNW := Lib.hid hnew
    have HDD := Lib.hid (And.intro hD hLp)
    clear hj hl hy hx hoff hO hnew hD hLp hpre hpp
    generalize hst : opSt pre = st at *
    obtain ⟨em, o⟩ := st
    cases o with
    | none =>
      simp only [lastV] at n0 n1 HL1
      gi_wp2
      exact opInv_next HJ.out (by omega) hBL (Nat.le_refl _) hBY (by omega) (em := em) (lo := (x1, x2)) (by rw [HSN.out]; rfl) HJ1.out HOL.out HY1.out HOF.out hsz HR1.out (turns_set2 _ _ _ _) (has_two HL1.out _ _)
    | some l0 =>
      obtain ⟨l1, l2⟩ := l0
      obtain ⟨g1, g2, g3⟩ := hlast _ rfl
      simp only [lastV] at n0 n1 HL1 g1 g2 g3
      clear hlast
      by_cases hc : x1 ≤ l2
      · have q : decide (x1 ≤ l2) = true := by simpa using hc
        have HE := Lib.hid (show opSt (pre ++ [(x1, x2)]) = (em, some (l1, max l2 x2)) by rw [HSN.out]; simp [opStep, hc])
        clear hc
        gi_wp2
        · refine opInv_next HJ.out (by omega) hBL (Nat.le_refl _) hBY (by omega) (em := em) (lo := (l1, max l2 x2)) HE.out HJ1.out HOL.out HY1.out HOF.out hsz HR1.out (Turns.setCell (O := fun k => k = W.heap.size + 1) _ _ rfl) ?_
          show Has _ _ #[.int .i64 l1, .int .i64 (max l2 x2)] _
          rw [show max l2 x2 = x2 by omega]
          exact has_one HL1.out _
        · refine opInv_next HJ.out (by omega) hBL (Nat.le_refl _) hBY (by omega) (em := em) (lo := (l1, max l2 x2)) HE.out HJ1.out HOL.out HY1.out HOF.out hsz HR1.out (Turns.setCell (O := fun k => k = W.heap.size + 1) _ _ rfl) ?_
          show Has _ _ #[.int .i64 l1, .int .i64 (max l2 x2)] _
          rw [show max l2 x2 = l2 by omega]
          exact has_one HL1.out _
      · have q : decide (x1 ≤ l2) = false := by simpa using hc
        have he : opSt (pre ++ [(x1, x2)]) = (em ++ [(l1, l2)], some (x1, x2)) := by rw [HSN.out]; simp [opStep, hc]
        have hpf := HPR.out
        rw [he] at hpf
        have HE := Lib.hid he
        have HPF := Lib.hid hpf
        obtain ⟨fn, tm, asg, bdy, hyy, hRd⟩ := HRD.out em (l1, l2) _ W1 HJ1.out (fun k hk => by
          rcases hk with g | g
          · exact HOL.out k g
          · omega) hpf 0
        dsimp only [encsS] at hyy
        have HRd := Lib.hid hRd
        clear hc hRd he hpf HPR HSN
        gi_wp2
        refine RoundIn.mono (F := Fence.wide.inRound _) (roundIn_wide HRd.out) ?_
        rintro e W3 (⟨rfl, hJ3, hk3⟩ | ⟨rfl, hx3, hk3⟩)
        · have hz3 := hk3.size
          have hl3 := (hk3.block _ HL1.out.lt (.inl (.inr ⟨by omega, hBL⟩))).trans HL1.out
          have hy3 := (hk3.block _ HY1.out.lt (.inl (.inr ⟨Nat.le_refl _, hBY⟩))).trans HY1.out
          have hx3 := (hk3.block _ HXX.out.lt (.inl (.inl (HNW.out Bx hB1 hB2)))).trans HXX.out
          have HL3 := Lib.hid (show Has W3 _ _ _ from hl3)
          have HY3' := Lib.hid (show Has W3 _ _ _ from hy3)
          have HX3 := Lib.hid (show Has W3 _ _ _ from hx3)
          have m0 := HX3.out.cell 0
          have m1 := HX3.out.cell 1
          have n0 := HL3.out.cell 0
          have n1 := HL3.out.cell 1
          have z0 := HL3.out.fz 0
          have z1 := HL3.out.fz 1
          have HJ3 := Lib.hid hJ3
          have HK3 := Lib.hid hk3
          have hsz3 : w3.heap.size ≤ W3.heap.size := by omega
          have HO3 := Lib.hid (fun k hk => Nat.lt_of_lt_of_le (HOL.out k hk) hz3)
          clear hl3 hy3 hx3 hJ3 hk3 hyy
          gi_wp2
          obtain ⟨h1, h2⟩ := opInv_next (R := fun k => R k ∨ (S0 ≤ k ∧ k < S0 + 3)) HJ.out (by omega) hBL (Nat.le_refl _) hBY (by omega) (em := em ++ [(l1, l2)]) (lo := (x1, x2)) HE.out HJ3.out HO3.out HY3'.out HOF.out hsz3 HR1.out (turns_set2 _ _ _ _) (has_two HL3.out (.int .i64 x1) (.int .i64 x2))
          refine ⟨(HK3.out.mono ?_).trans h1, h2⟩
          have hn := HN2.out
          have hz := HZ2.out
          rintro k (g | g | g)
          · exact .inl (.inl g)
          · exact .inr g
          · exact .inl (.inr (by omega))
        · have HX3 := Lib.hid hx3
          have HK3 := Lib.hid hk3
          clear hx3 hk3 hyy
          gi_wp2
          have hz3 := HK3.out.size
          refine ⟨HK3.out.mono ?_, rfl, ⟨_, HPF.out, HX3.out⟩, HOF.out, by omega⟩
          rintro k (g | g)
          · exact .inl (.inl g)
          · exact g.elim
  case done =>
    intro O W1 hI hD hlt hK
    obtain ⟨hj, hl, hy, hoff, hsz⟩ := hI
    have n0 := hl.cell 0
    have n1 := hl.cell 1
    have yy := hy.cell 0
    have HJ1 := Lib.hid hj
    have HD1 := Lib.hid (And.intro hD (And.intro hlt (And.intro hK hoff)))
    have HAL := Lib.hid (opSt_all (shiftL c fr en))
    have hlast := fun l0 (hl0 : (opSt (shiftL c fr en)).2 = some l0) => opSt_last List.prefix_rfl HRS.out hl0
    clear hj hl hy hoff hD hlt hK
    generalize hst : opSt (shiftL c fr en) = st at *
    obtain ⟨em, o⟩ := st
    cases o with
    | none =>
      simp only [lastV] at n0 n1
      have HEM := Lib.hid (show openL c fr en = em from HAL.out.symm)
      clear HAL hlast hst
      gi_wp2
      refine ⟨by simp, .inl ⟨_, _, rfl, run_takeDeferred HD1.out.2.2.1, ?_⟩⟩
      refine ⟨_, results_none rfl _ _ _, ?_⟩
      rw [HEM.out]
      exact sh_end HJ.out HJ1.out (.inl HD1.out.1) (fun k hk => by
        rcases hk with g | g
        · exact HD1.out.2.1 k g
        · omega) _ _
    | some l0 =>
      obtain ⟨l1, l2⟩ := l0
      obtain ⟨g1, g2, g3⟩ := hlast _ rfl
      simp only [lastV] at n0 n1 g1 g2 g3
      have HEM := Lib.hid (show openL c fr en = em ++ [(l1, l2)] from HAL.out.symm)
      obtain ⟨fn, tm, asg, bdy, hyy, hRd⟩ := HRD.out em (l1, l2) _ W1 HJ1.out (fun k hk => by
        rcases hk with g | g
        · exact HD1.out.2.1 k g
        · omega) (by rw [HEM.out]; exact List.prefix_rfl) 0
      dsimp only [encsS] at hyy
      have HRd := Lib.hid hRd
      clear hRd HAL hlast hst
      gi_wp2
      refine (roundIn_wide HRd.out).mono ?_
      clear hyy HRd
      rintro e W3 (⟨rfl, hJ3, hk3⟩ | ⟨rfl, hx3, hk3⟩)
      · have hz3 := hk3.size
        have hd3 := (hk3.block _ (HD1.out.2.1 _ HD1.out.1) (.inl (.inl HD1.out.1))).trans HD1.out.2.2.1
        have HJ3 := Lib.hid hJ3
        have HD3 := Lib.hid hd3
        clear hJ3 hk3 hd3
        gi_wp2
        refine ⟨by simp, .inl ⟨_, _, rfl, run_takeDeferred HD3.out, ?_⟩⟩
        refine ⟨_, results_none rfl _ _ _, ?_⟩
        rw [HEM.out]
        exact sh_end HJ.out HJ3.out (.inl HD1.out.1) (fun k hk => by
          rcases hk with g | g
          · have := HD1.out.2.1 k g; omega
          · omega) _ _
      · have hz3 := hk3.size
        have hd3 := (hk3.block _ (HD1.out.2.1 _ HD1.out.1) (.inl (.inl HD1.out.1))).trans HD1.out.2.2.1
        have HJ3 := Lib.hid hx3
        have HD3 := Lib.hid hd3
        clear hx3 hk3 hd3
        gi_wp2
        refine ⟨by simp, .inl ⟨_, _, rfl, run_takeDeferred HD3.out, ?_⟩⟩
        refine ⟨_, results_none rfl _ _ _, ?_⟩
        rw [HEM.out]
        exact sh_stop HJX.out List.prefix_rfl HJ3.out (.inl HD1.out.1) (fun k hk => by
          rcases hk with g | g
          · have := HD1.out.2.1 k g; omega
          · omega) _ _
  case stop =>
    rintro c' pre O W1 hpre ⟨rfl, ⟨q, hq, hjx⟩, hoff, hsz⟩ hD hlt hK
    gi_wp2
    refine ⟨by simp, .inl ⟨_, _, rfl, run_takeDeferred hK, ?_⟩⟩
    refine ⟨_, results_none rfl _ _ _, ?_⟩
    exact sh_stop HJX.out hq hjx (.inl hD) (fun k hk => by
      rcases hk with g | g
      · exact hlt k g
      · omega) _ _
end Go.Proofs.YtemikhnkjligdaaGreatDoor
