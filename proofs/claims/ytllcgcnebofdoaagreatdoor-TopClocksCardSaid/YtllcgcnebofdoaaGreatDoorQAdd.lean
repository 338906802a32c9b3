/- The walk of cal.Add. -/
import Derived.Test.YtllcgcnebofdoaaGreatDoorQWorked
namespace Go.Proofs.YtllcgcnebofdoaaGreatDoor
open Go Go.RowKit Go.Shelf
attribute [local go_sem] Oper.semAt_some

/-- what is left of some work behind some spans -/
theorem addF_pre : ∀ (pre r : List Sp) (k : Int), (∀ p q : List Sp, p ++ q = pre → ∀ s, q.head? = some s → s.2 - s.1 ≤ k - lens p) → addF k (pre ++ r) = addF (k - lens pre) r
  | [], r, k, _ => by simp [lens]
  | s :: pre, r, k, h => by
    have h0 := h [] (s :: pre) rfl s rfl
    simp only [lens, Int.sub_zero] at h0
    rw [List.cons_append, addF, if_pos h0, addF_pre pre r (k - (s.2 - s.1))]
    · congr 1
      simp only [lens]
      omega
    · intro p q hpq t ht
      have := h (s :: p) q (by rw [List.cons_append, hpq]) t ht
      simp only [lens] at this
      omega

/-- what a consumer's loop keeps that may return early: three cells of its own, and what was there when the function was entered -/
structure KeepThree (w : World) (B : Nat) (u v1 v2 : Value) (O : Blocks) (W : World) : Prop where
  c0 : Has W B #[u] 3
  c1 : Has W (B + 1) #[v1] 3
  c2 : Has W (B + 1 + 1) #[v2] 29
  below : Below w.heap.size w W
  off : ∀ k, B ≤ k → k < B + 3 → ¬ O k
  own : ∀ k, O k → w.heap.size ≤ k
theorem keepThree_abides {w : World} {B : Nat} {u v1 v2 : Value} : Abides (KeepThree w B u v1 v2) := by
  intro O W O' W' h ht ho hs
  have hb := h.c2.lt
  have hz := h.below.size
  have ho' : ∀ k, O' k → w.heap.size ≤ k := fun k g => by
    rcases ho k g with g | g
    · exact h.own k g
    · omega
  refine ⟨ht.has h.c0 (h.off _ (by omega) (by omega)), ht.has h.c1 (h.off _ (by omega) (by omega)), ht.has h.c2 (h.off _ (by omega) (by omega)), ht.below h.below hz h.own, fun k g1 g2 g => ?_, ho'⟩
  rcases ho _ g with g | g
  · exact h.off k g1 g2 g
  · omega
theorem keepThree_put {w : World} {B : Nat} {u v1 v2 : Value} {O : Blocks} {W : World} (h : KeepThree w B u v1 v2 O W) {D : Nat} (hD : O D) (hlt : ∀ k, O k → k < W.heap.size) (o : Obj) : KeepThree w B u v1 v2 O (W.putObj D o) :=
  keepThree_abides _ _ _ _ h (Turns.putObj W o hD) (fun _ g => .inl g) (fun k g => by simpa using hlt k g)
theorem keepThree_next {w : World} {B : Nat} {u v1 v2 : Value} {O R : Blocks} {W : World} (h : KeepThree w B u v1 v2 O W) (hB : w.heap.size ≤ B) (hR : ∀ k, B ≤ k → k < B + 3 → ¬ R k) (u' : Value) : Held O R W (W.setCell ⟨B, 0, none⟩ u') ∧ KeepThree w B u' v1 v2 O (W.setCell ⟨B, 0, none⟩ u') := by
  refine ⟨Held.of_turns (Turns.setCell (O := fun k => k = B) _ _ rfl) ?_, ⟨h.c0.set 0 u', h.c1.set_other 0 u' (by omega), h.c2.set_other 0 u' (by omega), h.below.setCell (p := ⟨B, 0, none⟩) hB _, h.off, h.own⟩⟩
  rintro k (g | g) rfl
  · exact h.off _ (Nat.le_refl _) (by omega) g
  · exact hR _ (Nat.le_refl _) (by omega) g
theorem keepThree_stop {w : World} {B : Nat} {u v1 v2 : Value} {O R : Blocks} {W : World} (h : KeepThree w B u v1 v2 O W) (hB : w.heap.size ≤ B) (hR : ∀ k, B ≤ k → k < B + 3 → ¬ R k) (v1' v2' : Value) :
    Held O R W ((W.setCell ⟨B + 1, 0, none⟩ v1').setCell ⟨B + 1 + 1, 0, none⟩ v2') ∧ KeepThree w B u v1' v2' O ((W.setCell ⟨B + 1, 0, none⟩ v1').setCell ⟨B + 1 + 1, 0, none⟩ v2') := by
  refine ⟨(Held.of_turns (Turns.setCell (O := fun k => k = B + 1) _ _ rfl) ?_).trans (Held.of_turns (Turns.setCell (O := fun k => k = B + 1 + 1) _ _ rfl) ?_),
    ⟨(h.c0.set_other 0 _ (by omega)).set_other 0 _ (by omega), (h.c1.set 0 v1').set_other 0 _ (by omega), (h.c2.set_other 0 _ (by omega)).set 0 v2', (h.below.setCell (p := ⟨B + 1, 0, none⟩) (by simp only; omega) _).setCell (p := ⟨B + 1 + 1, 0, none⟩) (by simp only; omega) _, h.off, h.own⟩⟩
  · rintro k (g | g) rfl
    · exact h.off _ (by omega) (by omega) g
    · exact hR _ (by omega) (by omega) g
  · rintro k (g | g) rfl
    · exact h.off _ (by omega) (by omega) g
    · exact hR _ (by omega) (by omega) g

structure AddAt (F : Option Int) (f : Int → List Sp → Option Int) (work : Int) (xs pre : List Sp) : Prop where
  ge : 0 ≤ work - lens pre
  eq : ∀ r, pre ++ r = xs → F = f (work - lens pre) r
theorem abides_and {J : Blocks → World → Prop} (h : Abides J) (p : Prop) : Abides (fun O W => J O W ∧ p) := fun O W O' W' hj ht ho hs => ⟨h O W O' W' hj.1 ht ho hs, hj.2⟩
structure AddStop (w : World) (B : Nat) (F : Option Int) (c : Code) (O : Blocks) (W : World) : Prop where
  ret : c = .ret
  three : ∃ m u, F = some m ∧ KeepThree w B u (.int .i64 m) (.int .i64 0) O W
theorem addStop_abides {w : World} {B : Nat} {F : Option Int} {c : Code} : Abides (AddStop w B F c) := by
  intro O W O' W' h ht ho hs
  obtain ⟨m, u, hm, h3⟩ := h.three
  exact ⟨h.ret, m, u, hm, keepThree_abides _ _ _ _ h3 ht ho hs⟩

theorem results_two_cells {fn : Func} {p q : Tmp} (h : fn.results = #[.cell p 3, .cell q 29]) {tmps : Array Value} {w : World} {b1 b2 : Nat} {v1 v2 : Int} (ht1 : tmps.getD p undef = .pointer (some ⟨b1, 0, none⟩)) (ht2 : tmps.getD q undef = .pointer (some ⟨b2, 0, none⟩))
    (h1 : Has w b1 #[.int .i64 v1] 3) (h2 : Has w b2 #[.int .i64 v2] 29) : (results fn tmps).run Tryz.prog w = .ok (.tuple #[.int .i64 v1, .int .i64 v2]) w := by
  have c1 := h1.cell 0
  have c2 := h2.cell 0
  simp at c1 c2
  rw [Array.getD_eq_getD_getElem?] at ht1 ht2
  simp only [results, h]
  simp [go_sem, ht1, ht2, c1, c2]

def AddMid (G : Prop) (w1 : World) (u : Value) (wx : World) : Prop := ∃ k : Int, u = .int .i64 k ∧ (k = 0 ↔ G) ∧ Below w1.heap.size w1 wx
theorem orI3_zero (a b c : Int) : orI [a, b, c] = 0 ↔ a = 0 ∧ b = 0 ∧ c = 0 := by
  rw [orI_cons, orI2]
  by_cases h1 : a = 0
  · by_cases h2 : b = 0
    · simp [h1, h2]
    · simp [h1, h2]
  · simp [h1]
def AddPost (F : Option Int) (G : Prop) (w : World) (e : Ending) (w' : World) : Prop :=
  ∃ n k : Int, e = .returned (.tuple #[.int .i64 n, .int .i64 k]) ∧ (G → (∃ m, F = some m ∧ n = m ∧ k = 0) ∨ (F = none ∧ n = 0 ∧ k = 7)) ∧ (¬ G → n = 0 ∧ k ≠ 0) ∧ Below w.heap.size w w'
theorem below3 {B : Nat} {a w : World} (h : Below B a w) (hB : B ≤ w.heap.size) (x y z : Obj) : Below B a (((w.alloc x).alloc y).alloc z) := ((h.alloc hB x).alloc (by simp; omega) y).alloc (by simp; omega) z
theorem four_boxes (w : World) (a b c d : Array Value) (s t u v : TypeId) : Has ((((w.alloc (.cells a s)).alloc (.cells b t)).alloc (.cells c u)).alloc (.cells d v)) w.heap.size a s ∧ Has ((((w.alloc (.cells a s)).alloc (.cells b t)).alloc (.cells c u)).alloc (.cells d v)) (w.heap.size + 1) b t ∧
    Has ((((w.alloc (.cells a s)).alloc (.cells b t)).alloc (.cells c u)).alloc (.cells d v)) (w.heap.size + 1 + 1) c u ∧ Has ((((w.alloc (.cells a s)).alloc (.cells b t)).alloc (.cells c u)).alloc (.cells d v)) (w.heap.size + 1 + 1 + 1) d v ∧
    Below w.heap.size w ((((w.alloc (.cells a s)).alloc (.cells b t)).alloc (.cells c u)).alloc (.cells d v)) := by
  obtain ⟨h1, h2, h3, hz, hb⟩ := three_boxes w a b c s t u
  have h4 := Has.new (((w.alloc (.cells a s)).alloc (.cells b t)).alloc (.cells c u)) d v
  rw [hz] at h4
  exact ⟨h1.alloc _, h2.alloc _, h3.alloc _, h4, hb.alloc hb.size _⟩

set_option maxRecDepth 100000 in
set_option maxHeartbeats 4000000 in
theorem Add_any (c : CalD) (vcs vwk vsp : Value) (fr work : Int) (w : World) (h : CalAt w vcs vwk vsp c) :
    Calls Tryz.prog 97 #[.agg #[.int .i64 c.off, vcs, vwk, vsp], .int .i64 fr, .int .i64 work] w (AddPost (addF work (openL c fr 3000001)) (CkFine c ∧ momI fr = 0 ∧ wkI work = 0) w) := by
  have H := Lib.hid h
  have hbx := four_boxes w #[.int .i64 c.off, vcs, vwk, vsp] #[.int .i64 work] #[.int .i64 0] #[.int .i64 0] 54 3 3 29
  clear h
  refine (callsIn_wide (n := 3)).1 ?_
  refine callsIn_of_wp_marks Tryz.func97 rfl trivial ?_ rfl
  simp only [Tryz.ntmps97, List.size_toArray, List.length_cons, List.length_nil, Nat.reduceAdd, Nat.reduceSub, Array.replicate_succ, Array.replicate_zero, List.push_toArray, List.append_toArray, List.nil_append, List.cons_append]
  refine wpIn_wide.2 ?_
  go_upto_region 1 with fail
  generalize (((w.alloc (.cells #[.int .i64 c.off, vcs, vwk, vsp] 54)).alloc (.cells #[.int .i64 work] 3)).alloc (.cells #[.int .i64 0] 3)).alloc (.cells #[.int .i64 0] 29) = w1 at *
  obtain ⟨x1, x2, x3, x4, hb1⟩ := hbx
  have f1 := x1.lt
  have f2 := x2.lt
  have hks : ∀ W, Below w1.heap.size w1 W → W.cell? ⟨w.heap.size, 0, none⟩ = some (.int .i64 c.off) ∧ W.cell? ⟨w.heap.size, 1, none⟩ = some vcs ∧ W.cell? ⟨w.heap.size, 2, none⟩ = some vwk ∧ W.cell? ⟨w.heap.size, 3, none⟩ = some vsp ∧ W.cell? ⟨w.heap.size + 1, 0, none⟩ = some (.int .i64 work) := fun W h =>
    ⟨(below_cell h f1).trans (x1.cell 0), (below_cell h f1).trans (x1.cell 1), (below_cell h f1).trans (x1.cell 2), (below_cell h f1).trans (x1.cell 3), (below_cell h f2).trans (x2.cell 0)⟩
  have HKS := Lib.hid hks
  have HX2 := Lib.hid x2
  have HX3 := Lib.hid x3
  have HX4 := Lib.hid x4
  have HB1 := Lib.hid hb1
  have HCK := Lib.hid (fun W (hW : Below w1.heap.size w1 W) => CheckCalendar_any c vcs vwk vsp W (H.out.below (below_up HB1.out hW HB1.out.size)))
  clear hks x1 x2 x3 x4 hb1
  obtain ⟨mo, hmo⟩ : ∃ mo, momI fr = mo := ⟨_, rfl⟩
  obtain ⟨wo, hwo⟩ : ∃ wo, wkI work = wo := ⟨_, rfl⟩
  have hcm := moment_any fr
  have hcw := workOf_any work
  rw [hmo] at hcm
  rw [hwo] at hcw
  have HCM := Lib.hid hcm
  have HCW := Lib.hid hcw
  have HMW := Lib.hid (And.intro hmo hwo)
  clear hmo hwo hcm hcw
  go_cut [8] from 11 to 18 (AddMid (CkFine c ∧ momI fr = 0 ∧ wkI work = 0) w1)
  case first =>
    go_region_held3 (fun W => W.cell? ⟨w.heap.size, 0, none⟩ = some (.int .i64 c.off) ∧ W.cell? ⟨w.heap.size, 1, none⟩ = some vcs ∧ W.cell? ⟨w.heap.size, 2, none⟩ = some vwk ∧ W.cell? ⟨w.heap.size, 3, none⟩ = some vsp ∧ W.cell? ⟨w.heap.size + 1, 0, none⟩ = some (.int .i64 work))
      (first | exact HKS.out _ (hB.alloc hB.size _) | exact HKS.out _ hB | exact HKS.out _ (Below.refl _ _).drew)
      (first
        | (go_at_call 36; have hg := hn2; refine (or_any _ [ca, mo, wo] _ (ints3_at _ _ _ _ _) (by simp)).mono ?_; rintro e w' ⟨rfl, rfl⟩; have hB := hB.alloc hB.size (.cells #[.int .i64 ca, .int .i64 mo, .int .i64 wo] 29))
        | (go_at_call 119; have hg := hn1; refine (HCM.out _).mono ?_; rintro e w' ⟨rfl, rfl⟩)
        | (go_at_call 120; have hg := hn1; refine (HCW.out _).mono ?_; rintro e w' ⟨rfl, rfl⟩; have hn2 := True.intro)
        | (go_at_call 14; refine (HCK.out w1.drew (Below.refl _ _).drew).mono ?_; rintro e w' ⟨⟨ca, rfl, hca⟩, hb⟩; have HCA := Lib.hid hca; clear hca; have hB := below_up' (Below.refl _ w1).drew hb; have hn1 := True.intro))
    all_goals go_wp2
    all_goals go_meet
    all_goals (refine ⟨_, rfl, ?_, hB⟩; rw [← HCA.out, HMW.out.1, HMW.out.2]; exact orI3_zero _ _ _)
  case rest =>
    obtain ⟨k, rfl, hk0, hbw⟩ := hcut
    have HBC := Lib.hid (below_up HB1.out hbw HB1.out.size)
    have Y2 := Lib.hid (HX2.out.below hbw HX2.out.lt)
    have Y3 := Lib.hid (HX3.out.below hbw HX3.out.lt)
    have Y4 := Lib.hid (HX4.out.below hbw HX4.out.lt)
    have hkz := HKS.out wc hbw
    obtain ⟨k0, k1, k2, k3, _⟩ := hkz
    have hsw := HB1.out.size
    have hwc := hbw.size
    have h4l := HX4.out.lt
    clear hbw HKS HCK HCM HCW
    by_cases hk : k = 0
    · subst hk
      obtain ⟨hf, hm, hw⟩ := hk0.1 rfl
      have r1 : 0 ≤ fr ∧ fr ≤ 3000000 := by
        unfold momI at hm
        split at hm
        · assumption
        · cases hm
      obtain ⟨r1, r2⟩ := r1
      have r3 : 0 ≤ work ∧ work ≤ 3000001 := by
        unfold wkI at hw
        split at hw
        · assumption
        · cases hw
      obtain ⟨r3, r4⟩ := r3
      have HF := Lib.hid hf
      have HG := Lib.hid (show CkFine c ∧ momI fr = 0 ∧ wkI work = 0 from hk0.1 rfl)
      clear hk0 hf hm hw
      have HOP := Lib.hid (open_any c vcs vwk vsp fr 3000001 wc)
      go_wp2_with fail
      refine HOP.out.mono ?_
      clear HOP
      have h5 := three_boxes wc #[.int .i64 c.off, vcs, vwk, vsp] #[.int .i64 fr] #[.int .i64 3000001] 54 3 3
      rintro e w5 ⟨rfl, hw5⟩
      rw [hw5] at h5
      obtain ⟨y1, y2, y3, hz5, hb5⟩ := h5
      have HY1 := Lib.hid y1
      have HY2 := Lib.hid y2
      have HY3 := Lib.hid y3
      have HZ5 := Lib.hid hz5
      have HB5 := Lib.hid (below_up HBC.out hb5 HBC.out.size)
      have HK3 := Lib.hid (show KeepThree w (w.heap.size + 1) (.int .i64 work) (.int .i64 0) (.int .i64 0) (fun _ => False) w5 from
        ⟨Y2.out.below hb5 Y2.out.lt, Y3.out.below hb5 Y3.out.lt, Y4.out.below hb5 Y4.out.lt, below_up HBC.out hb5 HBC.out.size, fun _ _ _ h => h, fun _ h => h.elim⟩)
      have hS0 : w.heap.size + 4 ≤ wc.heap.size := by omega
      generalize wc.heap.size = S0 at *
      clear y1 y2 y3 hz5 hb5 hw5 k0 k1 k2 k3 Y2 Y3 Y4 HX2 HX3 HX4
      go_wp2_with fail
      refine (wpIn_wide (n := 3)).1 ?_
      have hap := open_apart HF.out.fine.ok fr 3000001 r1
      have HAP := Lib.hid hap
      clear hap
      refine wpIn_range_sep (gf := 137) (lb := #[.pointer (some ⟨S0, 0, none⟩), .pointer (some ⟨S0 + 1, 0, none⟩), .pointer (some ⟨S0 + 1 + 1, 0, none⟩)]) rfl (enters_of Tryz.func137 (by kernel_rfl) rfl)
        (encs := encsS) (R := fun k => k < w.heap.size ∨ (S0 ≤ k ∧ k < S0 + 3)) (xs := openL c fr 3000001) ?seq (fun _ => rfl)
        (fun pre O W => KeepThree w (w.heap.size + 1) (.int .i64 (work - lens pre)) (.int .i64 0) (.int .i64 0) O W ∧ AddAt (addF work (openL c fr 3000001)) addF work (openL c fr 3000001) pre) (fun c' _ => AddStop w (w.heap.size + 1) (addF work (openL c fr 3000001)) c')
        (fun _ => abides_and keepThree_abides _) (fun _ _ => addStop_abides) ?start
        (WkAx fun p x => #[.agg #[.int .i64 c.off, vcs, vwk, vsp], .int .i64 fr, .int .i64 work, .pointer (some ⟨w.heap.size, 0, none⟩), undef, .pointer (some ⟨w.heap.size + 1, 0, none⟩), .pointer (some ⟨w.heap.size + 1 + 1, 0, none⟩), .pointer (some ⟨w.heap.size + 1 + 1 + 1, 0, none⟩), .int .i64 0, p, undef,
          u11, u12, u13, u14, u15, u16, u17, u18, .int .i64 0, .bool false, undef, .agg #[.int .i64 c.off, vcs, vwk, vsp], .int .i64 fr,
          .func (.func 137) #[] #[.pointer (some ⟨S0, 0, none⟩), .pointer (some ⟨S0 + 1, 0, none⟩), .pointer (some ⟨S0 + 1 + 1, 0, none⟩)], x, undef, undef, undef, undef, undef, undef, undef, undef, undef, undef, undef, undef, undef, undef, undef])
        (fun x N a' W' o h hl => wkAx_put o h hl) ?rr ?assign ?body ?done ?stop
      case seq =>
        intro W1 hb1
        have hz := HZ5.out
        have hz1 := hb1.size
        exact open_seq c vcs vwk vsp fr 3000001 S0 (S0 + 1) (S0 + 1 + 1) (fun k => k < w.heap.size ∨ (S0 ≤ k ∧ k < S0 + 3)) w W1 (fun k hk => by omega) (fun k hk => .inl hk) (.inr (by omega)) (.inr (by omega)) (.inr (by omega)) (by omega)
          (fun k hk => (hb1.block k (by omega)).trans (HB5.out.block k hk)) HF.out.fine H.out (HY1.out.below hb1 HY1.out.lt) (HY2.out.below hb1 HY2.out.lt) (HY3.out.below hb1 HY3.out.lt) r1 (by omega) (by omega) (by omega)
      case start =>
        refine ⟨?_, ?_, ?_⟩
        · simp only [lens, Int.sub_zero]
          exact HK3.out
        · simp only [lens]; omega
        · intro r hr
          rw [← hr]
          simp [lens]
      case rr =>
        have hz := HZ5.out
        intro k hk
        omega
      case assign =>
        intro l' pre x O W1 K hI hlt hK
        have HK := Lib.hid hK
        clear hK
        simp only [encsS]
        gi_wp2
        exact HK.out _ _ ⟨W1.heap.size, Nat.le_refl _, by simp, Has.new _ _ _, rfl⟩ ((Below.refl _ _).alloc (Nat.le_refl _) _)
      case body =>
        rintro pre x O Nn a' W1 ⟨hI, hA⟩ ⟨Bx, hB1, hB2, hx, rfl⟩ hN1 hN2 hnew hpre hO hD hLp hlt
        have hpp : pre <+: openL c fr 3000001 := (List.prefix_append _ _).trans hpre
        obtain ⟨p1, p2⟩ := lens_pre hpp HAP.out (by omega)
        obtain ⟨x1, x2⟩ := x
        obtain ⟨g1, g2, g3⟩ := HAP.out.mem (x1, x2) (hpre.subset (List.mem_append_right _ List.mem_cons_self))
        simp only at g1 g2 g3
        have HSN := Lib.hid (lens_snoc pre (x1, x2))
        have m0 := hx.cell 0
        have m1 := hx.cell 1
        have n0 := hI.c0.cell 0
        have z0 := hI.c0.fz 0
        have n1 := hI.c1.cell 0
        have z1 := hI.c1.fz 0
        have n2 := hI.c2.cell 0
        have z2 := hI.c2.fz 0
        have HI := Lib.hid hI
        have HAT := Lib.hid hA
        have hge := hA.ge
        have HRR := Lib.hid (show ∀ k, w.heap.size + 1 ≤ k → k < w.heap.size + 1 + 3 → ¬ (k < w.heap.size ∨ (S0 ≤ k ∧ k < S0 + 3)) from fun k h1 h2 => by omega)
        obtain ⟨r, hr⟩ := hpre
        have HNX := Lib.hid (show addF work (openL c fr 3000001) = addF (work - lens pre) ((x1, x2) :: r) from hA.eq _ (by rw [← hr]; simp))
        have HR := Lib.hid hr
        clear hI hA hx hpp hO hD hLp hnew hr
        generalize hrem : work - lens pre = rem at *
        have HRM := Lib.hid hrem
        have hr9 : rem ≤ 3000001 := by omega
        clear hrem
        by_cases hc : x2 - x1 ≤ rem
        · have q : decide (x2 - x1 ≤ rem) = true := by simpa using hc
          gi_wp2
          obtain ⟨h1, h2⟩ := keepThree_next HI.out (by omega) HRR.out (.int .i64 (rem - (x2 - x1)))
          have e : work - lens (pre ++ [(x1, x2)]) = rem - (x2 - x1) := by rw [HSN.out, ← HRM.out]; omega
          refine ⟨h1, ?_, ⟨by rw [e]; omega, fun r' hr' => ?_⟩⟩
          · rw [e]
            exact h2
          · have hrr : r' = r := List.append_cancel_left (hr'.trans HR.out.symm)
            rw [hrr, e, HNX.out, addF, if_pos hc]
        · have q : decide (x2 - x1 ≤ rem) = false := by simpa using hc
          gi_wp2
          obtain ⟨h1, h2⟩ := keepThree_stop HI.out (by omega) HRR.out (.int .i64 (x1 + rem)) (.int .i64 0)
          exact ⟨h1.mono (fun k g => g.imp id (fun g => g.elim)), rfl, x1 + rem, _, by rw [HNX.out, addF, if_neg (by simp only; omega)], h2⟩
      case done =>
        rintro O W1 ⟨hI, hA⟩ hD hlt hK
        have hF := hA.eq [] (by simp)
        rw [addF] at hF
        have HFN := Lib.hid hF
        have n1 := hI.c1.cell 0
        have z1 := hI.c1.fz 0
        have n2 := hI.c2.cell 0
        have z2 := hI.c2.fz 0
        obtain ⟨h1, h2⟩ := keepThree_stop hI (R := fun _ => False) (by omega) (fun _ _ _ => id) (.int .i64 0) (.int .i64 7)
        have HKD := Lib.hid ((h1.block _ (hlt _ hD) (.inl hD)).trans hK)
        have h3 := keepThree_put h2 hD (fun k hk => Nat.lt_of_lt_of_le (hlt k hk) h1.size) (.deferred none)
        have H3 := Lib.hid h3
        clear hI hA hD hlt hK h1 h2 h3 hF
        gi_wp2
        go_wp2_with fail
        refine ⟨by simp, .inl ⟨_, _, rfl, run_takeDeferred HKD.out, ?_⟩⟩
        refine ⟨_, results_two_cells rfl rfl rfl H3.out.c1 H3.out.c2, ?_⟩
        exact ⟨_, _, rfl, fun _ => .inr ⟨HFN.out, rfl, rfl⟩, fun h => absurd HG.out h, H3.out.below⟩
      case stop =>
        rintro c' pre O W1 hpre ⟨rfl, m, u, hm, hI⟩ hD hlt hK
        have h3 := keepThree_put hI hD hlt (.deferred none)
        have H3 := Lib.hid h3
        have HM := Lib.hid hm
        have HKD := Lib.hid hK
        clear hI hD hlt hK h3 hm
        gi_wp2
        refine ⟨by simp, .inl ⟨_, _, rfl, run_takeDeferred HKD.out, ?_⟩⟩
        refine ⟨_, results_two_cells rfl rfl rfl H3.out.c1 H3.out.c2, ?_⟩
        exact ⟨_, _, rfl, fun _ => .inl ⟨m, HM.out, rfl, rfl⟩, fun h => absurd HG.out h, H3.out.below⟩
    · have q : (k == 0) = false := by simpa using hk
      have q2 : (k != 0) = true := by simpa using hk
      have HG := Lib.hid (show k = 0 ↔ CkFine c ∧ momI fr = 0 ∧ wkI work = 0 from hk0)
      have HK := Lib.hid hk
      have n1 := Y3.out.cell 0
      have n2 := Y4.out.cell 0
      have z1 := Y3.out.fz 0
      have z2 := Y4.out.fz 0
      clear hk0 hk k0 k1 k2 k3
      go_wp2_with fail
      refine ⟨_, results_two_cells rfl rfl rfl ((Y3.out.set 0 (.int .i64 0)).set_other 0 _ (by omega)) ((Y4.out.set_other 0 _ (by omega)).set 0 (.int .i64 k)), ?_⟩
      exact ⟨_, _, rfl, fun h => absurd (HG.out.2 h) HK.out, fun _ => ⟨rfl, HK.out⟩, (HBC.out.setCell (p := ⟨_, 0, none⟩) (by simp only; omega) _).setCell (p := ⟨_, 0, none⟩) (by simp only; omega) _⟩
end Go.Proofs.YtllcgcnebofdoaaGreatDoor
