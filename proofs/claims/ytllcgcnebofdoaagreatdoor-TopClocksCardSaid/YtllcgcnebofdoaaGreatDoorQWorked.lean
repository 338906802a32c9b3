/- The walk of cal.Worked. -/
import Derived.Test.YtllcgcnebofdoaaGreatDoorQOp1
namespace Go.Proofs.YtllcgcnebofdoaaGreatDoor
open Go Go.RowKit Go.Shelf
attribute [local go_sem] Oper.semAt_some

theorem lens_snoc (l : List Sp) (x : Sp) : lens (l ++ [x]) = lens l + (x.2 - x.1) := by
  rw [lens_append]
  simp [lens]
theorem lens_pre {pre xs : List Sp} {lo hi : Int} (hp : pre <+: xs) (h : Apart lo hi xs) (hlo : lo ≤ hi) : 0 ≤ lens pre ∧ lens pre ≤ hi - lo := by
  obtain ⟨r, rfl⟩ := hp
  have h1 := lens_cnt h hlo
  rw [lens_append] at h1
  have hge : ∀ l : List Sp, (∀ s ∈ l, s.1 < s.2) → 0 ≤ lens l := by
    intro l
    induction l with
    | nil => intro _; exact Int.le_refl _
    | cons s r ih =>
      intro hs
      have := ih (fun x hx => hs x (List.mem_cons_of_mem _ hx))
      have := hs s List.mem_cons_self
      simp only [lens]
      omega
  have h2 := hge pre (fun s hs => (h.mem s (List.mem_append_left _ hs)).2.1)
  have h3 := hge r (fun s hs => (h.mem s (List.mem_append_right _ hs)).2.1)
  have h4 := cnt_le (covB (pre ++ r)) lo hi
  omega

/-- what a consumer's loop keeps: one cell of its own, and what was there when the function was entered -/
structure KeepCell (w : World) (B : Nat) (t : TypeId) (v : Value) (O : Blocks) (W : World) : Prop where
  cell : Has W B #[v] t
  below : Below w.heap.size w W
  off : ¬ O B
  own : ∀ k, O k → w.heap.size ≤ k
theorem keepCell_abides {w : World} {B : Nat} {t : TypeId} {v : Value} : Abides (KeepCell w B t v) := by
  intro O W O' W' h ht ho hs
  have hb := h.cell.lt
  have hz := h.below.size
  have ho' : ∀ k, O' k → w.heap.size ≤ k := fun k g => by
    rcases ho k g with g | g
    · exact h.own k g
    · omega
  refine ⟨ht.has h.cell h.off, ht.below h.below hz h.own, fun g => ?_, ho'⟩
  rcases ho _ g with g | g
  · exact h.off g
  · omega

theorem keepCell_next {w : World} {B : Nat} {t : TypeId} {v u : Value} {O R : Blocks} {W : World} (h : KeepCell w B t v O W) (hB : w.heap.size ≤ B) (hR : ¬ R B) : Held O R W (W.setCell ⟨B, 0, none⟩ u) ∧ KeepCell w B t u O (W.setCell ⟨B, 0, none⟩ u) := by
  refine ⟨Held.of_turns (Turns.setCell (O := fun k => k = B) _ _ rfl) ?_, ⟨h.cell.set 0 u, h.below.setCell (p := ⟨B, 0, none⟩) hB _, h.off, h.own⟩⟩
  rintro k (g | g) rfl
  · exact h.off g
  · exact hR g

def WkPost (c : CalD) (fr en : Int) (w : World) (e : Ending) (w' : World) : Prop :=
  ∃ n k : Int, e = .returned (.tuple #[.int .i64 n, .int .i64 k]) ∧ (k = 0 ↔ CkFine c ∧ strI fr en = 0) ∧ (k = 0 → n = lens (openL c fr en)) ∧ (k ≠ 0 → n = 0) ∧ Below w.heap.size w w'

/-- the frame and the world as a round begins -/
def WkAx (T : Value → Value → Array Value) (x : Sp) (n : Nat) (a : Act) (W : World) : Prop :=
  ∃ Bx, n ≤ Bx ∧ Bx < W.heap.size ∧ Has W Bx #[.int .i64 x.1, .int .i64 x.2] 191 ∧ a = { tmps := T (.pointer (some ⟨Bx, 0, none⟩)) (.agg #[.int .i64 x.1, .int .i64 x.2]), defers := [] }
theorem wkAx_put {T : Value → Value → Array Value} {D : Nat} {x : Sp} {n : Nat} {a : Act} {W : World} (o : Obj) (h : WkAx T x n a W) (hD : D < n) : WkAx T x n a (W.putObj D o) := by
  obtain ⟨Bx, h1, h2, h3, h4⟩ := h
  exact ⟨Bx, h1, by simpa using h2, (World.putObj_heap_other (by omega)).trans h3, h4⟩

set_option maxRecDepth 100000 in
set_option maxHeartbeats 4000000 in
theorem Worked_any (c : CalD) (vcs vwk vsp : Value) (fr en : Int) (w : World) (h : CalAt w vcs vwk vsp c) :
    Calls Tryz.prog 96 #[.agg #[.int .i64 c.off, vcs, vwk, vsp], .int .i64 fr, .int .i64 en] w (WkPost c fr en w) := by
  have H := Lib.hid h
  obtain ⟨bx, bbl⟩ := box1 w #[.int .i64 c.off, vcs, vwk, vsp] 54
  clear h
  refine (callsIn_wide (n := 3)).1 ?_
  refine callsIn_of_wp_marks Tryz.func96 rfl trivial ?_ rfl
  simp only [Tryz.ntmps96, List.size_toArray, List.length_cons, List.length_nil, Nat.reduceAdd, Nat.reduceSub, Array.replicate_succ, Array.replicate_zero, List.push_toArray, List.append_toArray, List.nil_append, List.cons_append]
  refine wpIn_wide.2 ?_
  go_upto_region 1 with fail
  generalize w.alloc (.cells #[.int .i64 c.off, vcs, vwk, vsp] 54) = w1 at *
  have k0 := bx.cell 0
  have k1 := bx.cell 1
  have k2 := bx.cell 2
  have k3 := bx.cell 3
  have HB1 := Lib.hid bbl
  have HX1 := Lib.hid bx
  clear bx bbl
  have hck := CheckCalendar_any c vcs vwk vsp w1 (H.out.below HB1.out)
  go_wp2_with fail
  refine hck.mono ?_
  clear hck
  rintro e w2 ⟨⟨ca, rfl, hca⟩, hb2⟩
  have HB2 := Lib.hid (below_up HB1.out hb2 HB1.out.size)
  have HX2 := Lib.hid (HX1.out.below hb2 HX1.out.lt)
  have HCA := Lib.hid hca
  clear hb2 hca k0 k1 k2 k3 HX1
  go_wp2_with fail
  refine (stretch_any fr en w2).mono ?_
  rintro e w' ⟨rfl, rfl⟩
  generalize hst : strI fr en = st at *
  have HST := Lib.hid hst
  clear hst
  have hor := or_any _ [ca, st] _ (ints2_at w2 ca st 29) (by simp)
  rw [orI2] at hor
  have hb3 := box1 w2 #[.int .i64 ca, .int .i64 st] 29
  have HB3 := Lib.hid (below_up HB2.out hb3.2 HB2.out.size)
  have HX3 := Lib.hid (HX2.out.below hb3.2 HX2.out.lt)
  clear hb3 HX2
  go_wp2_with fail
  refine hor.mono ?_
  rintro e w' ⟨rfl, rfl⟩
  clear hor
  generalize w2.alloc (.cells #[.int .i64 ca, .int .i64 st] 29) = w3 at *
  have hgoal : (if ca = 0 then st else ca) = 0 ↔ CkFine c ∧ strI fr en = 0 := by
    rw [← HCA.out, HST.out]
    by_cases h : ca = 0
    · simp [h]
    · simp [h]
  generalize (if ca = 0 then st else ca) = k at *
  by_cases hk : k = 0
  · subst hk
    obtain ⟨hf, hs⟩ := hgoal.1 rfl
    obtain ⟨r1, r2, r3, r4⟩ := (strI_zero fr en).1 hs
    have HF := Lib.hid hf
    have HS := Lib.hid hs
    clear hgoal hf hs
    have HOP := Lib.hid (open_any c vcs vwk vsp fr en (w3.alloc (.cells #[.int .i64 0] 3)))
    have hb4 := box1 w3 #[.int .i64 0] 3
    have HX4 := Lib.hid (HX3.out.below hb4.2 HX3.out.lt)
    have HN4 := Lib.hid hb4.1
    have HB4 := Lib.hid (below_up HB3.out hb4.2 HB3.out.size)
    have k0 := HX4.out.cell 0
    have k1 := HX4.out.cell 1
    have k2 := HX4.out.cell 2
    have k3 := HX4.out.cell 3
    clear hb4
    go_upto_region 5 with fail
    generalize w3.alloc (.cells #[.int .i64 0] 3) = w4 at *
    go_wp2_with fail
    refine HOP.out.mono ?_
    clear HOP
    have h5 := three_boxes w4 #[.int .i64 c.off, vcs, vwk, vsp] #[.int .i64 fr] #[.int .i64 en] 54 3 3
    rintro e w5 ⟨rfl, hw5⟩
    rw [hw5] at h5
    obtain ⟨y1, y2, y3, hz5, hb5⟩ := h5
    have HY1 := Lib.hid y1
    have HY2 := Lib.hid y2
    have HY3 := Lib.hid y3
    have HZ5 := Lib.hid hz5
    have HBN := Lib.hid (HN4.out.below hb5 HN4.out.lt)
    have hN4 := HN4.out.lt
    have HB5 := Lib.hid (below_up HB4.out hb5 HB4.out.size)
    have hB4 := HB4.out.size
    have hBn := HB3.out.size
    generalize w3.heap.size = Bn at *
    generalize w4.heap.size = S0 at *
    clear y1 y2 y3 hz5 hb5 hw5 k0 k1 k2 k3
    go_wp2_with fail
    refine (wpIn_wide (n := 3)).1 ?_
    have hz5 := HZ5.out
    have HS5 := Lib.hid hz5
    have hap := open_apart HF.out.fine.ok fr en r1
    have HAP := Lib.hid hap
    clear hz5 hap
    refine wpIn_range_sep (gf := 137) (lb := #[.pointer (some ⟨S0, 0, none⟩), .pointer (some ⟨S0 + 1, 0, none⟩), .pointer (some ⟨S0 + 1 + 1, 0, none⟩)]) rfl (enters_of Tryz.func137 (by kernel_rfl) rfl)
      (encs := encsS) (R := fun k => k < w.heap.size ∨ (S0 ≤ k ∧ k < S0 + 3)) (xs := openL c fr en) ?seq (fun _ => rfl)
      (fun pre => KeepCell w Bn 3 (.int .i64 (lens pre))) (fun _ _ _ _ => False)
      (fun _ => keepCell_abides) (fun _ _ _ _ _ _ h _ _ _ => h) ?start
      (WkAx fun p x => #[.agg #[.int .i64 c.off, vcs, vwk, vsp], .int .i64 fr, .int .i64 en, .pointer (some ⟨w.heap.size, 0, none⟩), undef, undef, .int .i64 0, .int .i64 0, .int .i64 0, .pointer (some ⟨Bn, 0, none⟩), p,
        .agg #[.int .i64 c.off, vcs, vwk, vsp], .int .i64 ca, .int .i64 fr, .int .i64 en, .int .i64 st, .slice (some ⟨w2.heap.size, 0, none⟩) 2 2, .int .i64 0, .int .i64 0, .bool false, undef, .agg #[.int .i64 c.off, vcs, vwk, vsp], .int .i64 fr, .int .i64 en,
        .func (.func 137) #[] #[.pointer (some ⟨S0, 0, none⟩), .pointer (some ⟨S0 + 1, 0, none⟩), .pointer (some ⟨S0 + 1 + 1, 0, none⟩)], x, undef, undef, undef, undef, undef, undef, undef, undef])
      (fun x N a' W' o h hl => wkAx_put o h hl) ?rr ?assign ?body ?done ?stop
    case seq =>
      intro W1 hb1
      have hz := HZ5.out
      have hz1 := hb1.size
      exact open_seq c vcs vwk vsp fr en S0 (S0 + 1) (S0 + 1 + 1) (fun k => k < w.heap.size ∨ (S0 ≤ k ∧ k < S0 + 3)) w W1 (fun k hk => by omega) (fun k hk => .inl hk) (.inr (by omega)) (.inr (by omega)) (.inr (by omega)) (by omega)
        (fun k hk => (hb1.block k (by omega)).trans (HB5.out.block k hk)) HF.out.fine H.out (HY1.out.below hb1 HY1.out.lt) (HY2.out.below hb1 HY2.out.lt) (HY3.out.below hb1 HY3.out.lt) r1 (by omega) (by omega) r4
    case start => exact ⟨HBN.out, HB5.out, id, fun _ h => h.elim⟩
    case rr =>
      have hz := HZ5.out
      intro k hk
      omega
    case assign =>
      intro l' pre x O W1 K hI hlt hK
      have HK := Lib.hid hK
      clear hK
      simp only [encsS]
      gi_wp2
      exact HK.out _ _ ⟨W1.heap.size, Nat.le_refl _, by simp, Has.new _ _ _, rfl⟩ ((Below.refl _ _).alloc (Nat.le_refl _) _)
    case body =>
      rintro pre x O Nn a' W1 hI ⟨Bx, hB1, hB2, hx, rfl⟩ hN1 hN2 hnew hpre hO hD hLp hlt
      have hpp : pre <+: openL c fr en := (List.prefix_append _ _).trans hpre
      obtain ⟨p1, p2⟩ := lens_pre hpp HAP.out (by omega)
      obtain ⟨x1, x2⟩ := x
      obtain ⟨g1, g2, g3⟩ := HAP.out.mem (x1, x2) (hpre.subset (List.mem_append_right _ List.mem_cons_self))
      simp only at g1 g2 g3
      have HSN := Lib.hid (lens_snoc pre (x1, x2))
      have m0 := hx.cell 0
      have m1 := hx.cell 1
      have n0 := hI.cell.cell 0
      have z0 := hI.cell.fz 0
      have HI := Lib.hid hI
      clear hI hx hpre hpp hO hD hLp hnew
      generalize lens pre = lp at *
      gi_wp2
      rw [← HSN.out]
      exact keepCell_next HI.out hBn (by omega)
    case done =>
      intro O W1 hI hD hlt hK
      have n0 := hI.cell.cell 0
      have HI := Lib.hid hI
      have HK := Lib.hid hK
      have HLE := Lib.hid (show WkPost c fr en w (.returned (.tuple #[.int .i64 (lens (openL c fr en)), .int .i64 0])) (W1.putObj w5.heap.size (.deferred none)) from
        ⟨_, 0, rfl, ⟨fun _ => ⟨HF.out, HS.out⟩, fun _ => rfl⟩, fun _ => rfl, fun h => absurd rfl h, (Turns.putObj W1 _ hD).below hI.below hI.below.size hI.own⟩)
      clear hI hK hD hlt
      generalize lens (openL c fr en) = lp at *
      gi_wp2
      go_wp2_with fail
      refine ⟨by simp, .inl ⟨_, _, rfl, run_takeDeferred HK.out, ?_⟩⟩
      refine ⟨_, results_tmp2 rfl _ _ _, ?_⟩
      exact HLE.out
    case stop =>
      rintro c' pre O W1 hpre h
      exact h.elim
  · have q : (k == 0) = false := by simpa using hk
    have q2 : (k != 0) = true := by simpa using hk
    have HG := Lib.hid (show k = 0 ↔ CkFine c ∧ strI fr en = 0 from hgoal)
    have HK := Lib.hid hk
    clear hgoal hk
    go_wp2_with fail
    refine ⟨_, results_tmp2 rfl _ _ _, ?_⟩
    exact ⟨0, k, rfl, HG.out, fun h => absurd h HK.out, fun _ => rfl, HB3.out⟩
end Go.Proofs.YtllcgcnebofdoaaGreatDoor
