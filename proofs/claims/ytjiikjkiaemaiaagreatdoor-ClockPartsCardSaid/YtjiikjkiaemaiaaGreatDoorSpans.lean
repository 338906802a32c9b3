/- The walk of cal.Spans. -/
import Derived.Test.YtjiikjkiaemaiaaGreatDoorWorked
import Derived.Deep.AppendLies
namespace Go.Proofs.YtjiikjkiaemaiaaGreatDoor
open Go Go.RowKit Go.Shelf
attribute [local go_sem] Oper.semAt_some

theorem apart_length : ∀ {l : List Sp} {lo hi : Int}, Apart lo hi l → lo ≤ hi → (l.length : Int) ≤ hi - lo
  | [], lo, hi, _, h => by simp; omega
  | s :: r, lo, hi, h, h0 => by
    obtain ⟨h1, h2, h3, h4⟩ := h
    have := apart_length (h4.le (show s.2 ≤ _ by omega)) (by omega)
    simp only [List.length_cons]
    omega
def encP (x : Sp) : List Value := [.int .i64 x.1, .int .i64 x.2]
theorem infoSpan : (Tryz.prog.info? 34).map (fun i => (i.zero, i.size, i.bytes)) = some (some (.agg #[.int .i64 0, .int .i64 0]), 2, 16) := by kernel_rfl

/-- an append of one element in a round -/
theorem appendIn_one {F : Fence} {fn : Nat} {P : Program} {ops : Array Oper} {rest : List Oper} {o : Oper} {a : Act} {Q : Exit → Act → World → Prop} {w1 : World} (hgd : o.guard = none) (s x : Operand) (t : TypeId)
    (ho : o.op = .call { callee := .builtin .append, args := #[s, x], argTypes := #[t, t] })
    (B : Nat) (e : TypeId) (z : Value) (size bytes : Nat) (ht : P.underlying t = some (.slice e)) (hi : (P.info? e).map (fun i => (i.zero, i.size, i.bytes)) = some (some z, size, bytes))
    (hzs : z.cells.size = size) (hsz : 0 < size)
    (W w : World) (v : Value) (n : Nat) (xs : List Value) (hs : a.eval s = v) (hown : w.ownsRow B e size v n xs)
    (news : List Value) (hx : a.eval x = .slice (some ⟨w.heap.size, 0, none⟩) 1 1) (hw1 : w1 = w.alloc (.cells news.toArray e)) (hl : news.length = size) (h1 : ∀ u ∈ news, u.oneCell' = true)
    (hbytes : (n + 1) * bytes ≤ 140737488355328) (hn : n < 140737488355328) (hB : B ≤ w.heap.size)
    (h : ∀ g cap w', w'.ownsRow B e size (.slice (some ⟨g, 0, none⟩) (n + 1) cap) (n + 1) (xs ++ news) → w.grownBy w' v.ownBlock → (v.ownBlock = some g ∨ w.heap.size ≤ g) → wpListIn F fn P ops Q rest (a.put o.dst (.slice (some ⟨g, 0, none⟩) (n + 1) cap)) w') :
    wpListIn F fn P ops Q (o :: rest) a w1 := by
  subst hw1
  obtain ⟨i0, hi0, hz0, hz1, hz2⟩ := info_parts hi
  refine wpListIn_plain hgd fun K hK' => ?_
  obtain ⟨g, cap, w', hrun, r1, r2, r3, r4⟩ := run_append_lies (P := P) (w.alloc (.cells news.toArray e)) t o.type B e i0 z size bytes ht hi0 hz0 hz1 hz2 hzs hsz v n xs (hown.alloc _) ⟨w.heap.size, 0, none⟩ 1 1 news (by omega) (by
    intro j u hj
    have e1 : (⟨w.heap.size, 0, none⟩ : Addr).add j = ⟨w.heap.size, j, none⟩ := by unfold Addr.add; split <;> simp_all
    rw [e1, World.cell?_alloc_at _ _ _ _ rfl]
    simpa using hj) h1 (by decide) (by unfold maxLen; omega) hbytes (by simp; omega) _ rfl
  unfold Oper.wpIn
  refine ⟨?_, ?_⟩
  · simp [Oper.about, ho, resolve, Target.leads, Sem.run_pure]
  · rw [Oper.semAt_plain F _ _ (by rw [ho]; intro c hc'; cases hc')]
    simp [execOp, ho, resolve, invoke, builtin, hs, hx, hrun, Result.andThen]
    refine hK' _ _ (h g cap w' r1 ?_ ?_)
    · exact ⟨r2.os, r2.tape, r2.output, Nat.le_trans (by simp) r2.size, fun k hk hne => (r2.block k (by simp; omega) hne).trans (Below.heap_alloc _ _ _ hk)⟩
    · rcases r3 with r3 | r3
      · exact .inl r3
      · exact .inr (by rw [r3]; simp)

/-- what the loop keeps: the box of the slice, the slice, and what was there -/
structure SpKeep (w : World) (Bl S3 : Nat) (pre : List Sp) (O : Blocks) (W : World) : Prop where
  row : ∃ v, Has W Bl #[v] 51 ∧ W.ownsRow w.heap.size 34 2 v pre.length (pre.flatMap encP) ∧ ∀ g, v.ownBlock = some g → ¬ O g ∧ S3 ≤ g
  below : Below w.heap.size w W
  off : ¬ O Bl
  own : ∀ k, O k → w.heap.size ≤ k
theorem owns_same {w w' : World} {B : Nat} {e : TypeId} {sz : Nat} {v : Value} {n : Nat} {xs : List Value} (h : w.ownsRow B e sz v n xs) (hb : ∀ g, v.ownBlock = some g → w'.heap[g]? = w.heap[g]?) : w'.ownsRow B e sz v n xs := by
  rcases h with ⟨h1, h2 | ⟨g, cap, cur, rfl, h3, h4, h5⟩⟩
  · exact ⟨h1, .inl h2⟩
  · exact ⟨h1, .inr ⟨g, cap, cur, rfl, h3, (hb g rfl).trans h4, h5⟩⟩
theorem owns_lt {w : World} {B : Nat} {e : TypeId} {sz : Nat} {v : Value} {n : Nat} {xs : List Value} (h : w.ownsRow B e sz v n xs) {g : Nat} (hg : v.ownBlock = some g) : g < w.heap.size := (h.lt g hg).2
theorem spKeep_abides {w : World} {Bl S3 : Nat} {pre : List Sp} : Abides (SpKeep w Bl S3 pre) := by
  intro O W O' W' h ht ho hs
  obtain ⟨v, hv, hrow, hg⟩ := h.row
  have hb := hv.lt
  have hz := h.below.size
  have ho' : ∀ k, O' k → w.heap.size ≤ k := fun k g => by
    rcases ho k g with g | g
    · exact h.own k g
    · omega
  refine ⟨⟨v, ht.has hv h.off, owns_same hrow (fun g e => ht.block g (owns_lt hrow e) (hg g e).1), fun g e => ⟨fun g9 => ?_, (hg g e).2⟩⟩, ht.below h.below hz h.own, fun g => ?_, ho'⟩
  · have := owns_lt hrow e
    rcases ho _ g9 with g9 | g9
    · exact (hg g e).1 g9
    · omega
  · rcases ho _ g with g | g
    · exact h.off g
    · omega
def SpnPost (c : CalD) (fr en : Int) (w : World) (e : Ending) (w' : World) : Prop :=
  ∃ v l k, e = .returned (.tuple #[v, .int .i64 k]) ∧ w'.ownsRow w.heap.size 34 2 v l.length (l.flatMap encP) ∧ (CkFine c ∧ strI fr en = 0 → (k = 0 ∧ l = openL c fr en ∧ l.length ≤ 50000) ∨ (k = 4 ∧ l = [] ∧ 50000 < (openL c fr en).length)) ∧ (¬ (CkFine c ∧ strI fr en = 0) → k ≠ 0 ∧ l = []) ∧ Below w.heap.size w w'
theorem changes_owns {w : World} {B : Nat} {v : Value} {l : List Sp} (h : w.ownsRow B 34 2 v l.length (l.flatMap encP)) : Changes w v l := slice_of_owns encP h (fun _ _ => rfl) (fun _ _ => rfl)
theorem changes_zero (w : World) : Changes w (.slice none 0 0) [] := .inl ⟨none, 0, rfl, rfl⟩

set_option maxRecDepth 100000 in
set_option maxHeartbeats 4000000 in
theorem Spans_any (c : CalD) (vcs vwk vsp : Value) (fr en : Int) (w : World) (h : CalAt w vcs vwk vsp c) :
    Calls Tryz.prog 12 #[.agg #[.int .i64 c.off, vcs, vwk, vsp], .int .i64 fr, .int .i64 en] w (SpnPost c fr en w) := by
  have H := Lib.hid h
  obtain ⟨bx, bbl⟩ := box1 w #[.int .i64 c.off, vcs, vwk, vsp] 60
  clear h
  refine (callsIn_wide (n := 3)).1 ?_
  refine callsIn_of_wp_marks Tryz.func12 rfl trivial ?_ rfl
  simp only [Tryz.ntmps12, List.size_toArray, List.length_cons, List.length_nil, Nat.reduceAdd, Nat.reduceSub, Array.replicate_succ, Array.replicate_zero, List.push_toArray, List.append_toArray, List.nil_append, List.cons_append]
  refine wpIn_wide.2 ?_
  go_upto_region 1 with fail
  generalize w.alloc (.cells #[.int .i64 c.off, vcs, vwk, vsp] 60) = w1 at *
  have k0 := bx.cell 0
  have k1 := bx.cell 1
  have k2 := bx.cell 2
  have k3 := bx.cell 3
  have HB1 := Lib.hid bbl
  have HX1 := Lib.hid bx
  clear bx bbl
  have hck := CheckCalendar_any c vcs vwk vsp w1 (H.out.below HB1.out)
  go_wp2_with fail
  refine hck.mono ?_
  clear hck
  rintro e w2 ⟨⟨ca, rfl, hca⟩, hb2⟩
  have HB2 := Lib.hid (below_up HB1.out hb2 HB1.out.size)
  have HX2 := Lib.hid (HX1.out.below hb2 HX1.out.lt)
  have HCA := Lib.hid hca
  clear hb2 hca k0 k1 k2 k3 HX1
  go_wp2_with fail
  refine (stretch_any fr en w2).mono ?_
  rintro e w' ⟨rfl, rfl⟩
  generalize hst : strI fr en = st at *
  have HST := Lib.hid hst
  clear hst
  have hor := or_any _ [ca, st] _ (ints2_at w2 ca st 28) (by simp)
  rw [orI2] at hor
  have hb3 := box1 w2 #[.int .i64 ca, .int .i64 st] 28
  have HB3 := Lib.hid (below_up HB2.out hb3.2 HB2.out.size)
  have HX3 := Lib.hid (HX2.out.below hb3.2 HX2.out.lt)
  clear hb3 HX2
  go_wp2_with fail
  refine hor.mono ?_
  rintro e w' ⟨rfl, rfl⟩
  clear hor
  generalize w2.alloc (.cells #[.int .i64 ca, .int .i64 st] 28) = w3 at *
  have hgoal : (if ca = 0 then st else ca) = 0 ↔ CkFine c ∧ strI fr en = 0 := by
    rw [← HCA.out, HST.out]
    by_cases h : ca = 0
    · simp [h]
    · simp [h]
  generalize (if ca = 0 then st else ca) = k at *
  by_cases hk : k = 0
  · subst hk
    obtain ⟨hf, hs⟩ := hgoal.1 rfl
    obtain ⟨r1, r2, r3, r4⟩ := (strI_zero fr en).1 hs
    have HF := Lib.hid hf
    have HS := Lib.hid (show CkFine c ∧ strI fr en = 0 from hgoal.1 rfl)
    clear hgoal hf hs
    have HOP := Lib.hid (open_any c vcs vwk vsp fr en (w3.alloc (.cells #[.slice none 0 0] 51)))
    have hb4 := box1 w3 #[.slice none 0 0] 51
    have HX4 := Lib.hid (HX3.out.below hb4.2 HX3.out.lt)
    have HN4 := Lib.hid hb4.1
    have HB4 := Lib.hid (below_up HB3.out hb4.2 HB3.out.size)
    have k0 := HX4.out.cell 0
    have k1 := HX4.out.cell 1
    have k2 := HX4.out.cell 2
    have k3 := HX4.out.cell 3
    clear hb4
    go_upto_region 5 with fail
    generalize w3.alloc (.cells #[.slice none 0 0] 51) = w4 at *
    go_wp2_with fail
    refine HOP.out.mono ?_
    clear HOP
    have h5 := three_boxes w4 #[.int .i64 c.off, vcs, vwk, vsp] #[.int .i64 fr] #[.int .i64 en] 60 3 3
    rintro e w5 ⟨rfl, hw5⟩
    rw [hw5] at h5
    obtain ⟨y1, y2, y3, hz5, hb5⟩ := h5
    have HY1 := Lib.hid y1
    have HY2 := Lib.hid y2
    have HY3 := Lib.hid y3
    have HZ5 := Lib.hid hz5
    have HBN := Lib.hid (HN4.out.below hb5 HN4.out.lt)
    have hN4 := HN4.out.lt
    have HB5 := Lib.hid (below_up HB4.out hb5 HB4.out.size)
    have hB4 := HB4.out.size
    have hBn := HB3.out.size
    generalize w3.heap.size = Bn at *
    generalize w4.heap.size = S0 at *
    clear y1 y2 y3 hz5 hb5 hw5 k0 k1 k2 k3
    go_wp2_with fail
    refine (wpIn_wide (n := 3)).1 ?_
    have hap := open_apart HF.out.fine.ok fr en r1
    have HAP := Lib.hid hap
    have HLN := Lib.hid (apart_length hap r3)
    clear hap
    refine wpIn_range_sep (gf := 39) (lb := #[.pointer (some ⟨S0, 0, none⟩), .pointer (some ⟨S0 + 1, 0, none⟩), .pointer (some ⟨S0 + 1 + 1, 0, none⟩)]) rfl (enters_of Tryz.func39 (by kernel_rfl) rfl)
      (encs := encsS) (R := fun k => k < w.heap.size ∨ (S0 ≤ k ∧ k < S0 + 3)) (xs := openL c fr en) ?seq (fun _ => rfl)
      (SpKeep w Bn (S0 + 3)) (fun _ _ _ _ => False)
      (fun _ => spKeep_abides) (fun _ _ _ _ _ _ h _ _ _ => h) ?start
      (WkAx fun p x => #[.agg #[.int .i64 c.off, vcs, vwk, vsp], .int .i64 fr, .int .i64 en, .pointer (some ⟨w.heap.size, 0, none⟩), undef, undef, .slice none 0 0, .int .i64 0, .int .i64 0, .pointer (some ⟨Bn, 0, none⟩), p,
        .agg #[.int .i64 c.off, vcs, vwk, vsp], .int .i64 ca, .int .i64 fr, .int .i64 en, .int .i64 st, .slice (some ⟨w2.heap.size, 0, none⟩) 2 2, .int .i64 0, .int .i64 0, .bool false, undef, .agg #[.int .i64 c.off, vcs, vwk, vsp], .int .i64 fr, .int .i64 en,
        .func (.func 39) #[] #[.pointer (some ⟨S0, 0, none⟩), .pointer (some ⟨S0 + 1, 0, none⟩), .pointer (some ⟨S0 + 1 + 1, 0, none⟩)], x, undef, undef, undef, undef, undef, undef, undef, undef])
      (fun x N a' W' o h hl => wkAx_put o h hl) ?rr ?assign ?body ?done ?stop
    case seq =>
      intro W1 hb1
      have hz := HZ5.out
      have hz1 := hb1.size
      exact open_seq c vcs vwk vsp fr en S0 (S0 + 1) (S0 + 1 + 1) (fun k => k < w.heap.size ∨ (S0 ≤ k ∧ k < S0 + 3)) w W1 (fun k hk => by omega) (fun k hk => .inl hk) (.inr (by omega)) (.inr (by omega)) (.inr (by omega)) (by omega)
        (fun k hk => (hb1.block k (by omega)).trans (HB5.out.block k hk)) HF.out.fine H.out (HY1.out.below hb1 HY1.out.lt) (HY2.out.below hb1 HY2.out.lt) (HY3.out.below hb1 HY3.out.lt) r1 (by omega) (by omega) r4
    case start => exact ⟨⟨_, HBN.out, ⟨rfl, .inl ⟨rfl, rfl⟩⟩, fun g e => by cases e⟩, HB5.out, id, fun _ h => h.elim⟩
    case rr =>
      have hz := HZ5.out
      intro k hk
      omega
    case assign =>
      intro l' pre x O W1 K hI hlt hK
      have HK := Lib.hid hK
      clear hK
      simp only [encsS]
      gi_wp2
      exact HK.out _ _ ⟨W1.heap.size, Nat.le_refl _, by simp, Has.new _ _ _, rfl⟩ ((Below.refl _ _).alloc (Nat.le_refl _) _)
    case body =>
      rintro pre x O Nn a' W1 hI ⟨Bx, hB1, hB2, hx, rfl⟩ hN1 hN2 hnew hpre hO hD hLp hlt
      have hplen := hpre.length_le
      rw [List.length_append] at hplen
      simp only [List.length_cons, List.length_nil] at hplen
      have hpl : pre.length < 3000001 := by have := HLN.out; omega
      obtain ⟨x1, x2⟩ := x
      obtain ⟨v, hv, hrow, hvg⟩ := hI.row
      have m0 := hx.cell 0
      have m1 := hx.cell 1
      have n0 := hv.cell 0
      have HI := Lib.hid hI
      have HV := Lib.hid hv
      have HRW := Lib.hid hrow
      have HVG := Lib.hid hvg
      have HOL := Lib.hid hO
      have hz5 := HZ5.out
      have hwl : w.heap.size ≤ W1.heap.size := by omega
      obtain ⟨av, cv, rfl⟩ := owns_slice hrow
      clear hI hx hpre hplen hO hD hLp hnew hv hrow hvg
      gi_wp2_with (gi_at_builtin; refine appendIn_one rfl _ _ 51 rfl w.heap.size 34 (.agg #[.int .i64 0, .int .i64 0]) 2 16 Tryz.underlying51 infoSpan rfl (by decide) w W1 (.slice av pre.length cv) pre.length (pre.flatMap encP) rfl HRW.out [.int .i64 x1, .int .i64 x2] rfl rfl rfl (by simp [Value.oneCell']) (by omega) (by omega) hwl ?_; intro g cap w6 hown6 hgrow hat; have hv6 := HV.out.kept_own HRW.out (by decide) hgrow; have n6 := hv6.cell 0; have z6 := hv6.fz 0; have HV6 := Lib.hid hv6; have HO6 := Lib.hid hown6; have HG6 := Lib.hid hgrow; have HAT := Lib.hid hat; clear hv6 hown6 hgrow hat)
      have hzz := HZ5.out
      have hne : g ≠ Bn := by
        intro e
        subst e
        rcases HO6.out.2 with ⟨h0, _⟩ | ⟨g', cap', cur, h0, _, hg, _⟩
        · cases h0
        · cases h0
          have h6 : w6.heap[g]? = some (.cells _ 51 (0, 0)) := HV6.out
          rw [h6] at hg
          cases hg
      have hgO : ¬ O g ∧ S0 + 3 ≤ g := by
        rcases HAT.out with h | h
        · exact HVG.out g h
        · exact ⟨fun h9 => by have := HOL.out g h9; omega, by omega⟩
      refine ⟨Held.trans (B := w6) ⟨HG6.out.size, fun k hk hor => HG6.out.block k hk (fun e => ?_)⟩ (Held.of_turns (Turns.setCell (O := fun k => k = Bn) _ _ rfl) ?_), ?_⟩
      · obtain ⟨v1, v2⟩ := HVG.out k e.symm
        rcases hor with g9 | g9
        · exact v1 g9
        · omega
      · rintro k (g9 | g9) rfl
        · exact HI.out.off g9
        · omega
      · refine ⟨⟨_, HV6.out.set 0 _, ?_, fun g' e => by cases e; exact hgO⟩, (HI.out.below.grown HG6.out hwl (fun k hk => (HRW.out.lt k hk).1)).setCell (p := ⟨Bn, 0, none⟩) hBn _, HI.out.off, HI.out.own⟩
        refine owns_same (w := w6) ?_ (fun g' e => Below.heap_setCell _ _ _ _ (fun e2 => hne (by cases e; exact e2)))
        rw [List.length_append, List.flatMap_append]
        exact HO6.out
    case done =>
      intro O W1 hI hD hlt hK
      obtain ⟨v, hv, hrow, hvg⟩ := hI.row
      obtain ⟨av, cv, rfl⟩ := owns_slice hrow
      have n0 := hv.cell 0
      have HBL := Lib.hid ((Turns.putObj W1 (.deferred none) hD).below hI.below hI.below.size hI.own)
      have HRW := Lib.hid (owns_same (w' := W1.putObj w5.heap.size (.deferred none)) hrow (fun g e => World.putObj_heap_other (fun e2 => (hvg g e).1 (by rw [e2]; exact hD))))
      have HK := Lib.hid hK
      have HLL := Lib.hid (show (openL c fr en).length ≤ 3000001 by have := HLN.out; omega)
      have hll := HLL.out
      clear hI hD hlt hK hv hrow hvg
      have HCL := Lib.hid HRW.out
      by_cases hlong : (openL c fr en).length ≤ 50000
      · have q : decide ((50000 : Int) < ((openL c fr en).length : Int)) = false := decide_eq_false (by omega)
        have HLE := Lib.hid (show SpnPost c fr en w (.returned (.tuple #[.slice av (openL c fr en).length cv, .int .i64 0])) (W1.putObj w5.heap.size (.deferred none)) from
          ⟨_, openL c fr en, 0, rfl, HCL.out, fun _ => .inl ⟨rfl, rfl, hlong⟩, fun h => absurd HS.out h, HBL.out⟩)
        clear hlong
        generalize (openL c fr en).length = n at *
        gi_wp2
        go_wp2_with fail
        refine ⟨by simp, .inl ⟨_, _, rfl, run_takeDeferred HK.out, ?_⟩⟩
        refine ⟨_, results_tmp2 rfl _ _ _, ?_⟩
        exact HLE.out
      · have q : decide ((50000 : Int) < ((openL c fr en).length : Int)) = true := decide_eq_true (by omega)
        have HLE := Lib.hid (show SpnPost c fr en w (.returned (.tuple #[.slice none 0 0, .int .i64 4])) (W1.putObj w5.heap.size (.deferred none)) from
          ⟨_, [], 4, rfl, World.ownsRow_nil _ _ _ _, fun _ => .inr ⟨rfl, rfl, by omega⟩, fun h => absurd HS.out h, HBL.out⟩)
        clear hlong
        generalize (openL c fr en).length = n at *
        gi_wp2
        go_wp2_with fail
        refine ⟨by simp, .inl ⟨_, _, rfl, run_takeDeferred HK.out, ?_⟩⟩
        refine ⟨_, results_tmp2 rfl _ _ _, ?_⟩
        exact HLE.out
    case stop =>
      rintro c' pre O W1 hpre h
      exact h.elim
  · have q : (k == 0) = false := by simpa using hk
    have q2 : (k != 0) = true := by simpa using hk
    have HG := Lib.hid (show k = 0 ↔ CkFine c ∧ strI fr en = 0 from hgoal)
    have HK := Lib.hid hk
    clear hgoal hk
    go_wp2_with fail
    refine ⟨_, results_tmp2 rfl _ _ _, ?_⟩
    exact ⟨_, [], k, rfl, World.ownsRow_nil _ _ _ _, fun h => absurd (HG.out.2 h) HK.out, fun _ => ⟨HK.out, rfl⟩, HB3.out⟩
end Go.Proofs.YtjiikjkiaemaiaaGreatDoor
