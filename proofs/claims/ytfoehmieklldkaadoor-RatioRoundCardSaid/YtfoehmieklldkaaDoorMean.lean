/- The walk of staff's meanWait. -/
import Derived.Test.YtfoehmieklldkaaDoorWaits
import Derived.Laws.ResultCell
namespace Go.Proofs.YtfoehmieklldkaaDoor
open Go.RowKit

theorem results_cell_tmp_row {P : Program} {fn : Func} {p u : Tmp} {ty : TypeId} (h : fn.results = #[.cell p ty, .tmp u]) (tmps : Array Value) (w : World) (g : Nat) (t : TypeId) (cs : Array Value) (fr : Nat × Nat) (d : TypeDesc)
    (hp : tmps.getD p undef = .pointer (some ⟨g, 0, none⟩)) (hg : w.heap[g]? = some (.cells cs t fr))
    (hu : P.underlying ty = some d) (hd : (match d with | .struct _ | .array _ _ => true | _ => false) = true) (hi : (P.info? ty).map (·.size) = some cs.size) :
    (results fn tmps).run P w = .ok (.tuple #[.agg cs, tmps.getD u undef]) w := by
  rw [results_cell_tmp h, hp]
  simp [asAddr, run_loadVar_row w g t ty cs fr d hg hu hd hi]

set_option maxRecDepth 100000 in
set_option maxHeartbeats 4000000 in
theorem meanWait_any (C L S n : Nat) (hl : LdOk C L S) (hn : n ≤ 60) (w : World) :
    Calls Tryd.prog 60 #[.agg #[.int .i64 (C : Nat), .int .i64 (L : Nat), .int .i64 (S : Nat)], .int .i64 (n : Nat)] w
      (fun e w' => ∃ a1 l1 c1 a2 l2 c2, e = .returned (.tuple #[.agg #[.slice a1 l1 c1, .slice a2 l2 c2], .bool (meanN ⟨C, L, S⟩ n).isSome]) ∧ (∀ m, meanN ⟨C, L, S⟩ n = some m → RatAt w' (.slice a1 l1 c1) (.slice a2 l2 c2) m.1 m.2 (2 * n + 4)) ∧ Below w.heap.size w w') := by
  have hp := hl.p
  have hs := hl.s
  have hof := offered_any C L S hl
  have hen := enough_any C L S n hl hn
  have hbk := waits_any C L S n hl hn
  have hw0 : C = 0 → meanN ⟨C, L, S⟩ n = some (0, 1) := fun h => by unfold meanN; rw [if_pos h]
  have hw1 : C ≠ 0 → ¬ C * L < n * S → meanN ⟨C, L, S⟩ n = none := fun h h' => by unfold meanN; rw [if_neg h, if_neg h']
  have hw2 : C ≠ 0 → C * L < n * S → meanN ⟨C, L, S⟩ n = some ((waitsN ⟨C, L, S⟩ n).1 * (L * S), (waitsN ⟨C, L, S⟩ n).2 * (n * S - C * L)) := fun h h' => by unfold meanN; rw [if_neg h, if_pos h']
  have hll := hl.l
  have p3 : L * S ≤ 1440 * 10080 := Nat.mul_le_mul hll hs
  have m3 : IntKind.i64.wrap ((L : Int) * (S : Int)) = ((L * S : Nat) : Int) := by
    rw [show (L : Int) * (S : Int) = ((L * S : Nat) : Int) from (Int.natCast_mul L S).symm, IntWalk.i64_in _ (by omega)]
  have p2 : n * S ≤ 60 * 10080 := Nat.mul_le_mul hn hs
  have m1 : IntKind.i64.wrap ((n : Int) * (S : Int)) = ((n * S : Nat) : Int) := by
    rw [show (n : Int) * (S : Int) = ((n * S : Nat) : Int) from (Int.natCast_mul n S).symm, IntWalk.i64_in _ (by omega)]
  generalize meanN ⟨C, L, S⟩ n = mn at *
  generalize waitsN ⟨C, L, S⟩ n = wn at *
  generalize L * S = LS at *
  generalize C * L = P at *
  generalize n * S = N at *
  have hbx := box2 w #[.int .i64 (C : Nat), .int .i64 (L : Nat), .int .i64 (S : Nat)] #[.slice none 0 0, .slice none 0 0] 23 82
  have HOF := Lib.hid hof
  have HEN := Lib.hid hen
  have HBK := Lib.hid hbk
  clear hof hen hbk
  go_enter Tryd.func60, Tryd.ntmps60
  go_upto_region 1 with fail
  generalize (w.alloc (.cells #[.int .i64 (C : Nat), .int .i64 (L : Nat), .int .i64 (S : Nat)] 23)).alloc (.cells #[.slice none 0 0, .slice none 0 0] 82) = w2 at *
  obtain ⟨hx, hx2, hbl⟩ := hbx
  have k0 : w2.cell? ⟨w.heap.size, 0, none⟩ = some (.int .i64 (C : Nat)) := hx.cell 0
  have k1 : w2.cell? ⟨w.heap.size, 1, none⟩ = some (.int .i64 (L : Nat)) := hx.cell 1
  have k2 : w2.cell? ⟨w.heap.size, 2, none⟩ = some (.int .i64 (S : Nat)) := hx.cell 2
  have q0 : w2.cell? ⟨w.heap.size + 1, 0, none⟩ = some (.slice none 0 0) := hx2.cell 0
  have q1 : w2.cell? ⟨w.heap.size + 1, 1, none⟩ = some (.slice none 0 0) := hx2.cell 1
  have z0 := hx2.fz 0
  have z1 := hx2.fz 1
  have hlt1 := hx.lt
  have hlt2 := hx2.lt
  by_cases hC : C = 0
  · have hCb : ((C : Int) == 0) = true := by subst hC; rfl
    have hw := hw0 hC
    clear hw0 hw1 hw2
    subst hw
    obtain ⟨r1, r2, r3⟩ := resSet (.slice none 0 0) (.slice (some ⟨w2.heap.size, 0, none⟩) 1 1) hx2 hbl (by omega)
    have hf := waits0 (K := 2 * n + 4) r1 r2 (by have := hbl.size; omega) (by omega)
    rw [r3] at hf
    have HF := Lib.hid hf
    clear hf hx hx2 hbl r1 r2 r3
    go_wp2_with fail
    refine bodyPost_ret (results_cell_tmp_row rfl _ _ (w.heap.size + 1) _ _ (0, 0) _ rfl HF.out.2 Tryd.underlying82 rfl infoRatio) rfl ?_
    exact ⟨_, _, _, _, _, _, rfl, (fun m hm => by cases hm; exact HF.out.1.1), HF.out.1.2⟩
  · have hCb : ((C : Int) == 0) = false := by simpa using hC
    go_wp2_with fail
    refine (HEN.out w2).mono ?_
    rintro e w3 ⟨rfl, hb⟩
    have hx3 := hx2.below hb hlt2
    have hb3 := below_up hbl hb hbl.size
    have hlt3 : w.heap.size + 1 < w3.heap.size := hx3.lt
    have hl3 := hx.below hb hlt1
    have k0 : w3.cell? ⟨w.heap.size, 0, none⟩ = some (.int .i64 (C : Nat)) := hl3.cell 0
    have k1 : w3.cell? ⟨w.heap.size, 1, none⟩ = some (.int .i64 (L : Nat)) := hl3.cell 1
    have k2 : w3.cell? ⟨w.heap.size, 2, none⟩ = some (.int .i64 (S : Nat)) := hl3.cell 2
    have q0 : w3.cell? ⟨w.heap.size + 1, 0, none⟩ = some (.slice none 0 0) := hx3.cell 0
    have q1 : w3.cell? ⟨w.heap.size + 1, 1, none⟩ = some (.slice none 0 0) := hx3.cell 1
    have z0 := hx3.fz 0
    have z1 := hx3.fz 1
    clear hx2 hbl hb hx
    by_cases hPN : P < N
    · have hd : decide (P < N) = true := by simpa using hPN
      have hw := hw2 hC hPN
      clear hw0 hw1 hw2
      subst hw
      go_wp2_with fail
      refine (HOF.out w3).mono ?_
      rintro e w4 ⟨rfl, hb⟩
      have hx4 := hx3.below hb hlt3
      have hb4 := below_up hb3 hb hb3.size
      have hl4 := hl3.below hb (by omega)
      have hlt4 : w.heap.size + 1 < w4.heap.size := hx4.lt
      have k0 : w4.cell? ⟨w.heap.size, 0, none⟩ = some (.int .i64 (C : Nat)) := hl4.cell 0
      have k1 : w4.cell? ⟨w.heap.size, 1, none⟩ = some (.int .i64 (L : Nat)) := hl4.cell 1
      have k2 : w4.cell? ⟨w.heap.size, 2, none⟩ = some (.int .i64 (S : Nat)) := hl4.cell 2
      have hl4' := hl4
      clear q0 q1 z0 z1 hl3 hx3 hb3 hb hl4
      go_wp2_with fail
      refine (HBK.out w4).mono ?_
      rintro e w5 ⟨a1, l1, c1, a2, l2, c2, rfl, hr, hb⟩
      have hx5 := hx4.below hb hlt4
      have hb5 := below_up hb4 hb hb4.size
      have hlt5 : w.heap.size + 1 < w5.heap.size := hx5.lt
      clear k0 k1 k2 hx4 hb4
      obtain ⟨bx, bb⟩ := box1 w5 #[.slice a1 l1 c1, .slice a2 l2 c2] 82
      have N1 := Lib.hid (hr.num.below bb)
      have N2 := Lib.hid (hr.den.below bb)
      have hx6 := hx5.below bb (by omega)
      have hb6 := below_up hb5 bb hb5.size
      have hlt6 := bx.lt
      have hl5 := hl4'.below hb (by omega)
      have hl6 := hl5.below bb (by omega)
      have g2 : (w5.alloc (.cells #[.slice a1 l1 c1, .slice a2 l2 c2] 82)).cell? ⟨w.heap.size, 1, none⟩ = some (.int .i64 (L : Nat)) := hl6.cell 1
      have g0 : (w5.alloc (.cells #[.slice a1 l1 c1, .slice a2 l2 c2] 82)).cell? ⟨w5.heap.size, 0, none⟩ = some (.slice a1 l1 c1) := bx.cell 0
      have g1 : (w5.alloc (.cells #[.slice a1 l1 c1, .slice a2 l2 c2] 82)).cell? ⟨w5.heap.size, 1, none⟩ = some (.slice a2 l2 c2) := bx.cell 1
      have hne : w.heap.size + 1 ≠ w5.heap.size := by omega
      have HX6 := Lib.hid hx6
      have HB6 := Lib.hid hb6
      clear hr hx5 hb5 bb bx hx6 hb6 hl5 hl6 hl4' hb
      go_upto_region 7 with fail
      generalize w5.alloc (.cells #[.slice a1 l1 c1, .slice a2 l2 c2] 82) = w6 at *
      generalize w5.heap.size = Bb at *
      have m2 : IntKind.i64.wrap ((N : Int) - (P : Int)) = ((N - P : Nat) : Int) := by rw [IntWalk.i64_in _ (by omega)]; omega
      have hlt7 : w.heap.size + 1 < w6.heap.size := HX6.out.lt
      have hne2 : w.heap.size + 1 ≠ w.heap.size := by omega
      have hks : ∀ W, Below w6.heap.size w6 W → W.cell? ⟨Bb, 0, none⟩ = some (.slice a1 l1 c1) ∧ W.cell? ⟨Bb, 1, none⟩ = some (.slice a2 l2 c2) ∧ W.cell? ⟨w.heap.size, 1, none⟩ = some (.int .i64 (L : Nat)) := fun W h => ⟨(below_cell h hlt6).trans g0, (below_cell h hlt6).trans g1, (below_cell h (by omega)).trans g2⟩
      have hst : ∀ (W : World) (u v : Value), (W.cell? ⟨Bb, 0, none⟩ = some (.slice a1 l1 c1) ∧ W.cell? ⟨Bb, 1, none⟩ = some (.slice a2 l2 c2) ∧ W.cell? ⟨w.heap.size, 1, none⟩ = some (.int .i64 (L : Nat))) → ((W.setCell ⟨w.heap.size + 1, 0, none⟩ u).setCell ⟨w.heap.size + 1, 1, none⟩ v).cell? ⟨Bb, 0, none⟩ = some (.slice a1 l1 c1) ∧ ((W.setCell ⟨w.heap.size + 1, 0, none⟩ u).setCell ⟨w.heap.size + 1, 1, none⟩ v).cell? ⟨Bb, 1, none⟩ = some (.slice a2 l2 c2) ∧ ((W.setCell ⟨w.heap.size + 1, 0, none⟩ u).setCell ⟨w.heap.size + 1, 1, none⟩ v).cell? ⟨w.heap.size, 1, none⟩ = some (.int .i64 (L : Nat)) := fun W u v h => by
        rw [set_block hne, set_block hne, set_block hne, set_block hne, set_block hne2, set_block hne2]; exact h
      have HKS := Lib.hid hks
      have HST := Lib.hid hst
      have HP := Lib.hid hp
      clear hks hst k0
      go_region_held3 (fun W => W.cell? ⟨Bb, 0, none⟩ = some (.slice a1 l1 c1) ∧ W.cell? ⟨Bb, 1, none⟩ = some (.slice a2 l2 c2) ∧ W.cell? ⟨w.heap.size, 1, none⟩ = some (.int .i64 (L : Nat)))
        (first | exact HKS.out _ hB | exact HST.out _ _ _ (HKS.out _ hB) | exact HKS.out _ (Below.refl _ _).drew)
        (first
          | (go_at_call 66; have hg := hB; refine (small_any _ wn.2 (N - P) (2 * n + 3) _ (N2.out.below hB) (by omega) (by omega)).mono ?_; rintro e w' ⟨x2, y2, z2, rfl, hn2, hb⟩; have hn1 := hn1.below hb; have hB := below_up' hB hb; have hx7 := HX6.out.below hB hlt7; have q0 := hx7.cell 0; have q1 := hx7.cell 1; have z0 := hx7.fz 0; have z1 := hx7.fz 1; have HX7 := Lib.hid hx7; clear hx7)
          | (go_at_call 66; refine (small_any _ wn.1 LS (2 * n + 3) w6.drew (N1.out.below (Below.refl _ w6).drew) (by omega) (by omega)).mono ?_; rintro e w' ⟨x1, y1, z1, rfl, hn1, hb⟩; have hB := below_up' (Below.refl _ w6).drew hb))
      have hf := ratFin (w := w) HX7.out hn1 hn2 (below_up HB6.out hB HB6.out.size) (by omega)
      have HF := Lib.hid hf
      clear hf hn1 hn2 hB q0 q1 z0 z1
      go_wp2_with fail
      refine bodyPost_ret (results_cell_tmp_row rfl _ _ (w.heap.size + 1) _ _ (0, 0) _ rfl HF.out.2 Tryd.underlying82 rfl infoRatio) rfl ?_
      exact ⟨_, _, _, _, _, _, rfl, (fun m hm => by cases hm; exact HF.out.1.1), HF.out.1.2⟩
    · have hd : decide (P < N) = false := by simpa using hPN
      have hw := hw1 hC hPN
      clear hw0 hw1 hw2
      subst hw
      obtain ⟨r1, r2, r3⟩ := resSet (.slice none 0 0) (.slice none 0 0) hx3 hb3 (by omega)
      have HF := Lib.hid (And.intro r1 r2)
      clear hx3 hb3 r1 r2 r3
      go_wp2_with fail
      (try simp only [Exit.inBlock, Exit.then])
      refine bodyPost_ret (results_cell_tmp_row rfl _ _ (w.heap.size + 1) _ _ (0, 0) _ rfl HF.out.1 Tryd.underlying82 rfl infoRatio) rfl ?_
      exact ⟨_, _, _, _, _, _, rfl, (fun m hm => by cases hm), HF.out.2⟩

end Go.Proofs.YtfoehmieklldkaaDoor
