/- The walk of staff's blocked. -/
import Derived.Test.YtfoehmieklldkaaDoorStaff
import Derived.Handy
namespace Go.Proofs.YtfoehmieklldkaaDoor
open Go.RowKit

/-- a store into a block without ints turns no whole number -/
theorem NatAt.set {w : World} {v : Value} {n K Bb i : Nat} {cs : Array Value} {t : TypeId} (h : NatAt w v n K) (hB : Has w Bb cs t) (hc : ∀ (j : Nat) (k : IntKind) (x : Int), cs[j]? ≠ some (Value.int k x)) (u : Value) : NatAt (w.setCell ⟨Bb, i, none⟩ u) v n K := by
  obtain ⟨ds, hs, h2⟩ := h
  refine ⟨ds, ?_, h2⟩
  rcases hs with ⟨a, cap, rfl, rfl⟩ | ⟨b, off, cap, rfl, hcp, hb, h⟩
  · exact .inl ⟨a, cap, rfl, rfl⟩
  · refine .inr ⟨b, off, cap, rfl, hcp, by simpa using hb, fun i hi => ?_⟩
    obtain ⟨es, ⟨h3, h4⟩, h5⟩ := h i hi
    refine ⟨es, ⟨h3, fun j hj => ?_⟩, h5⟩
    have hj4 := h4 j hj
    have hne : Bb ≠ b := by
      rintro rfl
      rw [hB.cell] at hj4
      cases h5
      have hj0 : j = 0 := by simpa using hj
      subst hj0
      exact hc _ _ _ hj4
    rw [set_block hne]
    exact hj4

theorem natOne {w : World} {b : Nat} (h : Has w b #[.int .i64 1] 3) : NatAt w (.slice (some ⟨b, 0, none⟩) 1 1) 1 1 := by
  have h' : IntsB w b [1] := h
  refine ⟨[1], h'.slice (cap := 1) (by simp), ?_, ?_, by simp [val], by simp⟩
  · intro d hd
    rw [List.mem_singleton] at hd
    subst hd
    exact ⟨by omega, by omega⟩
  · intro _; simp

theorem no_ints2 (a1 a2 : Option Addr) (l1 c1 l2 c2 : Nat) (j : Nat) (k : IntKind) (x : Int) : (#[Value.slice a1 l1 c1, Value.slice a2 l2 c2] : Array Value)[j]? ≠ some (Value.int k x) := by
  intro h
  match j with
  | 0 => simp at h
  | 1 => simp at h
  | j + 2 => simp at h

/-- what the loop of blocked keeps -/
structure BlkInv (w wr : World) (B Bb P S k : Nat) (a1 : Option Addr) (l1 c1 : Nat) (a2 : Option Addr) (l2 c2 : Nat) : Prop where
  cell : Has wr Bb #[.slice a1 l1 c1, .slice a2 l2 c2] 82
  num : NatAt wr (.slice a1 l1 c1) (blk P S k).1 (2 * k + 1)
  den : NatAt wr (.slice a2 l2 c2) (blk P S k).2 (2 * k + 1)
  res : Has wr B #[.slice none 0 0, .slice none 0 0] 82
  below : Below w.heap.size w wr
  lt : B < Bb
  lw : w.heap.size ≤ B

theorem BlkInv.step {w wr w4 w5 w6 : World} {B Bb P S k : Nat} {a1 a2 x1 x3 : Option Addr} {l1 c1 l2 c2 y1 z1 y3 z3 : Nat} (h : BlkInv w wr B Bb P S k a1 l1 c1 a2 l2 c2)
    (hb4 : Below wr.heap.size wr w4) (hb5 : Below w4.heap.size w4 w5) (hb6 : Below w5.heap.size w5 w6) (h1 : NatAt w4 (.slice x1 y1 z1) ((blk P S k).1 * P) (2 * k + 2))
    (h2 : NatAt w6 (.slice x3 y3 z3) ((blk P S k).2 * ((k + 1) * S) + (blk P S k).1 * P) (2 * k + 3)) :
    BlkInv w ((w6.setCell ⟨Bb, 0, none⟩ (.slice x1 y1 z1)).setCell ⟨Bb, 1, none⟩ (.slice x3 y3 z3)) B Bb P S (k + 1) x1 y1 z1 x3 y3 z3 := by
  have hc := h.cell
  have b5 := below_up' hb4 hb5
  have b6 := below_up' b5 hb6
  have hc6 := hc.below b6 hc.lt
  have hc7 := hc6.set 0 (.slice x1 y1 z1)
  have hc8 := hc7.set 1 (.slice x3 y3 z3)
  have hr6 := h.res.below b6 h.res.lt
  have hne : B ≠ Bb := by have := h.lt; omega
  have n1 : NatAt w6 (.slice x1 y1 z1) ((blk P S k).1 * P) (2 * k + 2) := h1.below (below_up' hb5 hb6)
  have hlw := h.lw
  have hlt := h.lt
  have hsz : wr.heap.size ≤ w6.heap.size := b6.size
  have hw := h.below.size
  refine ⟨hc8, ?_, ?_, (hr6.set_other 0 _ hne).set_other 1 _ hne, ?_, h.lt, h.lw⟩
  · exact ((NatAt.set (NatAt.set n1 hc6 (no_ints2 _ _ _ _ _ _) _) hc7 (no_ints2 x1 a2 y1 z1 l2 c2) _).le (by omega))
  · exact ((NatAt.set (NatAt.set h2 hc6 (no_ints2 _ _ _ _ _ _) _) hc7 (no_ints2 x1 a2 y1 z1 l2 c2) _).le (by omega))
  · have e := below_up h.below b6 hw
    have e1 : Below w.heap.size w (w6.setCell ⟨Bb, 0, none⟩ (.slice x1 y1 z1)) := e.setCell (by show w.heap.size ≤ Bb; omega) _
    exact e1.setCell (by show w.heap.size ≤ Bb; omega) _

theorem BlkInv.fin {w wr : World} {B Bb P S k : Nat} {a1 a2 : Option Addr} {l1 c1 l2 c2 : Nat} (h : BlkInv w wr B Bb P S k a1 l1 c1 a2 l2 c2) :
    RatAt ((wr.setCell ⟨B, 0, none⟩ (.slice a1 l1 c1)).setCell ⟨B, 1, none⟩ (.slice a2 l2 c2)) (.slice a1 l1 c1) (.slice a2 l2 c2) (blk P S k).1 (blk P S k).2 (2 * k + 1) ∧ Below w.heap.size w ((wr.setCell ⟨B, 0, none⟩ (.slice a1 l1 c1)).setCell ⟨B, 1, none⟩ (.slice a2 l2 c2)) := by
  have h1 := h.res
  have h2 : Has (wr.setCell ⟨B, 0, none⟩ (.slice a1 l1 c1)) B #[.slice a1 l1 c1, .slice none 0 0] 82 := h1.set 0 _
  have e1 : Below w.heap.size w (wr.setCell ⟨B, 0, none⟩ (.slice a1 l1 c1)) := h.below.setCell h.lw _
  exact ⟨⟨NatAt.set (NatAt.set h.num h1 (no_ints2 _ _ _ _ _ _) _) h2 (no_ints2 _ _ _ _ _ _) _, NatAt.set (NatAt.set h.den h1 (no_ints2 _ _ _ _ _ _) _) h2 (no_ints2 _ _ _ _ _ _) _⟩, e1.setCell h.lw _⟩

theorem infoRatio : (Tryd.prog.info? 82).map (·.size) = some 2 := by kernel_rfl
theorem BlkInv.fin2 {w wr : World} {B Bb P S k : Nat} {a1 a2 : Option Addr} {l1 c1 l2 c2 : Nat} (h : BlkInv w wr B Bb P S k a1 l1 c1 a2 l2 c2) :
    Has ((wr.setCell ⟨B, 0, none⟩ (.slice a1 l1 c1)).setCell ⟨B, 1, none⟩ (.slice a2 l2 c2)) B #[.slice a1 l1 c1, .slice a2 l2 c2] 82 := by
  have h2 : Has (wr.setCell ⟨B, 0, none⟩ (.slice a1 l1 c1)) B #[.slice a1 l1 c1, .slice none 0 0] 82 := h.res.set 0 _
  exact h2.set 1 _

set_option maxRecDepth 100000 in
set_option maxHeartbeats 2000000 in
theorem blocked_any (C L S n : Nat) (hl : LdOk C L S) (hn : n ≤ 60) (w : World) :
    Calls Tryd.prog 79 #[.agg #[.int .i64 (C : Nat), .int .i64 (L : Nat), .int .i64 (S : Nat)], .int .i64 (n : Nat)] w
      (fun e w' => ∃ a1 l1 c1 a2 l2 c2, e = .returned (.agg #[.slice a1 l1 c1, .slice a2 l2 c2]) ∧ RatAt w' (.slice a1 l1 c1) (.slice a2 l2 c2) (blk (C * L) S n).1 (blk (C * L) S n).2 (2 * n + 1) ∧ Below w.heap.size w w') := by
  have hp := hl.p
  have hs := hl.s
  have hof := offered_any C L S hl
  generalize C * L = P at *
  have hbx := box2 w #[.int .i64 (C : Nat), .int .i64 (L : Nat), .int .i64 (S : Nat)] #[.slice none 0 0, .slice none 0 0] 23 82
  go_enter Tryd.func79, Tryd.ntmps79
  go_upto_region 1 with fail
  generalize (w.alloc (.cells #[.int .i64 (C : Nat), .int .i64 (L : Nat), .int .i64 (S : Nat)] 23)).alloc (.cells #[.slice none 0 0, .slice none 0 0] 82) = w2 at *
  obtain ⟨hx, hx2, hbl⟩ := hbx
  have k0 : w2.cell? ⟨w.heap.size, 0, none⟩ = some (.int .i64 (C : Nat)) := hx.cell 0
  have k1 : w2.cell? ⟨w.heap.size, 1, none⟩ = some (.int .i64 (L : Nat)) := hx.cell 1
  have k2 : w2.cell? ⟨w.heap.size, 2, none⟩ = some (.int .i64 (S : Nat)) := hx.cell 2
  go_wp2_with fail
  refine (hof w2).mono ?_
  rintro e w3 ⟨rfl, hb⟩
  clear hof k0 k1 k2
  go_wp2_with fail
  have hinv : BlkInv w (((w3.alloc (.cells #[.int .i64 1] 3)).alloc (.cells #[.int .i64 1] 3)).alloc (.cells #[.slice (some ⟨w3.heap.size, 0, none⟩) 1 1, .slice (some ⟨w3.heap.size + 1, 0, none⟩) 1 1] 82)) (w.heap.size + 1) (w3.heap.size + 1 + 1) P S 0 (some ⟨w3.heap.size, 0, none⟩) 1 1 (some ⟨w3.heap.size + 1, 0, none⟩) 1 1 := by
    obtain ⟨b1, b2, b3⟩ := box2 w3 #[.int .i64 1] #[.int .i64 1] 3 3
    have hsz : ((w3.alloc (.cells #[.int .i64 1] 3)).alloc (.cells #[.int .i64 1] 3)).heap.size = w3.heap.size + 1 + 1 := by simp
    generalize (w3.alloc (.cells #[.int .i64 1] 3)).alloc (.cells #[.int .i64 1] 3) = w4 at *
    have hlt2 := hx2.lt
    have hs2 := hbl.size
    have hs3 := hb.size
    refine ⟨?_, (natOne b1).below ((Below.refl _ _).alloc (Nat.le_refl _) _), (natOne b2).below ((Below.refl _ _).alloc (Nat.le_refl _) _), ?_, ?_, by omega, by omega⟩
    · have := Has.new w4 #[.slice (some ⟨w3.heap.size, 0, none⟩) 1 1, .slice (some ⟨w3.heap.size + 1, 0, none⟩) 1 1] 82
      rwa [hsz] at this
    · exact ((hx2.below hb hx2.lt).below b3 (by omega)).alloc _
    · exact ((hbl.trans (hb.mono hs2)).trans (b3.mono (by omega))).alloc (by omega) _
  have HI0 := Lib.hid hinv
  clear hinv hx hx2 hbl hb
  generalize (((w3.alloc (.cells #[.int .i64 1] 3)).alloc (.cells #[.int .i64 1] 3)).alloc (.cells #[.slice (some ⟨w3.heap.size, 0, none⟩) 1 1, .slice (some ⟨w3.heap.size + 1, 0, none⟩) 1 1] 82)) = w4 at *
  generalize w3.heap.size + 1 + 1 = Bb at *
  go_loopw [19] (fun kv wr => ∃ (k : Nat) (a1 : Option Addr) (l1 c1 : Nat) (a2 : Option Addr) (l2 c2 : Nat), kv = .int .i64 k ∧ k ≤ n ∧ BlkInv w wr (w.heap.size + 1) Bb P S k a1 l1 c1 a2 l2 c2) (fun kv _ => n - (intOf kv).toNat)
  case atStart => exact ⟨0, _, _, _, _, _, _, rfl, Nat.zero_le _, HI0.out⟩
  case round =>
    obtain ⟨k, a1, l1, c1, a2, l2, c2, rfl, hk, hI⟩ := hrel
    have HI := Lib.hid hI
    have p0 : wr.cell? ⟨Bb, 0, none⟩ = some (.slice a1 l1 c1) := hI.cell.cell 0
    have p1 : wr.cell? ⟨Bb, 1, none⟩ = some (.slice a2 l2 c2) := hI.cell.cell 1
    have hBl := hI.cell.lt
    have q0 : wr.cell? ⟨w.heap.size + 1, 0, none⟩ = some (.slice none 0 0) := hI.res.cell 0
    have q1 : wr.cell? ⟨w.heap.size + 1, 1, none⟩ = some (.slice none 0 0) := hI.res.cell 1
    have z0 := hI.res.fz 0
    have z1 := hI.res.fz 1
    have y0 := hI.cell.fz 0
    have y1 := hI.cell.fz 1
    clear hI
    by_cases hlt : k < n
    · go_wp2_with fail
      refine (small_any _ (blk P S k).1 P (2 * k + 1) wr HI.out.num (by omega) (by omega)).mono ?_
      rintro e w5 ⟨x1, l3, c3, rfl, hn1, hb5⟩
      have p1' := (below_cell hb5 hBl).trans p1
      have HN1 := Lib.hid hn1
      have HB5 := Lib.hid hb5
      have hBl5 : Bb < w5.heap.size := Nat.lt_of_lt_of_le hBl hb5.size
      have m1 : (k + 1) * S ≤ 61 * 10080 := Nat.mul_le_mul (by omega) hs
      have m2 : IntKind.i64.wrap (((k : Int) + 1) * (S : Int)) = (((k + 1) * S : Nat) : Int) := by
        rw [show ((k : Int) + 1) * (S : Int) = (((k + 1) * S : Nat) : Int) from by simp, IntWalk.i64_in _ (by omega)]
      clear hn1 hb5
      go_wp2_with fail
      refine (small_any _ (blk P S k).2 ((k + 1) * S) (2 * k + 1) w5 (HI.out.den.below HB5.out) (by omega) (by omega)).mono ?_
      rintro e w6 ⟨x2, l4, c4, rfl, hn2, hb6⟩
      have HN2 := Lib.hid hn2
      have HB6 := Lib.hid hb6
      clear hn2 hb6
      go_wp2_with fail
      refine (plus_any _ _ ((blk P S k).2 * ((k + 1) * S)) ((blk P S k).1 * P) (2 * k + 2) w6 HN2.out (HN1.out.below HB6.out) (by omega)).mono ?_
      rintro e w7 ⟨x3, l5, c5, rfl, hn3, hb7⟩
      have hstep := HI.out.step HB5.out HB6.out hb7 HN1.out hn3
      have b57 := below_up' (below_up' HB5.out HB6.out) hb7
      have s0 := (below_cell b57 hBl).trans p0
      have s1 := (below_cell b57 hBl).trans p1
      have t0 := (below_frozen b57 hBl).trans y0
      have t1 := (below_frozen b57 hBl).trans y1
      have HS := Lib.hid hstep
      clear hstep b57 hn3 hb7 p0 p1 p1' q0 q1 z0 z1 y0 y1
      go_wp2_with fail
      refine ⟨⟨k + 1, _, _, _, _, _, _, by simp, by omega, HS.out⟩, ?_⟩
      simp [intOf]; omega
    · have hke : k = n := by omega
      subst hke
      have hfin := HI.out.fin
      have HF := Lib.hid hfin
      have HG := Lib.hid (HI.out.fin2)
      clear hfin
      go_wp2_with fail
      refine bodyPost_ret (results_cell_row rfl _ _ (w.heap.size + 1) _ _ (0, 0) _ rfl HG.out Tryd.underlying82 rfl infoRatio) rfl ?_
      exact ⟨_, _, _, _, _, _, rfl, HF.out⟩

end Go.Proofs.YtfoehmieklldkaaDoor
