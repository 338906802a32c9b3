/- The walks of staff's loads: ratios, blocked, waits, meanWait, keeps. -/
import Derived.Test.YtfoehmieklldkaaDoorNat4
import Derived.Test.YtfoehmieklldkaaDoorStaffLaw
import Derived.Deep.RegionHeld3
namespace Go.Proofs.YtfoehmieklldkaaDoor
open Go.RowKit

/-- a ratio of two whole numbers -/
structure RatAt (w : World) (u v : Value) (n d K : Nat) : Prop where
  num : NatAt w u n K
  den : NatAt w v d K
theorem NatAt.one {w : World} {v : Value} {n K : Nat} (h : NatAt w v n K) : v.oneCell' = true := by
  obtain ⟨ds, hs, _⟩ := h
  obtain ⟨a, cap, rfl, _⟩ := ints_at hs
  rfl
theorem NatAt.slice {w : World} {v : Value} {n K : Nat} (h : NatAt w v n K) : ∃ a l c, v = .slice a l c := by
  obtain ⟨ds, hs, _⟩ := h
  obtain ⟨a, cap, rfl, _⟩ := ints_at hs
  exact ⟨_, _, _, rfl⟩
theorem NatAt.drewN {w : World} {v : Value} {n K : Nat} (h : NatAt w v n K) (q : Nat) : NatAt (w.drewN q) v n K := h.below (drewN_below (Below.refl _ _) q)

theorem below_up {B : Nat} {a w w' : World} (h : Below B a w) (k : Below w.heap.size w w') (hB : B ≤ w.heap.size) : Below B a w' := h.trans (k.mono hB)
theorem below_up' {a w w' : World} (h : Below a.heap.size a w) (k : Below w.heap.size w w') : Below a.heap.size a w' := below_up h k h.size
/-- two boxes laid one behind the other -/
theorem box2 (w : World) (cs ds : Array Value) (t t' : TypeId) : Has ((w.alloc (.cells cs t)).alloc (.cells ds t')) w.heap.size cs t ∧ Has ((w.alloc (.cells cs t)).alloc (.cells ds t')) (w.heap.size + 1) ds t' ∧ Below w.heap.size w ((w.alloc (.cells cs t)).alloc (.cells ds t')) := by
  refine ⟨(Has.new _ _ _).alloc _, ?_, ((Below.refl _ _).alloc (Nat.le_refl _) _).alloc (by simp) _⟩
  have := Has.new (w.alloc (.cells cs t)) ds t'
  simpa using this

set_option maxRecDepth 100000 in
set_option maxHeartbeats 4000000 in
theorem rcompare_any (a1 a2 b1 b2 : Option Addr) (l1 l2 m1 m2 c1 c2 d1 d2 : Nat) (n d n' d' K : Nat) (w : World) (hK : K ≤ 50000)
    (h1 : NatAt w (.slice a1 l1 c1) n K) (h2 : NatAt w (.slice a2 l2 c2) d K) (h3 : NatAt w (.slice b1 m1 d1) n' K) (h4 : NatAt w (.slice b2 m2 d2) d' K) :
    Calls Tryd.prog 62 #[.agg #[.slice a1 l1 c1, .slice a2 l2 c2], .agg #[.slice b1 m1 d1, .slice b2 m2 d2]] w (fun e w' => e = .returned (.int .i64 (cmpN (n * d') (n' * d))) ∧ Below w.heap.size w w') := by
  have H1 := Lib.hid h1
  have H2 := Lib.hid h2
  have H3 := Lib.hid h3
  have H4 := Lib.hid h4
  clear h1 h2 h3 h4
  go_enter Tryd.func62, Tryd.ntmps62
  go_upto_region 1 with fail
  have hbx := box2 w #[.slice a1 l1 c1, .slice a2 l2 c2] #[.slice b1 m1 d1, .slice b2 m2 d2] 82 82
  generalize (w.alloc (.cells #[.slice a1 l1 c1, .slice a2 l2 c2] 82)).alloc (.cells #[.slice b1 m1 d1, .slice b2 m2 d2] 82) = w2 at *
  obtain ⟨hx1, hx2, hbl⟩ := hbx
  have N1 := Lib.hid (H1.out.below hbl)
  have N2 := Lib.hid (H2.out.below hbl)
  have N3 := Lib.hid (H3.out.below hbl)
  have N4 := Lib.hid (H4.out.below hbl)
  have k0 : w2.cell? ⟨w.heap.size, 0, none⟩ = some (.slice a1 l1 c1) := hx1.cell 0
  have k1 : w2.cell? ⟨w.heap.size, 1, none⟩ = some (.slice a2 l2 c2) := hx1.cell 1
  have k2 : w2.cell? ⟨w.heap.size + 1, 0, none⟩ = some (.slice b1 m1 d1) := hx2.cell 0
  have k3 : w2.cell? ⟨w.heap.size + 1, 1, none⟩ = some (.slice b2 m2 d2) := hx2.cell 1
  have lt1 := hx1.lt
  have lt2 := hx2.lt
  have hks : ∀ W, Below w2.heap.size w2 W → Below w2.heap.size w2 W ∧ W.cell? ⟨w.heap.size, 0, none⟩ = some (.slice a1 l1 c1) ∧ W.cell? ⟨w.heap.size, 1, none⟩ = some (.slice a2 l2 c2) ∧ W.cell? ⟨w.heap.size + 1, 0, none⟩ = some (.slice b1 m1 d1) ∧ W.cell? ⟨w.heap.size + 1, 1, none⟩ = some (.slice b2 m2 d2) :=
    fun W h => ⟨h, (below_cell h lt1).trans k0, (below_cell h lt1).trans k1, (below_cell h lt2).trans k2, (below_cell h lt2).trans k3⟩
  have HKS := Lib.hid hks
  have HBL := Lib.hid hbl
  clear hks hbl hx1 hx2 H1 H2 H3 H4 lt1 lt2
  go_region_held3 (fun W => Below w2.heap.size w2 W ∧ W.cell? ⟨w.heap.size, 0, none⟩ = some (.slice a1 l1 c1) ∧ W.cell? ⟨w.heap.size, 1, none⟩ = some (.slice a2 l2 c2) ∧ W.cell? ⟨w.heap.size + 1, 0, none⟩ = some (.slice b1 m1 d1) ∧ W.cell? ⟨w.heap.size + 1, 1, none⟩ = some (.slice b2 m2 d2))
    (first | exact HKS.out _ hB | exact HKS.out _ (Below.refl _ _).drew)
    (first
      | (go_at_call 44; refine (times_any _ _ n' d K _ (NatAt.below N3.out hB) (NatAt.below N2.out hB) (by omega)).mono ?_; rintro e w' ⟨x2, y2, z2, rfl, hn2, hb⟩; have hn3 := hn1.below hb; have hB := below_up' hB hb)
      | (go_at_call 44; refine (times_any _ _ n d' K w2.drew (NatAt.below N1.out (Below.refl _ w2).drew) (NatAt.below N4.out (Below.refl _ w2).drew) (by omega)).mono ?_; rintro e w' ⟨x1, y1, z1, rfl, hn1, hb⟩; have hB := below_up' (Below.refl _ w2).drew hb)
      | (go_at_call 64; refine (compare_any _ _ (n * d') (n' * d) (K + K) _ hn3 hn2 (by omega)).mono ?_; rintro e w' ⟨rfl, q, rfl⟩; have hB := drewN_below hB q))
  go_wp2
  go_ret
  exact ⟨rfl, HBL.out.trans (hB.mono HBL.out.size)⟩

/-! ### the load's numbers -/
/-- a load as a value -/
def ldV (C L S : Nat) : Value := .agg #[.int .i64 (C : Nat), .int .i64 (L : Nat), .int .i64 (S : Nat)]
structure LdOk (C L S : Nat) : Prop where
  c : C ≤ 100000
  l0 : 0 < L
  l : L ≤ 1440
  s0 : 0 < S
  s : S ≤ 10080
theorem LdOk.p {C L S : Nat} (h : LdOk C L S) : C * L ≤ 144000000 := Nat.mul_le_mul h.c h.l

theorem box1 (w : World) (cs : Array Value) (t : TypeId) : Has (w.alloc (.cells cs t)) w.heap.size cs t ∧ Below w.heap.size w (w.alloc (.cells cs t)) :=
  ⟨Has.new _ _ _, (Below.refl _ _).alloc (Nat.le_refl _) _⟩

set_option maxRecDepth 100000 in
set_option maxHeartbeats 400000 in
theorem offered_any (C L S : Nat) (hl : LdOk C L S) (w : World) :
    Calls Tryd.prog 78 #[.agg #[.int .i64 (C : Nat), .int .i64 (L : Nat), .int .i64 (S : Nat)]] w (fun e w' => e = .returned (.tuple #[.int .i64 ((C * L : Nat) : Int), .int .i64 (S : Nat)]) ∧ Below w.heap.size w w') := by
  have hp := hl.p
  have p1 : IntKind.i64.wrap ((C : Int) * (L : Int)) = ((C * L : Nat) : Int) := by
    rw [show (C : Int) * (L : Int) = ((C * L : Nat) : Int) from (Int.natCast_mul C L).symm, IntWalk.i64_in _ (by omega)]
  generalize C * L = P at *
  go_enter Tryd.func78, Tryd.ntmps78
  go_upto_region 1 with fail
  have hbx := box1 w #[.int .i64 (C : Nat), .int .i64 (L : Nat), .int .i64 (S : Nat)] 23
  generalize w.alloc (.cells #[.int .i64 (C : Nat), .int .i64 (L : Nat), .int .i64 (S : Nat)] 23) = w2 at *
  obtain ⟨hx, hbl⟩ := hbx
  have k0 : w2.cell? ⟨w.heap.size, 0, none⟩ = some (.int .i64 (C : Nat)) := hx.cell 0
  have k1 : w2.cell? ⟨w.heap.size, 1, none⟩ = some (.int .i64 (L : Nat)) := hx.cell 1
  have k2 : w2.cell? ⟨w.heap.size, 2, none⟩ = some (.int .i64 (S : Nat)) := hx.cell 2
  go_quiet (fail)
  go_wp2
  go_ret2
  exact ⟨rfl, drewN_below hbl _⟩

set_option maxRecDepth 100000 in
set_option maxHeartbeats 400000 in
theorem enough_any (C L S n : Nat) (hl : LdOk C L S) (hn : n ≤ 60) (w : World) :
    Calls Tryd.prog 77 #[.agg #[.int .i64 (C : Nat), .int .i64 (L : Nat), .int .i64 (S : Nat)], .int .i64 (n : Nat)] w (fun e w' => e = .returned (.bool (decide (C * L < n * S))) ∧ Below w.heap.size w w') := by
  have hp := hl.p
  have hs := hl.s
  have p2 : n * S ≤ 60 * 10080 := Nat.mul_le_mul hn hs
  have p1 : IntKind.i64.wrap ((n : Int) * (S : Int)) = ((n * S : Nat) : Int) := by
    rw [show (n : Int) * (S : Int) = ((n * S : Nat) : Int) from (Int.natCast_mul n S).symm, IntWalk.i64_in _ (by omega)]
  go_enter Tryd.func77, Tryd.ntmps77
  have hbx := box1 w #[.int .i64 (C : Nat), .int .i64 (L : Nat), .int .i64 (S : Nat)] 23
  have hof := offered_any C L S hl
  generalize C * L = P at *
  generalize n * S = N at *
  go_upto_region 1 with fail
  generalize w.alloc (.cells #[.int .i64 (C : Nat), .int .i64 (L : Nat), .int .i64 (S : Nat)] 23) = w2 at *
  obtain ⟨hx, hbl⟩ := hbx
  have k0 : w2.cell? ⟨w.heap.size, 0, none⟩ = some (.int .i64 (C : Nat)) := hx.cell 0
  have k1 : w2.cell? ⟨w.heap.size, 1, none⟩ = some (.int .i64 (L : Nat)) := hx.cell 1
  have k2 : w2.cell? ⟨w.heap.size, 2, none⟩ = some (.int .i64 (S : Nat)) := hx.cell 2
  go_wp2_with fail
  refine (hof w2).mono ?_
  rintro e w' ⟨rfl, hb⟩
  go_wp2
  go_ret
  refine ⟨congrArg (fun b => Ending.returned (Value.bool b)) ?_, below_up hbl hb hbl.size⟩
  rw [Bool.eq_iff_iff]

end Go.Proofs.YtfoehmieklldkaaDoor
