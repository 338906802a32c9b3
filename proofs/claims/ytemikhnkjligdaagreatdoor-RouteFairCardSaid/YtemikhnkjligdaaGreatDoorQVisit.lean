/- The walk of the closure visit of (Calendar).shifts. -/
import Derived.RangeFuncNested
import Derived.RangeFuncBound
import Derived.RangeFuncCalls
import Derived.RangeFuncLeaves
import Derived.Shelf.Abstract
import Derived.Shelf.RegionOpen
import Derived.WalkKit
import Derived.OwnWalkIn
import Derived.TacticsInMore
import Derived.LoopNIn
import Derived.LoopIn
import Derived.Test.YtemikhnkjligdaaGreatDoorQStretch
import Derived.Test.YtemikhnkjligdaaGreatDoorQVisLaw
import Derived.Test.YtemikhnkjligdaaGreatDoorQSeq
namespace Go.Proofs.YtemikhnkjligdaaGreatDoor
open Go Go.RowKit Go.Shelf

/-- a span as yield takes it -/
def encsS (s : Sp) : Array Value := #[.agg #[.int .i64 s.1, .int .i64 s.2]]
/-- what a round is owed -/
def Rounds (P : Program) (l : Nat) (R : Blocks) (xs : List Sp) (J Jx : List Sp → Blocks → World → Prop) : Prop :=
  ∀ (pre : List Sp) (x : Sp) (O : Blocks) (W1 : World), J pre O W1 → (∀ k, O k → k < W1.heap.size) → pre ++ [x] <+: xs → ∀ m, YieldAt Fence.wide m P l (encsS x) W1 fun e W' =>
    (e = .returned (.bool true) ∧ J (pre ++ [x]) O W' ∧ Held O R W1 W') ∨ (e = .returned (.bool false) ∧ Jx (pre ++ [x]) O W' ∧ Held O (fun _ => False) W1 W')
/-- the boxes that visit has captured -/
structure Caught (W : World) (c : CalD) (vcs vwk vsp : Value) (p : Pt) (a b : Int) (l Bc Bp Ba Bb By : Nat) : Prop where
  c : Has W Bc #[.int .i64 c.off, vcs, vwk, vsp] 77
  p : Has W Bp #[.int .i64 p.f, .int .i64 p.t, .int .i64 p.o] 192
  a : Has W Ba #[.int .i64 a] 3
  b : Has W Bb #[.int .i64 b] 3
  y : Has W By #[.func (.yield l) #[] #[]] 161
theorem Caught.turns {O : Blocks} {W W' : World} {c : CalD} {vcs vwk vsp : Value} {p : Pt} {a b : Int} {l Bc Bp Ba Bb By : Nat} (h : Caught W c vcs vwk vsp p a b l Bc Bp Ba Bb By)
    (ht : ∀ k, (k = Bc ∨ k = Bp ∨ k = Ba ∨ k = Bb ∨ k = By) → k < W.heap.size → W'.heap[k]? = W.heap[k]?) : Caught W' c vcs vwk vsp p a b l Bc Bp Ba Bb By :=
  ⟨(ht _ (.inl rfl) h.c.lt).trans h.c, (ht _ (.inr (.inl rfl)) h.p.lt).trans h.p, (ht _ (.inr (.inr (.inl rfl))) h.a.lt).trans h.a, (ht _ (.inr (.inr (.inr (.inl rfl)))) h.b.lt).trans h.b, (ht _ (.inr (.inr (.inr (.inr rfl)))) h.y.lt).trans h.y⟩
theorem cell_of_same {W W' : World} {b o : Nat} (h : W'.heap[b]? = W.heap[b]?) : W'.cell? ⟨b, o, none⟩ = W.cell? ⟨b, o, none⟩ := by
  unfold World.cell?
  rw [h]

structure VsInv (c : CalD) (vcs vwk vsp : Value) (p : Pt) (a b beg : Int) (l Bc Bp Ba Bb By : Nat) (pre : List Sp) (J : List Sp → Blocks → World → Prop) (O0 R O : Blocks) (W : World) (hs : List Sp) (w2 wr : World) (i : Nat) : Prop where
  le : i ≤ hs.length
  j : J (pre ++ clipL a b beg (hs.take i)) O wr
  hO : ∀ k, O k → k < wr.heap.size
  K : Caught wr c vcs vwk vsp p a b l Bc Bp Ba Bb By
  same : ∀ k, W.heap.size ≤ k → k < w2.heap.size → wr.heap[k]? = w2.heap[k]?
  held : ∀ k, k < W.heap.size → O0 k ∨ R k → wr.heap[k]? = W.heap[k]?
  size : w2.heap.size ≤ wr.heap.size
def VisPost (J Jx : List Sp → Blocks → World → Prop) (O : Blocks) (R : Blocks) (W : World) (out : List Sp) (xs : List Sp) (e : Ending) (W' : World) : Prop :=
  (e = .returned (.bool true) ∧ ∃ O', J out O' W' ∧ (∀ k, O' k → k < W'.heap.size) ∧ (∀ k, O k → O' k) ∧ (∀ k, k < W.heap.size → O k ∨ R k → W'.heap[k]? = W.heap[k]?) ∧ (∀ k, O' k → O k ∨ W.heap.size ≤ k) ∧ W.heap.size ≤ W'.heap.size) ∨ (e = .returned (.bool false) ∧ ∃ q O', q <+: xs ∧ Jx q O' W' ∧ ∀ k, O' k → k < W'.heap.size)

theorem owns_at_elem {w : World} {N : Nat} {v : Value} {l : List Shf} (h : w.ownsRow N 138 3 v l.length (l.flatMap encSh)) (hl : 0 < l.length) :
    ∃ g off cap, v = .slice (some ⟨g, off, none⟩) l.length cap ∧ N ≤ g ∧ g < w.heap.size ∧ ∀ i (hi : i < l.length), w.cell? ⟨g, off + i * 3, none⟩ = some (.int .i64 l[i].1) ∧ w.cell? ⟨g, off + i * 3 + 1, none⟩ = some (.int .i64 l[i].2.1) ∧ w.cell? ⟨g, off + i * 3 + 2, none⟩ = some (.int .i64 l[i].2.2) := by
  obtain ⟨b, off, cap, hv, hb, hel⟩ := Shifts.at (shifts_of_owns h) hl
  have hN : N ≤ b := by
    rcases h.2 with ⟨_, h0⟩ | ⟨g, cap', cur, hv', hg, _⟩
    · omega
    · rw [hv] at hv'; cases hv'; exact hg
  exact ⟨b, off, cap, hv, hN, hb, hel⟩

set_option maxRecDepth 100000 in
set_option maxHeartbeats 4000000 in
theorem visit_any (c : CalD) (vcs vwk vsp : Value) (p : Pt) (a b : Int) (l Bc Bp Ba Bb By : Nat) (day : Int) (R : Blocks) (xs pre : List Sp) (J Jx : List Sp → Blocks → World → Prop) (hJ : ∀ s, Abides (J s)) (hR : Rounds Tryz.prog l R xs J Jx)
    (W : World) (O : Blocks) (hK : Caught W c vcs vwk vsp p a b l Bc Bp Ba Bb By) (hin : ∀ k, (k = Bc ∨ k = Bp ∨ k = Ba ∨ k = Bb ∨ k = By) → O k ∨ R k) (hRl : ∀ k, R k → k < W.heap.size) (hc : CalFine c) (h : CalAt W vcs vwk vsp c)
    (d1 : -10 ≤ day) (d2 : day ≤ 3000) (o1 : -1440 ≤ p.o) (o2 : p.o ≤ 1440) (a1 : 0 ≤ a) (a2 : a ≤ 3000001) (b1 : 0 ≤ b) (b2 : b ≤ 3000001)
    (h0 : J pre O W) (hO : ∀ k, O k → k < W.heap.size) (hx : pre ++ clipL a b (day * 1440 - p.o) (shD c day) <+: xs) :
    Calls Tryz.prog 125 #[.int .i64 day, .pointer (some ⟨Bc, 0, none⟩), .pointer (some ⟨Bp, 0, none⟩), .pointer (some ⟨Ba, 0, none⟩), .pointer (some ⟨Bb, 0, none⟩), .pointer (some ⟨By, 0, none⟩)] W
      (VisPost J Jx O R W (pre ++ clipL a b (day * 1440 - p.o) (shD c day)) xs) := by
  have k0 := hK.c.cell 0
  have k1 := hK.c.cell 1
  have k2 := hK.c.cell 2
  have k3 := hK.c.cell 3
  have hso := shiftsOf_any c vcs vwk vsp day W h hc (by omega) (by omega)
  have HEA := Lib.hid (hc.ok.each day)
  have HLN := Lib.hid (shD_length hc day)
  have HK := Lib.hid hK
  have HI := Lib.hid hin
  have HRL := Lib.hid hRl
  have HR := Lib.hid hR
  have HJ := Lib.hid hJ
  have HO := Lib.hid hO
  have H0 := Lib.hid h0
  have HX := Lib.hid hx
  clear h hc hK hin hRl hR hJ hO h0 hx
  generalize hsd : shD c day = sd at *
  generalize hbeg : day * 1440 - p.o = beg at *
  have HB := Lib.hid hbeg
  clear hsd hbeg
  go_enter Tryz.func125, Tryz.ntmps125
  go_wp2_with fail
  refine hso.mono ?_
  clear hso
  rintro e w2 ⟨⟨v, sl, rfl, hsl, hh⟩, hb2⟩
  subst hh
  obtain ⟨av, cv, rfl⟩ := (shifts_of_owns hsl).len
  have hsz := hb2.size
  have hlen : sl.length ≤ 60 := by have := HLN.out; rwa [hours_length] at this
  have HS := Lib.hid hsl
  have HB2 := Lib.hid hb2
  clear hsl hb2 k0 k1 k2 k3
  have hst : VsInv c vcs vwk vsp p a b beg l Bc Bp Ba Bb By pre J O R (fun k => O k ∨ (W.heap.size ≤ k ∧ k < w2.heap.size)) W (hours sl) w2 w2 0 := by
    refine ⟨Nat.zero_le _, ?_, ?_, HK.out.turns (O := O) (fun k _ hlt => HB2.out.block k hlt), fun _ _ _ => rfl, fun k hlt _ => HB2.out.block k hlt, Nat.le_refl _⟩
    · rw [List.take_zero]
      have : clipL a b beg [] = [] := rfl
      rw [this, List.append_nil]
      exact HJ.out pre _ _ _ _ H0.out (Turns.of_below HB2.out O) (fun k hk => hk.imp id (fun g => g.1)) (fun k hk => by
        rcases hk with g | g
        · have := HO.out k g; omega
        · exact g.2)
    · intro k hk
      rcases hk with g | g
      · have := HO.out k g; omega
      · exact g.2
  have HST := Lib.hid hst
  clear hst
  have hzW : W.heap.size ≤ w2.heap.size := hsz
  go_wp2_with fail
  go_loopw [16] (fun iv wr => ∃ i : Nat, iv = .int .i64 i ∧ VsInv c vcs vwk vsp p a b beg l Bc Bp Ba Bb By pre J O R (fun k => O k ∨ (W.heap.size ≤ k ∧ k < w2.heap.size)) W (hours sl) w2 wr i) (fun iv _ => sl.length - (intOf iv).toNat)
  case atStart => exact ⟨0, rfl, HST.out⟩
  case round =>
    obtain ⟨i, rfl, hI⟩ := hrel
    clear HST
    have HV := Lib.hid hI
    have hle := hI.le
    rw [hours_length] at hle
    clear hI
    by_cases hlt : i < sl.length
    · have hiw := HV.out.size
      obtain ⟨g, of', cap', hv, hgn, hgb, hel⟩ := owns_at_elem HS.out (by omega)
      cases hv
      obtain ⟨e0, e1, e2⟩ := hel i hlt
      have hsm := HV.out.same g hgn hgb
      have c0 := (cell_of_same hsm).trans e0
      have c1 := (cell_of_same hsm).trans e1
      have c2 := (cell_of_same hsm).trans e2
      have hsh := HEA.out _ (List.getElem_mem (by rw [hours_length]; exact hlt : i < (hours sl).length))
      have HCN := Lib.hid (clip_next a b beg (l := hours sl) (i := i) (by rw [hours_length]; exact hlt))
      rw [hours_at sl i hlt] at hsh HCN
      generalize sl[i] = x at *
      obtain ⟨x1, x2, x3⟩ := x
      obtain ⟨s1, s2, s3, s4⟩ := hsh
      simp only at c0 c1 c2 HCN s1 s2 s3 s4
      clear e0 e1 e2 hel hsm
      go_upto_region 4 with fail
      obtain ⟨bx, bbl⟩ := box1 wr #[.int .i64 x1, .int .i64 x2, .int .i64 x3] 138
      have HVJ := Lib.hid (HJ.out _ _ _ _ _ HV.out.j (Turns.of_below bbl (fun k => O k ∨ (W.heap.size ≤ k ∧ k < w2.heap.size))) (fun k hk => .inl hk) (fun k hk => by have := HV.out.hO k hk; have := bbl.size; omega))
      have HVK := Lib.hid (HV.out.K.turns (O := O) (fun k _ hlt => bbl.block k hlt))
      have HVO := Lib.hid (fun k hk => Nat.lt_of_lt_of_le (HV.out.hO k hk) bbl.size)
      have HVS := Lib.hid (fun k (h1 : W.heap.size ≤ k) (h2 : k < w2.heap.size) => (bbl.block k (by omega)).trans (HV.out.same k h1 h2))
      have HVH := Lib.hid (fun k (h1 : k < W.heap.size) (h2 : O k ∨ R k) => (bbl.block k (by omega)).trans (HV.out.held k h1 h2))
      have hiw2 : w2.heap.size ≤ (wr.alloc (.cells #[.int .i64 x1, .int .i64 x2, .int .i64 x3] 138)).heap.size := by have := bbl.size; omega
      have m1 := bx.cell 1
      have m2 := bx.cell 2
      have hBl := bx.lt
      generalize wr.alloc (.cells #[.int .i64 x1, .int .i64 x2, .int .i64 x3] 138) = wb at *
      generalize wr.heap.size = B at *
      clear HV c0 c1 c2 bbl bx
      have p2 := HVK.out.p.cell 2
      have pa := HVK.out.a.cell 0
      have pb := HVK.out.b.cell 0
      go_upto_region 6 with fail
      generalize hX : (if a < day * 1440 - p.o + x2 then day * 1440 - p.o + x2 else a) = X
      generalize hY : (if day * 1440 - p.o + x3 < b then day * 1440 - p.o + x3 else b) = Y
      have hXm : max a (beg + x2) = X := by rw [← HB.out, ← hX]; split <;> omega
      have hYm : min b (beg + x3) = Y := by rw [← HB.out, ← hY]; split <;> omega
      rw [hXm, hYm] at HCN
      have hX1 : 0 ≤ X := by omega
      clear hX hY hXm hYm p2 pa pb m1 m2
      obtain ⟨bx, bbl⟩ := box1 wb #[.int .i64 X, .int .i64 Y] 163
      have HWJ := Lib.hid (HJ.out _ _ _ _ _ HVJ.out (Turns.of_below bbl (fun k => O k ∨ (W.heap.size ≤ k ∧ k < w2.heap.size))) (fun k hk => .inl hk) (fun k hk => by have := HVO.out k hk; have := bbl.size; omega))
      have HWK := Lib.hid (HVK.out.turns (O := O) (fun k _ hlt => bbl.block k hlt))
      have HWO := Lib.hid (fun k hk => Nat.lt_of_lt_of_le (HVO.out k hk) bbl.size)
      have HWS := Lib.hid (fun k (h1 : W.heap.size ≤ k) (h2 : k < w2.heap.size) => (bbl.block k (by omega)).trans (HVS.out k h1 h2))
      have HWH := Lib.hid (fun k (h1 : k < W.heap.size) (h2 : O k ∨ R k) => (bbl.block k (by omega)).trans (HVH.out k h1 h2))
      have hiw3 : w2.heap.size ≤ (wb.alloc (.cells #[.int .i64 X, .int .i64 Y] 163)).heap.size := by have := bbl.size; omega
      have m0 := bx.cell 0
      have m1 := bx.cell 1
      have hXl := bx.lt
      generalize wb.alloc (.cells #[.int .i64 X, .int .i64 Y] 163) = wx at *
      generalize wb.heap.size = XB at *
      clear HVJ HVK HVO HVS HVH bbl bx
      by_cases g : X < Y
      · have q : decide (X < Y) = true := by simpa using g
        have HE := Lib.hid (show clipL a b beg ((hours sl).take (i + 1)) = clipL a b beg ((hours sl).take i) ++ [(X, Y)] by rw [HCN.out, if_pos g])
        have hpf : pre ++ clipL a b beg ((hours sl).take i) ++ [(X, Y)] <+: xs := by
          rw [List.append_assoc, ← HE.out]
          refine List.IsPrefix.trans ?_ HX.out
          rw [List.prefix_append_right_inj]
          exact clip_prefix a b beg _ _
        obtain ⟨fn, tm, asg, bdy, hy, hRd⟩ := HR.out _ (X, Y) _ wx HWJ.out HWO.out hpf 0
        dsimp only [encsS] at hy
        have HRd := Lib.hid hRd
        have py := HWK.out.y.cell 0
        clear g hRd
        refine (wpIn_wide (n := 3)).1 ?_
        gi_wp2
        refine (roundIn_wide HRd.out).mono ?_
        clear hy HRd
        rintro e W3 (⟨rfl, hJ3, hk3⟩ | ⟨rfl, hx3, hz3⟩)
        · have HRL3 := HRL.out
          have hle3 := hk3.size
          have hst : VsInv c vcs vwk vsp p a b beg l Bc Bp Ba Bb By pre J O R (fun k => O k ∨ (W.heap.size ≤ k ∧ k < w2.heap.size)) W (hours sl) w2 W3 (i + 1) := by
            refine ⟨by rw [hours_length]; exact hlt, ?_, fun k hk => Nat.lt_of_lt_of_le (HWO.out k hk) hle3, ?_, ?_, ?_, by omega⟩
            · rw [HE.out, ← List.append_assoc]
              exact hJ3
            · exact HWK.out.turns (O := O) (fun k hk hl => hk3.block k hl ((HI.out k hk).imp .inl id))
            · intro k h1 h2
              rw [← HWS.out k h1 h2]
              exact hk3.block k (by omega) (.inl (.inr ⟨h1, h2⟩))
            · intro k h1 h2
              rw [← HWH.out k h1 h2]
              exact hk3.block k (by omega) (h2.imp .inl id)
          have HST := Lib.hid hst
          clear hst hJ3 hk3 hle3 HRL3 m0 m1 py
          gi_wp2
          go_wp2_with fail
          go_roundw
          case rel => exact ⟨i + 1, by go_num, HST.out⟩
          case measure => simp [intOf]; omega
        · have HX3 := Lib.hid hx3
          have HZ3 := Lib.hid hpf
          clear hx3 m0 m1 py
          gi_wp2
          go_wp2_with fail
          go_ret
          exact .inr ⟨rfl, _, _, HZ3.out, HX3.out, fun k hk => Nat.lt_of_lt_of_le (HWO.out k hk) hz3.size⟩
      · have q : decide (X < Y) = false := by simpa using g
        have HE := Lib.hid (show clipL a b beg ((hours sl).take (i + 1)) = clipL a b beg ((hours sl).take i) by rw [HCN.out, if_neg g, List.append_nil])
        clear g
        go_wp2_with fail
        go_roundw
        case rel => exact ⟨i + 1, by go_num, by rw [hours_length]; exact hlt, by rw [HE.out]; exact HWJ.out, HWO.out, HWK.out, HWS.out, HWH.out, hiw3⟩
        case measure => simp [intOf]; omega
    · obtain rfl : i = sl.length := by omega
      go_wp2_with fail
      go_ret
      refine .inl ⟨rfl, _, ?_, HV.out.hO, fun k hk => .inl hk, HV.out.held, fun k hk => hk.imp id (fun g => g.1), by have := HV.out.size; omega⟩
      have h := HV.out.j
      rwa [← hours_length, List.take_length] at h
end Go.Proofs.YtemikhnkjligdaaGreatDoor
