/- The walks of cal's spans: checkSpan, CheckSpans, limited, the counts' tests. -/
import Derived.Test.YtjnaioellghggaaZone
import Derived.Test.YtjnaioellghggaaSpLaw
namespace Go.Proofs.Ytjnaioellghggaa
open Go.RowKit

/-- what checkSpan asks -/
def SpOk (s : Sp) : Prop := 0 ≤ s.1 ∧ s.1 < s.2 ∧ s.2 ≤ 3000001
set_option maxRecDepth 100000 in
theorem checkSpan_any (s : Sp) (w : World) :
    Calls Try.prog 37 #[.agg #[.int .i64 s.1, .int .i64 s.2]] w fun e w' => (∃ c, e = .returned (.int .i64 c) ∧ (c = 0 ↔ SpOk s)) ∧ Below w.heap.size w w' := by
  obtain ⟨f, t⟩ := s
  have hbx := box1 w #[.int .i64 f, .int .i64 t] 41
  go_enter Try.func37, Try.ntmps37
  go_upto_region 1 with fail
  generalize w.alloc (.cells #[.int .i64 f, .int .i64 t] 41) = w2 at *
  obtain ⟨hx, hbl⟩ := hbx
  have k0 := hx.cell 0
  have k1 := hx.cell 1
  have HB2 := Lib.hid hbl
  clear hx hbl
  by_cases h1 : 0 ≤ f ∧ f ≤ 3000000
  · have q1 : (decide ((0 : Int) ≤ f) && decide (f ≤ 3000000)) = true := by simpa using h1
    by_cases h2 : 0 ≤ t ∧ t ≤ 3000001
    · have q2 : (decide ((0 : Int) ≤ t) && decide (t ≤ 3000001)) = true := by simpa using h2
      by_cases h3 : t ≤ f
      · have q3 : decide (t ≤ f) = true := by simpa using h3
        have HC := Lib.hid (show ¬ SpOk (f, t) by unfold SpOk; simp only; omega)
        clear h1 h2 h3
        go_wp2_with (go_at_call 42; refine (within_any _ _ _ _).mono ?_; rintro e w' ⟨rfl, rfl⟩)
        go_ret
        exact ⟨⟨_, rfl, by simpa using HC.out⟩, HB2.out⟩
      · have q3 : decide (t ≤ f) = false := by simpa using h3
        have HC := Lib.hid (show SpOk (f, t) by unfold SpOk; simp only; omega)
        clear h1 h2 h3
        go_wp2_with (go_at_call 42; refine (within_any _ _ _ _).mono ?_; rintro e w' ⟨rfl, rfl⟩)
        go_ret
        exact ⟨⟨_, rfl, by simpa using HC.out⟩, HB2.out⟩
    · have q2 : (decide ((0 : Int) ≤ t) && decide (t ≤ 3000001)) = false := by simp; omega
      have HC := Lib.hid (show ¬ SpOk (f, t) by unfold SpOk; simp only; omega)
      clear h1 h2
      go_wp2_with (go_at_call 42; refine (within_any _ _ _ _).mono ?_; rintro e w' ⟨rfl, rfl⟩)
      go_ret
      exact ⟨⟨_, rfl, by simpa using HC.out⟩, HB2.out⟩
  · have q1 : (decide ((0 : Int) ≤ f) && decide (f ≤ 3000000)) = false := by simp; omega
    have HC := Lib.hid (show ¬ SpOk (f, t) by unfold SpOk; simp only; omega)
    clear h1
    go_wp2_with (go_at_call 42; refine (within_any _ _ _ _).mono ?_; rintro e w' ⟨rfl, rfl⟩)
    go_ret
    exact ⟨⟨_, rfl, by simpa using HC.out⟩, HB2.out⟩

/-- where the next span may begin -/
def loAt (l : List Sp) (i : Nat) : Int := if i = 0 then 0 else (l.getD (i - 1) (0, 0)).2 + 1
structure CkInv (l : List Sp) (w wr : World) (i : Nat) : Prop where
  le : i ≤ l.length
  lo : 0 ≤ loAt l i
  eq : Apart 0 3000001 l ↔ Apart (loAt l i) 3000001 (l.drop i)
  below : Below w.heap.size w wr
theorem loAt_succ (l : List Sp) (i : Nat) (h : i < l.length) : loAt l (i + 1) = l[i].2 + 1 := by
  unfold loAt
  rw [if_neg (by omega), Nat.add_sub_cancel]
  simp [List.getD, List.getElem?_eq_getElem h]
theorem apart_step {l : List Sp} {i : Nat} (h : i < l.length) (lo : Int) : Apart lo 3000001 (l.drop i) ↔ (lo ≤ l[i].1 ∧ l[i].1 < l[i].2 ∧ l[i].2 ≤ 3000001) ∧ Apart (l[i].2 + 1) 3000001 (l.drop (i + 1)) := by
  rw [List.drop_eq_getElem_cons h]
  simp only [Apart]
  constructor
  · rintro ⟨a, b, c, d⟩; exact ⟨⟨a, b, c⟩, d⟩
  · rintro ⟨⟨a, b, c⟩, d⟩; exact ⟨a, b, c, d⟩

set_option maxRecDepth 100000 in
set_option maxHeartbeats 1000000 in
theorem CheckSpans_any (v : Value) (l : List Sp) (w : World) (h : Changes w v l) :
    Calls Try.prog 16 #[v] w fun e w' => (∃ c, e = .returned (.int .i64 c) ∧ (c = 0 ↔ l.length ≤ 50000 ∧ Apart 0 3000001 l)) ∧ Below w.heap.size w w' := by
  obtain ⟨a, cap, rfl⟩ := SliceAt.len h
  have H := Lib.hid h
  clear h
  go_enter Try.func16, Try.ntmps16
  by_cases h1 : l.length ≤ 50000
  · have q1 : decide ((50000 : Int) < (l.length : Int)) = false := by simp; omega
    have H1 := Lib.hid h1
    go_wp2_with fail
    go_loopw [11] (fun iv wr => ∃ i : Nat, iv = .int .i64 i ∧ CkInv l w wr i) (fun iv _ => l.length - (intOf iv).toNat)
    case atStart => exact ⟨0, rfl, Nat.zero_le _, by simp [loAt], by simp [loAt], Below.refl _ _⟩
    case round =>
      obtain ⟨i, rfl, hI⟩ := hrel
      have HI := Lib.hid hI
      have hi := hI.le
      clear hI
      by_cases hlt : i < l.length
      · obtain ⟨b, of', cap', hv, hb, hel⟩ := Changes.at H.out (by omega)
        cases hv
        obtain ⟨e0, e1⟩ := hel i hlt
        have c0 := (below_cell HI.out.below hb).trans e0
        have c1 := (below_cell HI.out.below hb).trans e1
        have HP := Lib.hid (fun hp : 0 < i => (below_cell HI.out.below hb).trans (hel (i - 1) (by omega)).2)
        have hst := apart_step hlt (loAt l i)
        have hlo := loAt_succ l i hlt
        have HLP := Lib.hid (show ∀ hp : 0 < i, loAt l i = (l[i - 1]'(by omega)).2 + 1 by
          intro hp
          have := loAt_succ l (i - 1) (by omega)
          rwa [Nat.sub_add_cancel hp] at this)
        generalize l[i] = s at *
        obtain ⟨f, t⟩ := s
        simp only at c0 c1 hst hlo
        have HST := Lib.hid hst
        have HLO := Lib.hid hlo
        clear e0 e1 hel hst hlo
        go_upto_region 6 with fail
        obtain ⟨bx, bb⟩ := box1 wr #[.int .i64 f, .int .i64 t] 41
        have HB4 := Lib.hid (below_up HI.out.below bb HI.out.below.size)
        have HBX := Lib.hid bx
        have k0 := bx.cell 0
        have k1 := bx.cell 1
        generalize wr.alloc (.cells #[.int .i64 f, .int .i64 t] 41) = wb at *
        have HFR := Lib.hid (show ∀ o, wb.cell? ⟨b, o, none⟩ = wr.cell? ⟨b, o, none⟩ from fun o => below_cell bb (Nat.lt_of_lt_of_le hb HI.out.below.size))
        generalize wr.heap.size = B at *
        clear bx bb c0 c1
        go_wp2_with fail
        refine (checkSpan_any (f, t) _).mono ?_
        rintro e w5 ⟨⟨c, rfl, hc⟩, hb5⟩
        have HC := Lib.hid hc
        have HB5 := Lib.hid (below_up HB4.out hb5 HB4.out.size)
        have k0 := (HBX.out.below hb5 HBX.out.lt).cell 0
        have k1 := (HBX.out.below hb5 HBX.out.lt).cell 1
        have HF5 := Lib.hid (show ∀ o, w5.cell? ⟨b, o, none⟩ = wb.cell? ⟨b, o, none⟩ from fun o => below_cell hb5 (Nat.lt_of_lt_of_le hb HB4.out.size))
        clear hc hb5
        by_cases hcz : c = 0
        · subst hcz
          by_cases h0 : 0 < i
          · have p1 := (HF5.out _).trans ((HFR.out _).trans (HP.out h0))
            have r1 : IntKind.i64.wrap ((i : Int) - 1) = ((i - 1 : Nat) : Int) := by simp [IntKind.wrap, IntKind.bits, IntKind.signed]; have := H1.out; omega
            have r2 : decide ((0 : Int) < (i : Int)) = true := by simpa using h0
            have r3 : i - 1 < l.length := by omega
            have hlp := HLP.out h0
            generalize l[i - 1] = p at *
            by_cases hov : f ≤ p.2
            · have r4 : decide (f ≤ p.2) = true := decide_eq_true hov
              have HNO := Lib.hid (show ¬ Apart 0 3000001 l from fun g => by
                have h1 : loAt l i ≤ f := (HST.out.1 (HI.out.eq.1 g)).1.1
                rw [hlp] at h1; omega)
              clear hov hlp
              go_wp2_with fail
              go_quiet (fail)
              go_wp2_with fail
              go_ret
              exact ⟨⟨_, rfl, ⟨fun g => absurd g (by decide), fun g => absurd g.2 HNO.out⟩⟩, drewN_below HB5.out nq⟩
            · have r4 : decide (f ≤ p.2) = false := decide_eq_false hov
              have HEQ := Lib.hid (show Apart 0 3000001 l ↔ Apart (t + 1) 3000001 (l.drop (i + 1)) by
                obtain ⟨z1, z2, z3⟩ := HC.out.1 rfl
                simp only at z1 z2 z3
                rw [HI.out.eq, HST.out]
                exact ⟨fun g => g.2, fun g => ⟨⟨by rw [hlp]; omega, z2, z3⟩, g⟩⟩)
              have HT := Lib.hid (show (0 : Int) ≤ t + 1 by
                obtain ⟨z1, z2, z3⟩ := HC.out.1 rfl
                simp only at z1 z2 z3
                omega)
              clear hov hlp
              go_wp2_with fail
              go_quiet (fail)
              go_wp2_with fail
              go_roundw
              case rel => exact ⟨i + 1, by go_num, hlt, by rw [HLO.out]; exact HT.out, by rw [HLO.out]; exact HEQ.out, drewN_below HB5.out nq⟩
              case measure => simp [intOf]; omega
          · obtain rfl : i = 0 := by omega
            have HEQ := Lib.hid (show Apart 0 3000001 l ↔ Apart (t + 1) 3000001 (l.drop (0 + 1)) by
              obtain ⟨z1, z2, z3⟩ := HC.out.1 rfl
              simp only at z1 z2 z3
              rw [HI.out.eq, HST.out]
              exact ⟨fun g => g.2, fun g => ⟨⟨z1, z2, z3⟩, g⟩⟩)
            have HT := Lib.hid (show (0 : Int) ≤ t + 1 by
              obtain ⟨z1, z2, z3⟩ := HC.out.1 rfl
              simp only at z1 z2 z3
              omega)
            clear h0
            go_wp2_with fail
            go_quiet (fail)
            go_wp2_with fail
            go_roundw
            case rel => exact ⟨0 + 1, by go_num, hlt, by rw [HLO.out]; exact HT.out, by rw [HLO.out]; exact HEQ.out, drewN_below HB5.out nq⟩
            case measure => simp [intOf]; omega
        · have hz0 : (c == 0) = false := by simpa using hcz
          have hz1 : (c != 0) = true := by simpa using hcz
          have HNO := Lib.hid (show ¬ Apart 0 3000001 l from fun g => by
            have h1 := HI.out.lo
            obtain ⟨z1, z2, z3⟩ := (HST.out.1 (HI.out.eq.1 g)).1
            exact hcz (HC.out.2 ⟨by simp only; omega, z2, z3⟩))
          go_wp2_with fail
          go_ret
          exact ⟨⟨_, rfl, ⟨fun g => absurd g hcz, fun g => absurd g.2 HNO.out⟩⟩, HB5.out⟩
      · obtain rfl : i = l.length := by omega
        go_wp2_with fail
        go_ret
        refine ⟨⟨_, rfl, ?_⟩, HI.out.below⟩
        have := HI.out.eq
        rw [List.drop_length] at this
        simp only [true_iff]
        exact ⟨H1.out, this.2 trivial⟩
  · have q1 : decide ((50000 : Int) < (l.length : Int)) = true := by simp; omega
    have H1 := Lib.hid h1
    go_wp2_with fail
    go_ret
    exact ⟨⟨_, rfl, by simp; intro g; exact absurd g H1.out⟩, Below.refl _ _⟩

end Go.Proofs.Ytjnaioellghggaa
