/- The walks of point's two functions of a clock. -/
import Derived.Test.YtllcgcnebofdoaaGreatDoorCkEach
namespace Go.Proofs.YtllcgcnebofdoaaGreatDoor
open Go.RowKit

def pntV (x : PntD) (vv : Value) : Array Value := #[.int .i64 x.at', .int .i64 x.kind, .int .i64 x.who, .int .i64 x.status, .int .i64 x.prio, vv]
/-- what point's first function of a clock holds by -/
def JMet (x : PntD) (vv : Value) (P O A : Nat) (w : World) : Prop := Has w P (pntV x vv) 43 ∧ Has w O #[.bool (overB x)] 4 ∧ Has w A #[.bool (ansB x)] 4
set_option maxRecDepth 100000 in
set_option maxHeartbeats 4000000 in
theorem met_show (x : PntD) (vv : Value) (P O A B b : Nat) (v : Value) (r : RunD) (w : World) (hJ : JMet x vv P O A w) (h : RM w B b v r) (hr : RunOk r) (hl : r.c.ps.length ≤ 1000000) :
    Calls Tryz.prog 44 #[.pointer (some ⟨b, 0, none⟩), .pointer (some ⟨P, 0, none⟩), .pointer (some ⟨O, 0, none⟩), .pointer (some ⟨A, 0, none⟩)] w (RunPost w B b v (metF x r)) := by
  have p0 := hJ.1.cell 0
  have p1 := hJ.1.cell 1
  have p3 := hJ.1.cell 3
  have o0 := hJ.2.1.cell 0
  have a0 := hJ.2.2.cell 0
  have k0 := h.box.cell 0
  unfold pntV at p0 p1 p3
  unfold runV at k0
  have H := Lib.hid h
  have HE1 := Lib.hid (fun how => end_any B b v r x.at' how w h hr hl)
  have HF1 := Lib.hid (show (x.kind = 7 ∧ x.status = 6) → metF x r = endF' x.at' 2 r from fun g => by unfold metF; rw [if_pos g])
  have HF2 := Lib.hid (show ¬ (x.kind = 7 ∧ x.status = 6) → ((r.c.kind = 3 ∧ overB x = true) ∨ (r.c.kind ≠ 3 ∧ ansB x = true)) → metF x r = endF' x.at' 1 r from fun g g2 => by unfold metF; rw [if_neg g, if_pos g2])
  have HF3 := Lib.hid (show ¬ (x.kind = 7 ∧ x.status = 6) → ¬ ((r.c.kind = 3 ∧ overB x = true) ∨ (r.c.kind ≠ 3 ∧ ansB x = true)) → metF x r = r from fun g g2 => by unfold metF; rw [if_neg g, if_neg g2])
  generalize metF x r = r' at *
  clear hJ h hr
  generalize overB x = ov at *
  generalize ansB x = an at *
  obtain ⟨t, xk, xw, xs, xp, xv⟩ := x
  simp only at *
  go_enter Tryz.func44, Tryz.ntmps44
  by_cases g1 : xk = 7
  · by_cases g2 : xs = 6
    · have HF := Lib.hid (HF1.out ⟨g1, g2⟩)
      subst g1 g2
      clear HF1 HF2 HF3
      go_wp2_with fail
      refine (HE1.out 2).mono ?_
      rintro e w3 ⟨⟨u, rfl⟩, hrest⟩
      have HZ := Lib.hid hrest
      clear hrest
      go_wp2_with fail
      go_end0
      exact ⟨⟨_, rfl⟩, by rw [HF.out]; exact HZ.out⟩
    · have q2 : (xs == 6) = false := by simpa using g2
      have q3 : decide (xs = 6) = false := decide_eq_false g2
      have hn : ¬ (xk = 7 ∧ xs = 6) := fun q => g2 q.2
      subst g1
      have HG1 := Lib.hid (fun g => HF2.out hn g)
      have HG2 := Lib.hid (fun g => HF3.out hn g)
      clear HF1 HF2 HF3 hn
      by_cases g3 : r.c.kind = 3
      · rw [g3] at k0
        cases ov with
        | true =>
          have HF := Lib.hid (HG1.out (.inl ⟨g3, rfl⟩))
          clear HG1 HG2 g3
          go_wp2_with fail
          refine (HE1.out 1).mono ?_
          rintro e w3 ⟨⟨u, rfl⟩, hrest⟩
          have HZ := Lib.hid hrest
          clear hrest
          go_wp2_with fail
          go_end0
          exact ⟨⟨_, rfl⟩, by rw [HF.out]; exact HZ.out⟩
        | false =>
          have HF := Lib.hid (HG2.out (fun q => by rcases q with q | q; exact absurd q.2 (by decide); exact q.1 g3))
          clear HG1 HG2 g3
          go_wp2_with fail
          go_end0
          exact ⟨⟨_, rfl⟩, v, by rw [HF.out]; exact H.out, One2.refl _ _ _, Fr.refl _ _⟩
      · have q4 : (r.c.kind == 3) = false := by simpa using g3
        have q6 : (r.c.kind != 3) = true := by simpa using g3
        have q5 : decide (r.c.kind = 3) = false := decide_eq_false g3
        cases an with
        | true =>
          have HF := Lib.hid (HG1.out (.inr ⟨g3, rfl⟩))
          clear HG1 HG2 g3
          generalize r.c.kind = rk at *
          go_wp2_with fail
          refine (HE1.out 1).mono ?_
          rintro e w3 ⟨⟨u, rfl⟩, hrest⟩
          have HZ := Lib.hid hrest
          clear hrest
          go_wp2_with fail
          go_end0
          exact ⟨⟨_, rfl⟩, by rw [HF.out]; exact HZ.out⟩
        | false =>
          have HF := Lib.hid (HG2.out (fun q => by rcases q with q | q; exact g3 q.1; exact absurd q.2 (by decide)))
          clear HG1 HG2 g3
          generalize r.c.kind = rk at *
          go_wp2_with fail
          go_end0
          exact ⟨⟨_, rfl⟩, v, by rw [HF.out]; exact H.out, One2.refl _ _ _, Fr.refl _ _⟩
  · have q2 : (xk == 7) = false := by simpa using g1
    have q3 : decide (xk = 7) = false := decide_eq_false g1
    have hn : ¬ (xk = 7 ∧ xs = 6) := fun q => g1 q.1
    have HG1 := Lib.hid (fun g => HF2.out hn g)
    have HG2 := Lib.hid (fun g => HF3.out hn g)
    clear HF1 HF2 HF3 hn
    by_cases g3 : r.c.kind = 3
    · rw [g3] at k0
      cases ov with
      | true =>
        have HF := Lib.hid (HG1.out (.inl ⟨g3, rfl⟩))
        clear HG1 HG2 g3
        go_wp2_with fail
        refine (HE1.out 1).mono ?_
        rintro e w3 ⟨⟨u, rfl⟩, hrest⟩
        have HZ := Lib.hid hrest
        clear hrest
        go_wp2_with fail
        go_end0
        exact ⟨⟨_, rfl⟩, by rw [HF.out]; exact HZ.out⟩
      | false =>
        have HF := Lib.hid (HG2.out (fun q => by rcases q with q | q; exact absurd q.2 (by decide); exact q.1 g3))
        clear HG1 HG2 g3
        go_wp2_with fail
        go_end0
        exact ⟨⟨_, rfl⟩, v, by rw [HF.out]; exact H.out, One2.refl _ _ _, Fr.refl _ _⟩
    · have q4 : (r.c.kind == 3) = false := by simpa using g3
      have q6 : (r.c.kind != 3) = true := by simpa using g3
      have q5 : decide (r.c.kind = 3) = false := decide_eq_false g3
      cases an with
      | true =>
        have HF := Lib.hid (HG1.out (.inr ⟨g3, rfl⟩))
        clear HG1 HG2 g3
        generalize r.c.kind = rk at *
        go_wp2_with fail
        refine (HE1.out 1).mono ?_
        rintro e w3 ⟨⟨u, rfl⟩, hrest⟩
        have HZ := Lib.hid hrest
        clear hrest
        go_wp2_with fail
        go_end0
        exact ⟨⟨_, rfl⟩, by rw [HF.out]; exact HZ.out⟩
      | false =>
        have HF := Lib.hid (HG2.out (fun q => by rcases q with q | q; exact g3 q.1; exact absurd q.2 (by decide)))
        clear HG1 HG2 g3
        generalize r.c.kind = rk at *
        go_wp2_with fail
        go_end0
        exact ⟨⟨_, rfl⟩, v, by rw [HF.out]; exact H.out, One2.refl _ _ _, Fr.refl _ _⟩
/-- what point's second function of a clock holds by -/
def JPau (x : PntD) (vv : Value) (P O : Nat) (paused : Bool) (w : World) : Prop := Has w P (pntV x vv) 43 ∧ Has w O #[.bool paused] 4
set_option maxRecDepth 100000 in
set_option maxHeartbeats 4000000 in
theorem pau_show (x : PntD) (vv : Value) (P O B b : Nat) (paused : Bool) (v : Value) (r : RunD) (w : World) (hJ : JPau x vv P O paused w) (h : RM w B b v r) (hr : RunOk r) (hl : r.c.ps.length ≤ 1000000) (hB : B ≤ w.heap.size) :
    Calls Tryz.prog 51 #[.pointer (some ⟨b, 0, none⟩), .pointer (some ⟨O, 0, none⟩), .pointer (some ⟨P, 0, none⟩)] w (RunPost w B b v (pauF paused x.at' r)) := by
  have p0 := hJ.1.cell 0
  have o0 := hJ.2.cell 0
  have k10 := h.box.cell 10
  unfold pntV at p0
  unfold runV at k10
  have H := Lib.hid h
  have HC := Lib.hid (cut_any B b v r x.at' w h hr hl)
  have HN := Lib.hid (on_any B b v r x.at' w h hl hB)
  unfold pauF
  generalize x.at' = t at *
  clear hJ h hr
  go_enter Tryz.func51, Tryz.ntmps51
  cases paused with
  | true =>
    go_wp2_with fail
    refine HC.out.mono ?_
    rintro e w3 ⟨⟨u, rfl⟩, hrest⟩
    have HZ := Lib.hid hrest
    clear hrest
    go_wp2_with fail
    go_end0
    exact ⟨⟨_, rfl⟩, HZ.out⟩
  | false =>
    cases hg : r.goes with
    | true =>
      rw [hg] at k10
      clear hg
      go_wp2_with fail
      go_end0
      exact ⟨⟨_, rfl⟩, v, H.out, One2.refl _ _ _, Fr.refl _ _⟩
    | false =>
      rw [hg] at k10
      clear hg
      go_wp2_with fail
      refine HN.out.mono ?_
      rintro e w3 ⟨⟨u, rfl⟩, hrest⟩
      have HZ := Lib.hid hrest
      clear hrest
      go_wp2_with fail
      go_end0
      exact ⟨⟨_, rfl⟩, HZ.out⟩
end Go.Proofs.YtllcgcnebofdoaaGreatDoor
