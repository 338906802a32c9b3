/- The walks of staff.apart, CheckRules, and slices.ContainsFunc with Roster's closure. -/
import Derived.Test.YtfoehmieklldkaaDoorRostLaw
namespace Go.Proofs.YtfoehmieklldkaaDoor
open Go.RowKit

def FN.agg (x : FN) : Value := .agg #[.int .i64 (x.f : Nat), .int .i64 (x.n : Nat)]
set_option maxRecDepth 100000 in
set_option maxHeartbeats 1000000 in
theorem apart_any (x y : FN) (r : Nat) (hx : x.ok) (hy : y.ok) (hr : r ≤ 400) (w : World) :
    Calls Tryd.prog 51 #[x.agg, y.agg, .int .i64 (r : Nat)] w fun e w' => e = .returned (.bool (apartB x y r)) ∧ Below w.heap.size w w' := by
  obtain ⟨xf, xn⟩ := x
  obtain ⟨yf, yn⟩ := y
  obtain ⟨x1, x2, x3⟩ := hx
  obtain ⟨y1, y2, y3⟩ := hy
  simp only at x1 x2 x3 y1 y2 y3
  have hbx := box2 w #[.int .i64 (xf : Nat), .int .i64 (xn : Nat)] #[.int .i64 (yf : Nat), .int .i64 (yn : Nat)] 76 76
  obtain ⟨b, hb⟩ : ∃ b, b = apartB ⟨xf, xn⟩ ⟨yf, yn⟩ r := ⟨_, rfl⟩
  rw [← hb]
  unfold apartB at hb
  simp only at hb
  have HB := Lib.hid hb
  clear hb
  unfold FN.agg
  go_enter Tryd.func51, Tryd.ntmps51
  go_upto_region 1 with fail
  generalize (w.alloc (.cells #[.int .i64 (xf : Nat), .int .i64 (xn : Nat)] 76)).alloc (.cells #[.int .i64 (yf : Nat), .int .i64 (yn : Nat)] 76) = w2 at *
  obtain ⟨hx, hy, hbl⟩ := hbx
  have HB2 := Lib.hid hbl
  have k0 := hx.cell 0
  have k1 := hx.cell 1
  have j0 := hy.cell 0
  have j1 := hy.cell 1
  clear hx hy hbl
  have s0 : IntKind.i64.wrap ((xf : Int) + (xn : Int)) = (xf : Int) + (xn : Int) := IntWalk.i64_in _ (by omega)
  have s1 : IntKind.i64.wrap ((xf : Int) + (xn : Int) + (r : Int)) = (xf : Int) + (xn : Int) + (r : Int) := IntWalk.i64_in _ (by omega)
  have s2 : IntKind.i64.wrap ((yf : Int) + (yn : Int)) = (yf : Int) + (yn : Int) := IntWalk.i64_in _ (by omega)
  have s3 : IntKind.i64.wrap ((yf : Int) + (yn : Int) + (r : Int)) = (yf : Int) + (yn : Int) + (r : Int) := IntWalk.i64_in _ (by omega)
  by_cases h1 : xf + xn + r ≤ yf
  · have q1 : decide ((xf : Int) + (xn : Int) + (r : Int) ≤ (yf : Int)) = true := by simp; omega
    have hbt := HB.out
    rw [decide_eq_true h1, Bool.true_or] at hbt
    have HBT := Lib.hid hbt
    clear hbt
    go_wp2_with fail
    go_ret
    exact ⟨by rw [HBT.out]; rfl, HB2.out⟩
  · have q1 : decide ((xf : Int) + (xn : Int) + (r : Int) ≤ (yf : Int)) = false := by simp; omega
    have hbt := HB.out
    rw [decide_eq_false h1, Bool.false_or] at hbt
    have e1 : decide ((yf : Int) + (yn : Int) + (r : Int) ≤ (xf : Int)) = decide (yf + yn + r ≤ xf) := by
      congr 1
      exact propext (by omega)
    have HBT := Lib.hid (hbt.trans e1.symm)
    clear hbt e1
    go_wp2_with fail
    go_ret
    exact ⟨by rw [HBT.out]; rfl, HB2.out⟩

/-- the closure that Roster hands to slices.ContainsFunc -/
structure ClosAt (w : World) (bf bx : Nat) (x : FN) (P R M : Int) : Prop where
  f : Has w bf #[.int .i64 (x.f : Nat), .int .i64 (x.n : Nat)] 76
  r : Has w bx #[.int .i64 P, .int .i64 R, .int .i64 M] 50
theorem ClosAt.below {w w' : World} {bf bx : Nat} {x : FN} {P R M : Int} (h : ClosAt w bf bx x P R M) (hb : Below w.heap.size w w') : ClosAt w' bf bx x P R M :=
  ⟨h.f.below hb h.f.lt, h.r.below hb h.r.lt⟩
set_option maxRecDepth 100000 in
theorem clos_any (y x : FN) (P : Int) (R : Nat) (M : Int) (bf bx : Nat) (hx : x.ok) (hy : y.ok) (hr : R ≤ 400) (w : World) (h : ClosAt w bf bx x P R M) :
    Calls Tryd.prog 50 #[y.agg, .pointer (some ⟨bf, 0, none⟩), .pointer (some ⟨bx, 0, none⟩)] w fun e w' => e = .returned (.bool (!apartB y x R)) ∧ Below w.heap.size w w' := by
  have HA := Lib.hid (fun W => apart_any y x R hy hx hr W)
  have hbx := box1 w #[.int .i64 (y.f : Nat), .int .i64 (y.n : Nat)] 76
  have H := Lib.hid h
  clear h
  unfold FN.agg
  go_enter Tryd.func50, Tryd.ntmps50
  go_upto_region 1 with fail
  generalize w.alloc (.cells #[.int .i64 (y.f : Nat), .int .i64 (y.n : Nat)] 76) = w2 at *
  obtain ⟨hx2, hbl⟩ := hbx
  have HB2 := Lib.hid hbl
  have k0 := hx2.cell 0
  have k1 := hx2.cell 1
  have h2 := H.out.below hbl
  have j0 := h2.f.cell 0
  have j1 := h2.f.cell 1
  have j2 := h2.r.cell 1
  clear hx2 hbl h2
  go_wp2_with fail
  refine (HA.out w2).mono ?_
  rintro e w3 ⟨rfl, hb3⟩
  have HB3 := Lib.hid (below_up HB2.out hb3 HB2.out.size)
  clear hb3
  go_wp2_with fail
  go_ret
  exact ⟨rfl, HB3.out⟩

set_option maxRecDepth 100000 in
set_option maxHeartbeats 1000000 in
theorem index_any (v : Value) (l : List FN) (x : FN) (P : Int) (R : Nat) (M : Int) (bf bx : Nat) (hx : x.ok) (hl : ∀ y ∈ l, y.ok) (hr : R ≤ 400) (hll : l.length ≤ 1000000) (w : World) (hv : FormsAt w v l) (h : ClosAt w bf bx x P R M) :
    Calls Tryd.prog 72 #[v, .func (.func 50) #[] #[.pointer (some ⟨bf, 0, none⟩), .pointer (some ⟨bx, 0, none⟩)]] w
      fun e w' => (∃ k : Int, e = .returned (.int .i64 k) ∧ decide (0 ≤ k) = l.any fun y => !apartB y x R) ∧ Below w.heap.size w w' := by
  obtain ⟨a, cap, rfl⟩ := hv.len
  have HV := Lib.hid hv
  have H := Lib.hid h
  have HL := Lib.hid hl
  have HC := Lib.hid (fun y hy W hW => clos_any y x P R M bf bx hx hy hr W hW)
  clear hv h hl
  go_enter Tryd.func72, Tryd.ntmps72
  go_wp2_with fail
  go_loopw [5, 8] (fun _ iv wr => ∃ i : Nat, iv = .int .i64 i ∧ i ≤ l.length ∧ ((l.drop i).any fun y => !apartB y x R) = (l.any fun y => !apartB y x R) ∧ Below w.heap.size w wr) (fun _ iv _ => l.length - (intOf iv).toNat)
  case atStart => exact ⟨0, rfl, Nat.zero_le _, rfl, Below.refl _ _⟩
  case round =>
    obtain ⟨i, rfl, hi, he, hbr⟩ := hrel
    have HE := Lib.hid he
    have HB := Lib.hid hbr
    clear he hbr
    by_cases hlt : i < l.length
    · obtain ⟨b, off, cap', hvv, hcap, hb, hel⟩ := HV.out.at (by omega)
      cases hvv
      obtain ⟨e0, e1⟩ := hel i hlt
      have c0 := (below_cell HB.out hb).trans e0
      have c1 := (below_cell HB.out hb).trans e1
      have hd : l.drop i = l[i] :: l.drop (i + 1) := List.drop_eq_getElem_cons hlt
      have he := HE.out
      rw [hd, List.any_cons] at he
      have hyo := HL.out l[i] (List.getElem_mem hlt)
      have hcall := HC.out l[i] hyo wr (H.out.below HB.out)
      have HCA := Lib.hid hcall
      have hHE := Lib.hid he
      generalize l[i] = y at *
      clear hel e0 e1 hd he hcall hyo
      go_wp2_with fail
      refine HCA.out.mono ?_
      rintro e w' ⟨rfl, hb'⟩
      have HB' := Lib.hid (below_up' HB.out hb')
      clear hb'
      cases hq : !apartB y x R with
      | true =>
        have he := hHE.out
        rw [hq, Bool.true_or] at he
        have HE2 := Lib.hid he
        clear he hq
        go_wp2_with fail
        go_ret
        exact ⟨⟨_, rfl, by rw [← HE2.out]; simp⟩, HB'.out⟩
      | false =>
        have he := hHE.out
        rw [hq, Bool.false_or] at he
        have HE2 := Lib.hid he
        clear he hq
        go_wp2_with fail
        go_roundw
        case rel => exact ⟨i + 1, by go_num, by omega, HE2.out, HB'.out⟩
        case measure => simp [intOf]; omega
    · obtain rfl : i = l.length := by omega
      have he := HE.out
      rw [List.drop_length] at he
      have HE2 := Lib.hid he
      clear he
      go_wp2_with fail
      go_ret
      exact ⟨⟨_, rfl, by rw [← HE2.out]; simp⟩, HB.out⟩

set_option maxRecDepth 100000 in
theorem contains_any (v : Value) (l : List FN) (x : FN) (P : Int) (R : Nat) (M : Int) (bf bx : Nat) (hx : x.ok) (hl : ∀ y ∈ l, y.ok) (hr : R ≤ 400) (hll : l.length ≤ 1000000) (w : World) (hv : FormsAt w v l) (h : ClosAt w bf bx x P R M) :
    Calls Tryd.prog 49 #[v, .func (.func 50) #[] #[.pointer (some ⟨bf, 0, none⟩), .pointer (some ⟨bx, 0, none⟩)]] w
      fun e w' => e = .returned (.bool (l.any fun y => !apartB y x R)) ∧ Below w.heap.size w w' := by
  have HI := Lib.hid (index_any v l x P R M bf bx hx hl hr hll w hv h)
  obtain ⟨b, hb⟩ : ∃ b, b = l.any fun y => !apartB y x R := ⟨_, rfl⟩
  rw [← hb]
  have HB := Lib.hid hb
  clear hv h hb
  go_enter Tryd.func49, Tryd.ntmps49
  go_wp2_with fail
  refine HI.out.mono ?_
  rintro e w' ⟨⟨k, rfl, hk⟩, hb'⟩
  rw [← HB.out] at hk
  have HK := Lib.hid hk
  have HB' := Lib.hid hb'
  clear hk hb'
  go_wp2_with fail
  go_ret
  refine ⟨?_, HB'.out⟩
  rw [← HK.out]
  rfl

def rulesE (P R M : Int) : Int := if (0 ≤ P ∧ P ≤ 60) ∧ (0 ≤ R ∧ R ≤ 400) ∧ (0 ≤ M ∧ M ≤ 400) then 0 else 2
set_option maxRecDepth 100000 in
theorem CheckRules_any (P R M : Int) (w : World) :
    Calls Tryd.prog 21 #[.agg #[.int .i64 P, .int .i64 R, .int .i64 M]] w fun e w' => e = .returned (.int .i64 (rulesE P R M)) ∧ Below w.heap.size w w' := by
  have hbx := box1 w #[.int .i64 P, .int .i64 R, .int .i64 M] 50
  obtain ⟨c, hc⟩ : ∃ c, c = rulesE P R M := ⟨_, rfl⟩
  rw [← hc]
  unfold rulesE at hc
  have HC := Lib.hid hc
  clear hc
  go_enter Tryd.func21, Tryd.ntmps21
  go_upto_region 1 with fail
  generalize w.alloc (.cells #[.int .i64 P, .int .i64 R, .int .i64 M] 50) = w2 at *
  obtain ⟨hx2, hbl⟩ := hbx
  have HB2 := Lib.hid hbl
  have k0 := hx2.cell 0
  have k1 := hx2.cell 1
  have k2 := hx2.cell 2
  clear hx2 hbl
  by_cases h1 : 0 ≤ P ∧ P ≤ 60
  · have b1 : (decide (0 ≤ P) && decide (P ≤ 60)) = true := by simpa using h1
    by_cases h2 : 0 ≤ R ∧ R ≤ 400
    · have b2 : (decide (0 ≤ R) && decide (R ≤ 400)) = true := by simpa using h2
      by_cases h3 : 0 ≤ M ∧ M ≤ 400
      · have b3 : (decide (0 ≤ M) && decide (M ≤ 400)) = true := by simpa using h3
        have e := HC.out
        rw [if_pos ⟨h1, h2, h3⟩] at e
        have HE := Lib.hid e
        clear e h1 h2 h3
        go_wp2_with fail
        refine (within_any _ _ _ _).mono ?_
        rintro e w' ⟨rfl, rfl⟩
        rw [b1]
        go_wp2_with fail
        refine (within_any _ _ _ _).mono ?_
        rintro e w' ⟨rfl, rfl⟩
        rw [b2]
        go_wp2_with fail
        refine (within_any _ _ _ _).mono ?_
        rintro e w' ⟨rfl, rfl⟩
        rw [b3]
        go_wp2_with fail
        go_ret
        exact ⟨ret_int HE.out.symm, HB2.out⟩
      · have b3 : (decide (0 ≤ M) && decide (M ≤ 400)) = false := by simpa using h3
        have e := HC.out
        rw [if_neg (fun g => h3 g.2.2)] at e
        have HE := Lib.hid e
        clear e h1 h2 h3
        go_wp2_with fail
        refine (within_any _ _ _ _).mono ?_
        rintro e w' ⟨rfl, rfl⟩
        rw [b1]
        go_wp2_with fail
        refine (within_any _ _ _ _).mono ?_
        rintro e w' ⟨rfl, rfl⟩
        rw [b2]
        go_wp2_with fail
        refine (within_any _ _ _ _).mono ?_
        rintro e w' ⟨rfl, rfl⟩
        rw [b3]
        go_wp2_with fail
        go_ret
        exact ⟨ret_int HE.out.symm, HB2.out⟩
    · have b2 : (decide (0 ≤ R) && decide (R ≤ 400)) = false := by simpa using h2
      have e := HC.out
      rw [if_neg (fun g => h2 g.2.1)] at e
      have HE := Lib.hid e
      clear e h1 h2
      go_wp2_with fail
      refine (within_any _ _ _ _).mono ?_
      rintro e w' ⟨rfl, rfl⟩
      rw [b1]
      go_wp2_with fail
      refine (within_any _ _ _ _).mono ?_
      rintro e w' ⟨rfl, rfl⟩
      rw [b2]
      go_wp2_with fail
      go_ret
      exact ⟨ret_int HE.out.symm, HB2.out⟩
  · have b1 : (decide (0 ≤ P) && decide (P ≤ 60)) = false := by simpa using h1
    have e := HC.out
    rw [if_neg (fun g => h1 g.1)] at e
    have HE := Lib.hid e
    clear e h1
    go_wp2_with fail
    refine (within_any _ _ _ _).mono ?_
    rintro e w' ⟨rfl, rfl⟩
    rw [b1]
    go_wp2_with fail
    go_ret
    exact ⟨ret_int HE.out.symm, HB2.out⟩

end Go.Proofs.YtfoehmieklldkaaDoor
