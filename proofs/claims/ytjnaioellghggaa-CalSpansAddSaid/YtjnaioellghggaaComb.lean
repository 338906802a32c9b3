/- The walks of cal.combined, Union, Meet, Minus; how long spans are. -/
import Derived.Test.YtjnaioellghggaaSwept
import Derived.Test.YtjnaioellghggaaZone3
namespace Go.Proofs.Ytjnaioellghggaa
open Go.RowKit

/-- what CheckSpans finds right -/
def SpsOk (l : List Sp) : Prop := l.length ≤ 50000 ∧ Apart 0 3000001 l
theorem changes_none (w : World) : Changes w (.slice none 0 0) [] := .inl ⟨none, 0, rfl, rfl⟩

theorem limited_any (v : Value) (l : List Sp) (w : World) (h : Changes w v l) :
    Calls Try.prog 49 #[v] w fun e w' => ((l.length ≤ 50000 ∧ e = .returned (.tuple #[v, .int .i64 0])) ∨ (¬ l.length ≤ 50000 ∧ e = .returned (.tuple #[.slice none 0 0, .int .i64 4]))) ∧ w = w' := by
  obtain ⟨a, cap, rfl⟩ := SliceAt.len h
  clear h
  by_cases h1 : l.length ≤ 50000
  · have q1 : decide ((50000 : Int) < (l.length : Int)) = false := decide_eq_false (by omega)
    have H1 := Lib.hid h1
    clear h1
    go_enter Try.func49, Try.ntmps49
    go_wp2_with fail
    go_ret2
    exact ⟨.inl ⟨H1.out, rfl⟩, rfl⟩
  · have q1 : decide ((50000 : Int) < (l.length : Int)) = true := decide_eq_true (by omega)
    have H1 := Lib.hid h1
    clear h1
    go_enter Try.func49, Try.ntmps49
    go_wp2_with fail
    go_ret2
    exact ⟨.inr ⟨H1.out, rfl⟩, rfl⟩

structure CombRes (want : Int → Int → Bool) (a b l : List Sp) (c : Int) : Prop where
  nil : c ≠ 0 → l = []
  ok : c = 0 → SpsOk a ∧ SpsOk b ∧ SpsOk l ∧ ∀ t, covB l t = want (if covB a t then 1 else 0) (if covB b t then 1 else 0)
  code : SpsOk a → SpsOk b → c = 0 ∨ c = 4
def CombPost (want : Int → Int → Bool) (a b : List Sp) (w : World) (e : Ending) (w' : World) : Prop :=
  (∃ v c l, e = .returned (.tuple #[v, .int .i64 c]) ∧ Changes w' v l ∧ CombRes want a b l c) ∧ Below w.heap.size w w'

set_option maxRecDepth 100000 in
set_option maxHeartbeats 1000000 in
theorem combined_any (want : Int → Int → Bool) (g : Nat) (h0 : want 0 0 = false) (hw : Wants g want) (eg : ∀ args w, (callFunc g args).run Try.prog w = .ok (.enter g args) w) (va vb : Value) (a b : List Sp) (w : World) (ha : Changes w va a) (hb : Changes w vb b) :
    Calls Try.prog 33 #[va, vb, .func (.func g) #[] #[]] w (CombPost want a b w) := by
  obtain ⟨aa, ac, rfl⟩ := SliceAt.len ha
  obtain ⟨ba, bc, rfl⟩ := SliceAt.len hb
  have HA := Lib.hid ha
  have HB := Lib.hid hb
  have HW := Lib.hid hw
  have H0 := Lib.hid h0
  have HEG := Lib.hid eg
  generalize hPost : CombPost want a b w = Post
  have HP := Lib.hid hPost
  clear ha hb hw h0 hPost
  go_enter Try.func33, Try.ntmps33
  go_wp2_with fail
  refine (CheckSpans_any _ a w HA.out).mono ?_
  rintro e w1 ⟨⟨ca, rfl, hca⟩, hb1⟩
  have HB1 := Lib.hid hb1
  have HCA := Lib.hid hca
  clear hb1 hca
  go_wp2_with fail
  refine (CheckSpans_any _ b w1 (HB.out.below HB1.out)).mono ?_
  rintro e w2 ⟨⟨cb, rfl, hcb⟩, hb2⟩
  have HB2 := Lib.hid (below_up HB1.out hb2 HB1.out.size)
  have HCB := Lib.hid hcb
  clear hb2 hcb
  have hor := or_any _ [ca, cb] _ (ints2_at w2 ca cb 30) (by simp)
  rw [orI2] at hor
  have HB3 := Lib.hid (HB2.out.alloc HB2.out.size (.cells #[.int .i64 ca, .int .i64 cb] 30))
  go_wp2_with fail
  refine hor.mono ?_
  rintro e w3 ⟨rfl, rfl⟩
  clear hor
  generalize w2.alloc (.cells #[.int .i64 ca, .int .i64 cb] 30) = w3 at *
  by_cases hc : (if ca = 0 then cb else ca) = 0
  · have hab : ca = 0 ∧ cb = 0 := by
      by_cases h : ca = 0
      · rw [if_pos h] at hc; exact ⟨h, hc⟩
      · rw [if_neg h] at hc; exact absurd hc h
    rw [hc]
    have hoka := HCA.out.1 hab.1
    have hokb := HCB.out.1 hab.2
    have HOA := Lib.hid hoka
    have HOB := Lib.hid hokb
    clear hc hab hoka hokb
    have HL := Lib.hid (Has.new w3 #[.slice aa a.length ac, .slice ba b.length bc] 36)
    have HB4 := Lib.hid (HB3.out.alloc HB3.out.size (.cells #[.slice aa a.length ac, .slice ba b.length bc] 36))
    go_wp2_with fail
    refine (swept_any want g H0.out HW.out HEG.out _ _ a b _ _ HL.out (HA.out.below HB4.out) (HB.out.below HB4.out) HOA.out.1 HOB.out.1 HOA.out.2 HOB.out.2).mono ?_
    rintro e w5 ⟨⟨v, out, rfl, hch, hap, hcov⟩, hb5⟩
    have HCH := Lib.hid hch
    have HAP := Lib.hid hap
    have HCOV := Lib.hid hcov
    have HB5 := Lib.hid (below_up HB4.out hb5 HB4.out.size)
    clear hch hap hcov hb5
    go_wp2_with fail
    refine (limited_any v out w5 HCH.out).mono ?_
    rintro e w6 ⟨hr, rfl⟩
    rcases hr with ⟨hl, rfl⟩ | ⟨hl, rfl⟩
    · have HL2 := Lib.hid hl
      clear hl
      go_wp2_with fail
      rw [← HP.out]
      exact ⟨⟨v, 0, out, rfl, HCH.out, fun h => absurd rfl h, fun _ => ⟨HOA.out, HOB.out, ⟨HL2.out, HAP.out⟩, HCOV.out⟩, fun _ _ => .inl rfl⟩, HB5.out⟩
    · have HL2 := Lib.hid hl
      clear hl
      go_wp2_with fail
      rw [← HP.out]
      exact ⟨⟨_, 4, [], rfl, changes_none _, fun _ => rfl, fun h => absurd h (by decide), fun _ _ => .inr rfl⟩, HB5.out⟩
  · have HNO := Lib.hid (show SpsOk a → SpsOk b → False from fun p q => hc (by rw [HCA.out.2 p, HCB.out.2 q]; rfl))
    generalize (if ca = 0 then cb else ca) = c at *
    have q0 : (c == 0) = false := by simpa using hc
    have q1 : (c != 0) = true := by simpa using hc
    have HC := Lib.hid hc
    clear hc
    go_wp2_with fail
    rw [← HP.out]
    exact ⟨⟨_, c, [], rfl, changes_none _, fun _ => rfl, fun h => absurd h HC.out, fun p q => (HNO.out p q).elim⟩, HB3.out⟩

theorem enters_union : ∀ args w, (callFunc 34 args).run Try.prog w = .ok (.enter 34 args) w := enters_of Try.func34 (by kernel_rfl) rfl
theorem enters_meet : ∀ args w, (callFunc 35 args).run Try.prog w = .ok (.enter 35 args) w := enters_of Try.func35 (by kernel_rfl) rfl
theorem enters_minus : ∀ args w, (callFunc 36 args).run Try.prog w = .ok (.enter 36 args) w := enters_of Try.func36 (by kernel_rfl) rfl

theorem Union_any (va vb : Value) (a b : List Sp) (w : World) (ha : Changes w va a) (hb : Changes w vb b) : Calls Try.prog 12 #[va, vb] w (CombPost wantU a b w) := by
  have hcon := combined_any wantU 34 (by decide) wants_union enters_union va vb a b w ha hb
  clear ha hb
  go_enter Try.func12, Try.ntmps12
  go_wp2_with fail
  refine hcon.mono ?_
  rintro e w1 ⟨⟨v, c, l, rfl, hch, hres⟩, hb⟩
  clear hcon
  have HCH := Lib.hid hch
  have HR := Lib.hid hres
  clear hch hres
  go_wp2_with fail
  go_ret2
  exact ⟨⟨v, c, l, rfl, HCH.out, HR.out⟩, hb⟩
theorem Meet_any (va vb : Value) (a b : List Sp) (w : World) (ha : Changes w va a) (hb : Changes w vb b) : Calls Try.prog 13 #[va, vb] w (CombPost wantM a b w) := by
  have hcon := combined_any wantM 35 (by decide) wants_meet enters_meet va vb a b w ha hb
  clear ha hb
  go_enter Try.func13, Try.ntmps13
  go_wp2_with fail
  refine hcon.mono ?_
  rintro e w1 ⟨⟨v, c, l, rfl, hch, hres⟩, hb⟩
  clear hcon
  have HCH := Lib.hid hch
  have HR := Lib.hid hres
  clear hch hres
  go_wp2_with fail
  go_ret2
  exact ⟨⟨v, c, l, rfl, HCH.out, HR.out⟩, hb⟩
theorem Minus_any (va vb : Value) (a b : List Sp) (w : World) (ha : Changes w va a) (hb : Changes w vb b) : Calls Try.prog 14 #[va, vb] w (CombPost wantD a b w) := by
  have hcon := combined_any wantD 36 (by decide) wants_minus enters_minus va vb a b w ha hb
  clear ha hb
  go_enter Try.func14, Try.ntmps14
  go_wp2_with fail
  refine hcon.mono ?_
  rintro e w1 ⟨⟨v, c, l, rfl, hch, hres⟩, hb⟩
  clear hcon
  have HCH := Lib.hid hch
  have HR := Lib.hid hres
  clear hch hres
  go_wp2_with fail
  go_ret2
  exact ⟨⟨v, c, l, rfl, HCH.out, HR.out⟩, hb⟩

/-! ### how long spans are -/
theorem lens_nonneg : ∀ {l : List Sp}, (∀ s ∈ l, s.1 < s.2) → 0 ≤ lens l
  | [], _ => Int.le_refl _
  | s :: r, h => by
    have h1 := h s List.mem_cons_self
    have h2 := lens_nonneg (l := r) (fun x hx => h x (List.mem_cons_of_mem _ hx))
    simp only [lens]
    omega
theorem lens_take {l : List Sp} (h : Apart 0 3000001 l) (i : Nat) : 0 ≤ lens (l.take i) ∧ lens (l.take i) ≤ 3000001 := by
  have hm := fun s (hs : s ∈ l) => (h.mem s hs).2.1
  have h1 := lens_nonneg (l := l.take i) (fun s hs => hm s (List.mem_of_mem_take hs))
  have h2 := lens_nonneg (l := l.drop i) (fun s hs => hm s (List.mem_of_mem_drop hs))
  have h3 : lens l = lens (l.take i) + lens (l.drop i) := by rw [← lens_append, List.take_append_drop]
  have h4 := lens_cnt h (by decide)
  have h5 := cnt_le (covB l) 0 3000001
  have h6 : ((3000001 : Int) - 0).toNat = 3000001 := by decide
  rw [h6] at h5
  omega
theorem lens_next {l : List Sp} {i : Nat} (hi : i < l.length) : lens (l.take (i + 1)) = lens (l.take i) + (l[i].2 - l[i].1) := by
  rw [List.take_succ_eq_append_getElem hi, lens_append]
  simp [lens]
set_option maxRecDepth 100000 in
theorem long_any (v : Value) (l : List Sp) (w : World) (h : Changes w v l) (hap : Apart 0 3000001 l) :
    Calls Try.prog 15 #[v] w fun e w' => e = .returned (.int .i64 (lens l)) ∧ Below w.heap.size w w' := by
  obtain ⟨a, cap, rfl⟩ := SliceAt.len h
  have H := Lib.hid h
  have HA := Lib.hid hap
  have hl := apart_len hap
  have hl2 : l.length ≤ 3000001 := by omega
  clear h hap hl
  go_enter Try.func15, Try.ntmps15
  go_wp2_with fail
  go_loopw [3, 8] (fun nv iv wr => ∃ i : Nat, iv = .int .i64 i ∧ i ≤ l.length ∧ nv = .int .i64 (lens (l.take i)) ∧ Below w.heap.size w wr) (fun _ iv _ => l.length - (intOf iv).toNat)
  case atStart => exact ⟨0, rfl, Nat.zero_le _, rfl, Below.refl _ _⟩
  case round =>
    obtain ⟨i, rfl, hi, rfl, hb⟩ := hrel
    have HB := Lib.hid hb
    clear hb
    by_cases hlt : i < l.length
    · obtain ⟨b, of', cap', hv, hb, hel⟩ := Changes.at H.out (by omega)
      cases hv
      obtain ⟨e0, e1⟩ := hel i hlt
      have c0 := (below_cell HB.out hb).trans e0
      have c1 := (below_cell HB.out hb).trans e1
      have hn := lens_next hlt
      have b0 := lens_take HA.out i
      have b1 := lens_take HA.out (i + 1)
      have hm := HA.out.mem l[i] (List.getElem_mem hlt)
      generalize l[i] = s at *
      obtain ⟨f, t⟩ := s
      simp only at c0 c1 hn hm
      have HN := Lib.hid hn
      generalize lens (l.take i) = n at *
      have s1 : IntKind.i64.wrap (t - f) = t - f := IntWalk.i64_in _ (by omega)
      have s2 : IntKind.i64.wrap (n + (t - f)) = n + (t - f) := IntWalk.i64_in _ (by omega)
      have HB4 := Lib.hid (HB.out.alloc HB.out.size (.cells #[.int .i64 f, .int .i64 t] 41))
      clear hel e0 e1 hn b0 b1 hm
      go_wp2_with fail
      go_roundw
      case rel => exact ⟨i + 1, by go_num, by omega, by rw [HN.out], HB4.out⟩
      case measure => simp [intOf]; omega
    · obtain rfl : i = l.length := by omega
      have he : lens (l.take l.length) = lens l := by rw [List.take_length]
      rw [he]
      go_wp2_with fail
      go_ret
      exact ⟨rfl, HB.out⟩

theorem spans_add {a b u m x y : List Sp} (Aa : Apart 0 3000001 a) (Au : Apart 0 3000001 u) (Am : Apart 0 3000001 m) (Ax : Apart 0 3000001 x) (Ay : Apart 0 3000001 y)
    (hu : ∀ t, covB u t = wantU (if covB a t then 1 else 0) (if covB b t then 1 else 0)) (hm : ∀ t, covB m t = wantM (if covB a t then 1 else 0) (if covB b t then 1 else 0))
    (hx : ∀ t, covB x t = wantD (if covB a t then 1 else 0) (if covB b t then 1 else 0)) (hy : ∀ t, covB y t = wantD (if covB b t then 1 else 0) (if covB a t then 1 else 0)) :
    lens u = lens m + lens x + lens y ∧ lens a = lens m + lens x := by
  rw [lens_cnt Aa (by decide), lens_cnt Au (by decide), lens_cnt Am (by decide), lens_cnt Ax (by decide), lens_cnt Ay (by decide)]
  have h1 : cnt (covB a) 0 3000001 = cnt (covB m) 0 3000001 + cnt (covB x) 0 3000001 := cnt_sum fun t _ _ => by
    rw [hm, hx]
    cases covB a t <;> cases covB b t <;> decide
  have h2 : cnt (covB u) 0 3000001 = cnt (covB a) 0 3000001 + cnt (covB y) 0 3000001 := cnt_sum fun t _ _ => by
    rw [hu, hy]
    cases covB a t <;> cases covB b t <;> decide
  omega

end Go.Proofs.Ytjnaioellghggaa
