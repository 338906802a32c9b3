/- The walks of know.template and CheckTemplate at a template that is made of quoted texts and fields. -/
import Derived.Test.YtfohehldkchnjaaTpTpl
namespace Go.Proofs.Ytfohehldkchnjaa
open Go.RowKit

/-- s is the template of these -/
structure TpOk (segs : List (List UInt8 × Fd)) (e : List UInt8) (s : ByteArray) : Prop where
  size : s.size ≤ 1152921504606846976
  few : segs.length ≤ 40
  ok : ∀ x ∈ segs, FdOk x.2
  text : s.data.toList = tplT segs e
  each : ∀ x ∈ segs, x.1.length ≤ 1152921504606846976
  last : e.length ≤ 1152921504606846976
theorem tpl_last : ∀ (segs : List (List UInt8 × Fd)) (e : List UInt8), e.length ≤ (tplT segs e).length
  | [], e => by unfold tplT; rw [quo_length]; omega
  | (p, f) :: r, e => by
    have ih := tpl_last r e
    unfold tplT
    rw [List.length_append, List.length_append]
    omega
theorem tpl_seg : ∀ (segs : List (List UInt8 × Fd)) (e : List UInt8), ∀ x ∈ segs, x.1.length ≤ (tplT segs e).length
  | [], _, x, hx => by cases hx
  | (p, f) :: r, e, x, hx => by
    unfold tplT
    rw [List.length_append, List.length_append]
    rcases List.mem_cons.1 hx with rfl | hx
    · simp only
      rw [quo_length]
      omega
    · have ih := tpl_seg r e x hx
      omega
def tcode (s : ByteArray) : Int := if 20000 < s.size then 4 else if plainF s.data.toList then 0 else 9
def TPost (segs : List (List UInt8 × Fd)) (e : List UInt8) (s : ByteArray) (w : World) (en : Ending) (w' : World) : Prop :=
  ∃ a n c, en = .returned (.tuple #[.slice a n c, .int .i64 0, .int .i64 (tcode s)]) ∧ Below w.heap.size w w' ∧ (tcode s = 0 → n = (readF segs e).length ∧ Flds w' (.slice a n c) (readF segs e))
set_option maxRecDepth 100000 in
set_option maxHeartbeats 2000000 in
theorem template_any (segs : List (List UInt8 × Fd)) (e : List UInt8) (s : ByteArray) (w : World) (h : TpOk segs e s) :
    Calls Try.prog 11 #[.string s] w (TPost segs e s w) := by
  have H := Lib.hid h
  have hsz := h.size
  have HNL := Lib.hid (show (namesF (readF segs e)).length ≤ 40 by rw [namesF_read segs e h.ok, List.length_map]; exact h.few)
  have HRL := Lib.hid (show (readF segs e).length ≤ 100000 by have h1 := readF_length segs e; have h2 := h.few; omega)
  clear h
  by_cases h1 : 20000 < s.size
  · have HC := Lib.hid (show tcode s = 4 by unfold tcode; rw [if_pos h1])
    have q1 : decide ((20000 : Int) < (s.size : Int)) = true := decide_eq_true (by omega)
    go_enter Try.func11, Try.ntmps11
    go_wp2_with fail
    go_ret3
    exact ⟨none, 0, 0, by rw [HC.out]; rfl, Below.refl _ _, fun g => absurd g (by rw [HC.out]; decide)⟩
  have q1 : decide ((20000 : Int) < (s.size : Int)) = false := decide_eq_false (by omega)
  have hz2 : s.size ≤ 20000 := by omega
  have htl : (tplT segs e).length = s.size := by rw [← H.out.text]; simp
  have HPR := Lib.hid (parse_any segs e s w (by omega) (by have := H.out.few; omega) H.out.ok H.out.text (fun x hx => by have := tpl_seg segs e x hx; omega) (by have := tpl_last segs e; omega))
  have HPL := Lib.hid (plain_any s (by omega))
  clear htl
  obtain ⟨pb, hpb⟩ : ∃ b, b = plainF s.data.toList := ⟨_, rfl⟩
  rw [← hpb] at HPL
  have HPB := Lib.hid hpb
  clear hpb
  cases pb with
  | false =>
    have HC := Lib.hid (show tcode s = 9 by unfold tcode; rw [if_neg h1, ← HPB.out]; rfl)
    go_enter Try.func11, Try.ntmps11
    go_wp2_with fail
    refine (HPL.out w).mono ?_
    rintro en w2 ⟨rfl, rfl⟩
    go_wp2_with fail
    go_ret3
    exact ⟨none, 0, 0, by rw [HC.out]; rfl, Below.refl _ _, fun g => absurd g (by rw [HC.out]; decide)⟩
  | true =>
    have HC := Lib.hid (show tcode s = 0 by unfold tcode; rw [if_neg h1, ← HPB.out]; rfl)
    go_enter Try.func11, Try.ntmps11
    go_wp2_with fail
    refine (HPL.out w).mono ?_
    rintro en w2 ⟨rfl, rfl⟩
    go_wp2_with fail
    refine HPR.out.mono ?_
    rintro en w3 ⟨a, c, q, rfl, ho, hb⟩
    have HF := Lib.hid (Flds.of ho)
    have HB := Lib.hid hb
    have HNM := Lib.hid (names_any (readF segs e) _ w3 (Flds.of ho) HRL.out)
    clear ho hb HPR
    generalize hle : readF segs e = l at *
    have HLE := Lib.hid hle
    clear hle
    go_wp2_with fail
    refine HNM.out.mono ?_
    rintro en w4 ⟨⟨na, nc, rfl, ho⟩, hb4⟩
    have HB4 := Lib.hid (below_up HB.out hb4 HB.out.size)
    have HF4 := Lib.hid (HF.out.below hb4)
    have hnl := HNL.out
    clear ho hb4 HNM
    generalize (namesF l).length = n at *
    have q2 : decide ((40 : Int) < (n : Int)) = false := decide_eq_false (by omega)
    have q3 : ¬ 40 < n := by omega
    go_wp2_with fail
    go_ret3
    exact ⟨a, _, c, by rw [HC.out]; rfl, HB4.out, fun _ => by rw [HLE.out]; exact ⟨rfl, HF4.out⟩⟩
set_option maxRecDepth 100000 in
set_option maxHeartbeats 2000000 in
theorem CheckTemplate_any (segs : List (List UInt8 × Fd)) (e : List UInt8) (s : ByteArray) (w : World) (h : TpOk segs e s) :
    Calls Try.prog 6 #[.string s] w fun en w' => en = .returned (.tuple #[.int .i64 0, .int .i64 (tcode s)]) ∧ Below w.heap.size w w' := by
  have HT := Lib.hid (template_any segs e s w h)
  clear h
  go_enter Try.func6, Try.ntmps6
  go_wp2_with fail
  refine HT.out.mono ?_
  rintro en w2 ⟨a, n, c, rfl, hb, _⟩
  have HB := Lib.hid hb
  clear hb
  go_wp2_with fail
  go_ret2
  exact ⟨rfl, HB.out⟩
end Go.Proofs.Ytfohehldkchnjaa
