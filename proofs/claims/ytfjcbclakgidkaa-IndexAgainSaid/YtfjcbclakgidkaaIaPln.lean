/- The walks of know.plain, both ways. -/
import Derived.Test.YtfjcbclakgidkaaIaLaw2
import Derived.Test.YtfjcbclakgidkaaMNum
namespace Go.Proofs.Ytfjcbclakgidkaa
open Go.RowKit

def plB (c : UInt8) : Bool := !((decide (c.toNat < 32) || c.toNat == 127) && c.toNat != 10)
def plainF (l : List UInt8) : Bool := l.all plB
theorem plB_int (c : UInt8) : plB c = !((decide ((c.toNat : Int) < 32) || (c.toNat : Int) == 127) && (c.toNat : Int) != 10) := by
  unfold plB
  rw [Bool.eq_iff_iff]
  simp
  omega
theorem data_get3 (s : ByteArray) {i : Nat} (h : i < s.size) : s.data.toList[i]'(by simpa using h) = s[i] := by simp; rfl
theorem plain_next {s : ByteArray} {i : Nat} (h : i < s.size) (ha : plainF (s.data.toList.take i) = true) (hb : plB s[i] = true) : plainF (s.data.toList.take (i + 1)) = true := by
  unfold plainF at ha ⊢
  rw [List.take_succ_eq_append_getElem (by simpa using h), List.all_append, ha, data_get3 s h]
  simp [hb]
theorem plain_false {s : ByteArray} {i : Nat} (h : i < s.size) (hb : plB s[i] = false) : plainF s.data.toList = false := by
  unfold plainF
  rw [List.all_eq_false]
  refine ⟨s[i], ?_, by simp [hb]⟩
  rw [← data_get3 s h]
  exact List.getElem_mem _
set_option maxRecDepth 100000 in
set_option maxHeartbeats 2000000 in
theorem plain_any (s : ByteArray) (hs : s.size ≤ 90000000) (w : World) :
    Calls Try.prog 46 #[.string s, .bool true] w fun e w' => e = .returned (.bool (plainF s.data.toList)) ∧ w = w' := by
  go_enter Try.func46, Try.ntmps46
  go_wp2_with fail
  go_loopw [8] (fun iv wr => ∃ i : Nat, iv = .int .i64 ((i : Nat) : Int) ∧ i ≤ s.size ∧ plainF (s.data.toList.take i) = true ∧ wr = w) (fun iv _ => s.size - (intOf iv).toNat)
  case atStart => exact ⟨0, rfl, Nat.zero_le _, rfl, rfl⟩
  case round =>
    obtain ⟨i, rfl, hi, hall, rfl⟩ := hrel
    by_cases hlt : i < s.size
    · have HNF := Lib.hid (fun h => plain_false (s := s) hlt h)
      have HNX := Lib.hid (fun h => plain_next hlt hall h)
      go_upto_region 4 with fail
      have HNI := Lib.hid (plB_int s[i])
      go_cut [30] (fun v wx => v = .bool (!plB s[i]) ∧ wx = wr)
      case first =>
        clear HNF HNX hall
        go_wp2_with fail
        all_goals go_meet
        all_goals (refine ⟨?_, rfl⟩; rw [HNI.out]; congr 1; rw [Bool.eq_iff_iff]; simp; omega)
      case rest =>
        obtain ⟨rfl, rfl⟩ := hcut
        cases hb : plB s[i] with
        | true =>
          have HNX2 := Lib.hid (HNX.out hb)
          clear HNI HNF HNX hall hb
          go_wp2_with fail
          go_roundw
          case rel => exact ⟨i + 1, by go_num, hlt, HNX2.out, by trivial⟩
          case measure => simp [intOf]; omega
        | false =>
          have HNX2 := Lib.hid (HNF.out hb)
          clear HNI HNF HNX hall hb
          go_wp2_with fail
          go_ret
          exact ⟨by rw [HNX2.out]; rfl, rfl⟩
    · obtain rfl : i = s.size := by omega
      have hfull : plainF s.data.toList = true := by
        rw [List.take_of_length_le (by rw [Array.length_toList]; exact Nat.le_refl _)] at hall
        exact hall
      have HN := Lib.hid hfull
      clear hall hfull
      go_wp2_with fail
      go_ret
      exact ⟨by rw [HN.out]; rfl, rfl⟩

def plbN (c : UInt8) : Bool := !(decide (c.toNat < 32) || c.toNat == 127)
def plainN (l : List UInt8) : Bool := l.all plbN
theorem plbN_int (c : UInt8) : plbN c = !(decide ((c.toNat : Int) < 32) || (c.toNat : Int) == 127) := by
  unfold plbN
  rw [Bool.eq_iff_iff]
  simp
  omega
theorem data_getN (s : ByteArray) {i : Nat} (h : i < s.size) : s.data.toList[i]'(by simpa using h) = s[i] := by simp; rfl
theorem plainN_next {s : ByteArray} {i : Nat} (h : i < s.size) (ha : plainN (s.data.toList.take i) = true) (hb : plbN s[i] = true) : plainN (s.data.toList.take (i + 1)) = true := by
  unfold plainN at ha ⊢
  rw [List.take_succ_eq_append_getElem (by simpa using h), List.all_append, ha, data_getN s h]
  simp [hb]
theorem plainN_false {s : ByteArray} {i : Nat} (h : i < s.size) (hb : plbN s[i] = false) : plainN s.data.toList = false := by
  unfold plainN
  rw [List.all_eq_false]
  refine ⟨s[i], ?_, by simp [hb]⟩
  rw [← data_getN s h]
  exact List.getElem_mem _
set_option maxRecDepth 100000 in
set_option maxHeartbeats 2000000 in
theorem plainN_any (s : ByteArray) (hs : s.size ≤ 90000000) (w : World) :
    Calls Try.prog 46 #[.string s, .bool false] w fun e w' => e = .returned (.bool (plainN s.data.toList)) ∧ w = w' := by
  go_enter Try.func46, Try.ntmps46
  go_wp2_with fail
  go_loopw [8] (fun iv wr => ∃ i : Nat, iv = .int .i64 ((i : Nat) : Int) ∧ i ≤ s.size ∧ plainN (s.data.toList.take i) = true ∧ wr = w) (fun iv _ => s.size - (intOf iv).toNat)
  case atStart => exact ⟨0, rfl, Nat.zero_le _, rfl, rfl⟩
  case round =>
    obtain ⟨i, rfl, hi, hall, rfl⟩ := hrel
    by_cases hlt : i < s.size
    · have HNF := Lib.hid (fun h => plainN_false (s := s) hlt h)
      have HNX := Lib.hid (fun h => plainN_next hlt hall h)
      go_upto_region 4 with fail
      have HNI := Lib.hid (plbN_int s[i])
      go_cut [30] (fun v wx => v = .bool (!plbN s[i]) ∧ wx = wr)
      case first =>
        clear HNF HNX hall
        go_wp2_with fail
        all_goals go_meet
        all_goals (refine ⟨?_, rfl⟩; rw [HNI.out]; congr 1; rw [Bool.eq_iff_iff]; simp <;> omega)
      case rest =>
        obtain ⟨rfl, rfl⟩ := hcut
        cases hb : plbN s[i] with
        | true =>
          have HNX2 := Lib.hid (HNX.out hb)
          clear HNI HNF HNX hall hb
          go_wp2_with fail
          go_roundw
          case rel => exact ⟨i + 1, by go_num, hlt, HNX2.out, by trivial⟩
          case measure => simp [intOf]; omega
        | false =>
          have HNX2 := Lib.hid (HNF.out hb)
          clear HNI HNF HNX hall hb
          go_wp2_with fail
          go_ret
          exact ⟨by rw [HNX2.out]; rfl, rfl⟩
    · obtain rfl : i = s.size := by omega
      have hfull : plainN s.data.toList = true := by
        rw [List.take_of_length_le (by rw [Array.length_toList]; exact Nat.le_refl _)] at hall
        exact hall
      have HN := Lib.hid hfull
      clear hall hfull
      go_wp2_with fail
      go_ret
      exact ⟨by rw [HN.out]; rfl, rfl⟩

/-- what know.checkText says -/
def textE (t b : List UInt8) : Int := if 200 < t.length ∨ 20000 < b.length then 4 else if plainN t && plainF b then 0 else 9
set_option maxRecDepth 100000 in
set_option maxHeartbeats 1000000 in
theorem checkText_any (t b : ByteArray) (w : World) : Calls Try.prog 30 #[.string t, .string b] w fun e w' => e = .returned (.int .i64 (textE t.data.toList b.data.toList)) ∧ w = w' := by
  have e1 : t.data.toList.length = t.size := by simp
  have e2 : b.data.toList.length = b.size := by simp
  have HT := Lib.hid (show textE t.data.toList b.data.toList = if 200 < t.size ∨ 20000 < b.size then 4 else if plainN t.data.toList && plainF b.data.toList then 0 else 9 by rw [textE, e1, e2])
  clear e1 e2
  by_cases h1 : 200 < t.size
  · have q1 : decide ((200 : Int) < (t.size : Int)) = true := decide_eq_true (by omega)
    have HE := Lib.hid (HT.out.trans (if_pos (.inl h1)))
    go_enter Try.func30, Try.ntmps30
    go_wp2_with fail
    go_ret
    exact ⟨by rw [HE.out]; rfl, rfl⟩
  have q1 : decide ((200 : Int) < (t.size : Int)) = false := decide_eq_false (by omega)
  by_cases h2 : 20000 < b.size
  · have q2 : decide ((20000 : Int) < (b.size : Int)) = true := decide_eq_true (by omega)
    have HE := Lib.hid (HT.out.trans (if_pos (.inr h2)))
    go_enter Try.func30, Try.ntmps30
    go_wp2_with fail
    go_ret
    exact ⟨by rw [HE.out]; rfl, rfl⟩
  have q2 : decide ((20000 : Int) < (b.size : Int)) = false := decide_eq_false (by omega)
  have HE := Lib.hid (HT.out.trans (if_neg (by omega)))
  have HP1 := Lib.hid (plainN_any t (by omega) w)
  have HP2 := Lib.hid (plain_any b (by omega) w)
  go_enter Try.func30, Try.ntmps30
  go_wp2_with fail
  refine HP1.out.mono ?_
  rintro e w2 ⟨rfl, rfl⟩
  have hE := HE.out
  clear HE
  generalize plainN t.data.toList = p1 at *
  cases p1 with
  | false =>
    have HE := Lib.hid hE
    clear hE
    go_wp2_with fail
    go_ret
    exact ⟨by rw [HE.out]; rfl, rfl⟩
  | true =>
    have HE := Lib.hid hE
    clear hE
    go_wp2_with fail
    refine HP2.out.mono ?_
    rintro e w3 ⟨rfl, rfl⟩
    have hE := HE.out
    clear HE
    generalize plainF b.data.toList = p2 at *
    cases p2 with
    | false =>
      have HE := Lib.hid hE
      clear hE
      go_wp2_with fail
      go_ret
      exact ⟨by rw [HE.out]; rfl, rfl⟩
    | true =>
      have HE := Lib.hid hE
      clear hE
      go_wp2_with fail
      go_ret
      exact ⟨by rw [HE.out]; rfl, rfl⟩
end Go.Proofs.Ytfjcbclakgidkaa
