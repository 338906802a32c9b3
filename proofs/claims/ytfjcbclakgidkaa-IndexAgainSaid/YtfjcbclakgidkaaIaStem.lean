/- The walk of know.Stem. -/
import Derived.Test.YtfjcbclakgidkaaIaLaw2
import Derived.Test.YtfjcbclakgidkaaMNum
import Derived.Test.YtfjcbclakgidkaaShelf
namespace Go.Proofs.Ytfjcbclakgidkaa
open Go.RowKit

def azB (c : UInt8) : Bool := decide (97 ≤ c.toNat) && decide (c.toNat ≤ 122)
def azF (l : List UInt8) : Bool := l.all azB
theorem az_int (c : UInt8) : azB c = !(decide ((c.toNat : Int) < 97) || decide ((c.toNat : Int) > 122)) := by
  unfold azB
  rw [Bool.eq_iff_iff]
  simp
  omega
theorem az_get (s : ByteArray) {i : Nat} (h : i < s.size) : s.data.toList[i]'(by simpa using h) = s[i] := by simp; rfl
theorem az_next {s : ByteArray} {i : Nat} (h : i < s.size) (ha : azF (s.data.toList.take i) = true) (hb : azB s[i] = true) : azF (s.data.toList.take (i + 1)) = true := by
  unfold azF at ha ⊢
  rw [List.take_succ_eq_append_getElem (by simpa using h), List.all_append, ha, az_get s h]
  simp [hb]
theorem az_false {s : ByteArray} {i : Nat} (h : i < s.size) (hb : azB s[i] = false) : azF s.data.toList = false := by
  unfold azF
  rw [List.all_eq_false]
  refine ⟨s[i], ?_, by simp [hb]⟩
  rw [← az_get s h]
  exact List.getElem_mem _
theorem extract_take (s : ByteArray) (k : Nat) : s.extract 0 k = bs (s.data.toList.take k) := by
  apply ByteArray.ext
  apply Array.ext'
  rw [ByteArray.data_extract]
  simp [bs, List.extract_eq_take_drop]
theorem stem_no {w : List UInt8} (h : azF w = false) : stemF w = w := by
  unfold stemF
  exact if_pos h
theorem stem_az {w : List UInt8} (h : azF w = true) : stemF w = if w.length < 4 then w
  else if sfx [105, 101, 115] w then w.take (w.length - 3) ++ [121]
  else if sfx [115, 115, 101, 115] w then w.take (w.length - 2)
  else if sfx [115, 115] w then w
  else if sfx [115] w then w.take (w.length - 1)
  else if sfx [105, 110, 103] w && decide (6 ≤ w.length) then w.take (w.length - 3)
  else if sfx [101, 100] w && decide (5 ≤ w.length) then w.take (w.length - 2)
  else w := by
  unfold stemF
  exact if_neg (by rw [show (w.all fun c => decide (97 ≤ c.toNat) && decide (c.toNat ≤ 122)) = azF w from rfl, h]; decide)
set_option maxRecDepth 100000 in
set_option maxHeartbeats 4000000 in
theorem Stem_any (s : ByteArray) (hs : s.size ≤ 90000000) (w : World) :
    Calls Try.prog 48 #[.string s] w fun e w' => e = .returned (.string (bs (stemF s.data.toList))) ∧ w = w' := by
  have HSF := Lib.hid (fun p w => Try.strings_HasSuffix s p w (by omega))
  go_enter Try.func48, Try.ntmps48
  go_wp2_with fail
  go_loopw [7] (fun iv wr => ∃ i : Nat, iv = .int .i64 ((i : Nat) : Int) ∧ i ≤ s.size ∧ azF (s.data.toList.take i) = true ∧ wr = w) (fun iv _ => s.size - (intOf iv).toNat)
  case atStart => exact ⟨0, rfl, Nat.zero_le _, rfl, rfl⟩
  case round =>
    obtain ⟨i, rfl, hi, hall, rfl⟩ := hrel
    by_cases hlt : i < s.size
    · have HNF := Lib.hid (fun h => az_false (s := s) hlt h)
      have HNX := Lib.hid (fun h => az_next hlt hall h)
      go_upto_region 4 with fail
      have HNI := Lib.hid (az_int s[i])
      go_cut [19] (fun v wx => v = .bool (!azB s[i]) ∧ wx = wr)
      case first =>
        clear HNF HNX hall
        go_wp2_with fail
        all_goals go_meet
        all_goals (refine ⟨?_, rfl⟩; rw [HNI.out]; congr 1; rw [Bool.eq_iff_iff]; simp <;> omega)
      case rest =>
        obtain ⟨rfl, rfl⟩ := hcut
        cases hb : azB s[i] with
        | true =>
          have HNX2 := Lib.hid (HNX.out hb)
          clear HNI HNF HNX hall hb
          go_wp2_with fail
          go_roundw
          case rel => exact ⟨i + 1, by go_num, hlt, HNX2.out, by trivial⟩
          case measure => simp [intOf]; omega
        | false =>
          have HNX2 := Lib.hid (stem_no (HNF.out hb))
          clear HNI HNF HNX hall hb
          go_wp2_with fail
          go_ret
          exact ⟨by rw [HNX2.out]; rfl, rfl⟩
    · obtain rfl : i = s.size := by omega
      have hfull : azF s.data.toList = true := by
        rw [List.take_of_length_le (by rw [Array.length_toList]; exact Nat.le_refl _)] at hall
        exact hall
      have hN := stem_az hfull
      have hlen : s.data.toList.length = s.size := by simp
      rw [hlen] at hN
      clear hall hfull hlen
      by_cases h4 : s.size < 4
      · rw [if_pos h4] at hN
        have HN := Lib.hid hN
        have q4 : decide ((s.size : Int) < 4) = true := decide_eq_true (by omega)
        clear hN
        go_wp2_with fail
        go_ret
        exact ⟨by rw [HN.out]; rfl, rfl⟩
      rw [if_neg h4] at hN
      have HN := Lib.hid hN
      clear hN
      have q4 : decide ((s.size : Int) < 4) = false := decide_eq_false (by omega)
      have q4' : ¬ s.size < 4 := h4
      go_wp2_with fail
      refine (HSF.out ⟨#[105, 101, 115]⟩ _).mono ?_
      rintro e w2 ⟨rfl, rfl⟩
      have hN := HN.out
      clear HN
      rw [show sfx [105, 101, 115] s.data.toList = Lib.hasSuffix s.data.toList (⟨#[105, 101, 115]⟩ : ByteArray).data.toList from rfl] at hN
      generalize Lib.hasSuffix s.data.toList (⟨#[105, 101, 115]⟩ : ByteArray).data.toList = b at *
      cases b with
      | true =>
        have HN := Lib.hid (hN.trans (if_pos rfl))
        clear hN
        go_wp2_with fail
        go_ret
        exact ⟨by rw [HN.out]; first | rfl | (rw [← bs_append, ← extract_take]; rfl) | (rw [← extract_take]; rfl), rfl⟩
      | false =>
      have HN := Lib.hid (hN.trans (if_neg (by decide)))
      clear hN
      go_wp2_with fail
      refine (HSF.out ⟨#[115, 115, 101, 115]⟩ _).mono ?_
      rintro e w2 ⟨rfl, rfl⟩
      have hN := HN.out
      clear HN
      rw [show sfx [115, 115, 101, 115] s.data.toList = Lib.hasSuffix s.data.toList (⟨#[115, 115, 101, 115]⟩ : ByteArray).data.toList from rfl] at hN
      generalize Lib.hasSuffix s.data.toList (⟨#[115, 115, 101, 115]⟩ : ByteArray).data.toList = b at *
      cases b with
      | true =>
        have HN := Lib.hid (hN.trans (if_pos rfl))
        clear hN
        go_wp2_with fail
        go_ret
        exact ⟨by rw [HN.out]; first | rfl | (rw [← bs_append, ← extract_take]; rfl) | (rw [← extract_take]; rfl), rfl⟩
      | false =>
      have HN := Lib.hid (hN.trans (if_neg (by decide)))
      clear hN
      go_wp2_with fail
      refine (HSF.out ⟨#[115, 115]⟩ _).mono ?_
      rintro e w2 ⟨rfl, rfl⟩
      have hN := HN.out
      clear HN
      rw [show sfx [115, 115] s.data.toList = Lib.hasSuffix s.data.toList (⟨#[115, 115]⟩ : ByteArray).data.toList from rfl] at hN
      generalize Lib.hasSuffix s.data.toList (⟨#[115, 115]⟩ : ByteArray).data.toList = b at *
      cases b with
      | true =>
        have HN := Lib.hid (hN.trans (if_pos rfl))
        clear hN
        go_wp2_with fail
        go_ret
        exact ⟨by rw [HN.out]; first | rfl | (rw [← bs_append, ← extract_take]; rfl) | (rw [← extract_take]; rfl), rfl⟩
      | false =>
      have HN := Lib.hid (hN.trans (if_neg (by decide)))
      clear hN
      go_wp2_with fail
      refine (HSF.out ⟨#[115]⟩ _).mono ?_
      rintro e w2 ⟨rfl, rfl⟩
      have hN := HN.out
      clear HN
      rw [show sfx [115] s.data.toList = Lib.hasSuffix s.data.toList (⟨#[115]⟩ : ByteArray).data.toList from rfl] at hN
      generalize Lib.hasSuffix s.data.toList (⟨#[115]⟩ : ByteArray).data.toList = b at *
      cases b with
      | true =>
        have HN := Lib.hid (hN.trans (if_pos rfl))
        clear hN
        go_wp2_with fail
        go_ret
        exact ⟨by rw [HN.out]; first | rfl | (rw [← bs_append, ← extract_take]; rfl) | (rw [← extract_take]; rfl), rfl⟩
      | false =>
      have HN := Lib.hid (hN.trans (if_neg (by decide)))
      clear hN
      go_wp2_with fail
      refine (HSF.out ⟨#[105, 110, 103]⟩ _).mono ?_
      rintro e w2 ⟨rfl, rfl⟩
      have hN := HN.out
      clear HN
      rw [show sfx [105, 110, 103] s.data.toList = Lib.hasSuffix s.data.toList (⟨#[105, 110, 103]⟩ : ByteArray).data.toList from rfl] at hN
      generalize Lib.hasSuffix s.data.toList (⟨#[105, 110, 103]⟩ : ByteArray).data.toList = b at *
      by_cases hl6 : b = true ∧ 6 ≤ s.size
      · obtain ⟨rfl, h6⟩ := hl6
        have HN := Lib.hid (hN.trans (if_pos (by simp [h6])))
        have r6 : decide ((6 : Int) ≤ (s.size : Int)) = true := decide_eq_true (by omega)
        clear hN
        go_wp2_with fail
        go_ret
        exact ⟨by rw [HN.out]; first | rfl | (rw [← extract_take]; rfl), rfl⟩
      have HN := Lib.hid (hN.trans (if_neg (fun q => hl6 (by simpa using q))))
      clear hN
      cases b with
      | true =>
        have r6 : decide ((6 : Int) ≤ (s.size : Int)) = false := decide_eq_false (by have : ¬ 6 ≤ s.size := fun q => hl6 ⟨rfl, q⟩; omega)
        clear hl6
        go_wp2_with fail
        refine (HSF.out ⟨#[101, 100]⟩ _).mono ?_
        rintro e w2 ⟨rfl, rfl⟩
        have hN := HN.out
        clear HN
        rw [show sfx [101, 100] s.data.toList = Lib.hasSuffix s.data.toList (⟨#[101, 100]⟩ : ByteArray).data.toList from rfl] at hN
        generalize Lib.hasSuffix s.data.toList (⟨#[101, 100]⟩ : ByteArray).data.toList = b at *
        by_cases hl5 : b = true ∧ 5 ≤ s.size
        · obtain ⟨rfl, h5⟩ := hl5
          have HN := Lib.hid (hN.trans (if_pos (by simp [h5])))
          have r5 : decide ((5 : Int) ≤ (s.size : Int)) = true := decide_eq_true (by omega)
          clear hN
          go_wp2_with fail
          go_ret
          exact ⟨by rw [HN.out]; first | rfl | (rw [← extract_take]; rfl), rfl⟩
        have HN := Lib.hid (hN.trans (if_neg (fun q => hl5 (by simpa using q))))
        clear hN
        cases b with
        | true =>
          have r5 : decide ((5 : Int) ≤ (s.size : Int)) = false := decide_eq_false (by have : ¬ 5 ≤ s.size := fun q => hl5 ⟨rfl, q⟩; omega)
          clear hl5
          go_wp2_with fail
          go_ret
          exact ⟨by rw [HN.out]; rfl, rfl⟩
        | false =>
          clear hl5
          go_wp2_with fail
          go_ret
          exact ⟨by rw [HN.out]; rfl, rfl⟩
      | false =>
        clear hl6
        go_wp2_with fail
        refine (HSF.out ⟨#[101, 100]⟩ _).mono ?_
        rintro e w2 ⟨rfl, rfl⟩
        have hN := HN.out
        clear HN
        rw [show sfx [101, 100] s.data.toList = Lib.hasSuffix s.data.toList (⟨#[101, 100]⟩ : ByteArray).data.toList from rfl] at hN
        generalize Lib.hasSuffix s.data.toList (⟨#[101, 100]⟩ : ByteArray).data.toList = b at *
        by_cases hl5 : b = true ∧ 5 ≤ s.size
        · obtain ⟨rfl, h5⟩ := hl5
          have HN := Lib.hid (hN.trans (if_pos (by simp [h5])))
          have r5 : decide ((5 : Int) ≤ (s.size : Int)) = true := decide_eq_true (by omega)
          clear hN
          go_wp2_with fail
          go_ret
          exact ⟨by rw [HN.out]; first | rfl | (rw [← extract_take]; rfl), rfl⟩
        have HN := Lib.hid (hN.trans (if_neg (fun q => hl5 (by simpa using q))))
        clear hN
        cases b with
        | true =>
          have r5 : decide ((5 : Int) ≤ (s.size : Int)) = false := decide_eq_false (by have : ¬ 5 ≤ s.size := fun q => hl5 ⟨rfl, q⟩; omega)
          clear hl5
          go_wp2_with fail
          go_ret
          exact ⟨by rw [HN.out]; rfl, rfl⟩
        | false =>
          clear hl5
          go_wp2_with fail
          go_ret
          exact ⟨by rw [HN.out]; rfl, rfl⟩
end Go.Proofs.Ytfjcbclakgidkaa
