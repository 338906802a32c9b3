/- The walks of level's checks of a policy: within, name, checkTest. -/
import Derived.Test.YtllcgcnebofdoaaGreatDoorQCkEach
import Derived.Test.YtllcgcnebofdoaaGreatDoorQCkSt
import Derived.Test.YtllcgcnebofdoaaGreatDoorQClkA
namespace Go.Proofs.YtllcgcnebofdoaaGreatDoor
open Go.RowKit

theorem nm_false {s : ByteArray} {i : Nat} (hi : i < s.size) (h : nmB s[i] = false) : nm s = false := by
  have hm : s[i] ∈ s.data.toList := by
    have : s[i] = s.data.toList[i]'(by rw [Array.length_toList]; exact hi) := rfl
    rw [this]
    exact List.getElem_mem _
  have ha : s.data.toList.all nmB = false := by
    rw [List.all_eq_false]
    exact ⟨_, hm, by rw [h]; decide⟩
  unfold nm
  rw [ha]
  rfl
theorem all_next {f : UInt8 → Bool} {s : ByteArray} {i : Nat} (hi : i < s.size) (h : (s.data.toList.take i).all f = true) (hx : f s[i] = true) : (s.data.toList.take (i + 1)).all f = true := by
  have hl : i < s.data.toList.length := by rw [Array.length_toList]; exact hi
  have e : s[i] = s.data.toList[i]'hl := rfl
  rw [List.take_succ_eq_append_getElem hl, List.all_append, h, ← e, List.all_cons, hx]
  rfl
theorem nmB_int (c : UInt8) : nmB c = ((decide ((97 : Int) ≤ (c.toNat : Int)) && decide ((c.toNat : Int) ≤ 122)) || (decide ((48 : Int) ≤ (c.toNat : Int)) && decide ((c.toNat : Int) ≤ 57)) || decide ((c.toNat : Int) = 95)) := by
  unfold nmB
  congr 1
  · congr 1
    · congr 1
      · exact decide_eq_decide.2 (by omega)
      · exact decide_eq_decide.2 (by omega)
    · congr 1
      · exact decide_eq_decide.2 (by omega)
      · exact decide_eq_decide.2 (by omega)
  · exact decide_eq_decide.2 (by omega)
theorem txB_int (c : UInt8) : txB c = (decide ((32 : Int) ≤ (c.toNat : Int)) && !decide ((c.toNat : Int) = 127)) := by
  unfold txB
  congr 1
  · exact decide_eq_decide.2 (by omega)
  · congr 1
    exact decide_eq_decide.2 (by omega)
theorem empty_size {s : ByteArray} : (s.toList.isEmpty = true) ↔ s.size = 0 := by
  rw [ByteArray.toList_eq, List.isEmpty_iff]
  constructor
  · intro hz
    have := congrArg List.length hz
    rw [Array.length_toList] at this
    exact this
  · intro h
    exact List.eq_nil_of_length_eq_zero (by rw [Array.length_toList]; exact h)

set_option maxRecDepth 100000 in
set_option maxHeartbeats 2000000 in
theorem name_any (s : ByteArray) (hs : s.size ≤ 9223372036854775807) (w : World) :
    Calls Tryz.prog 41 #[.string s] w fun e w' => e = .returned (.bool (nm s)) ∧ w = w' := by
  go_enter Tryz.func41, Tryz.ntmps41
  go_wp2_with fail
  go_loopw [7] (fun iv wr => ∃ i : Nat, iv = .int .i64 ((i : Nat) : Int) ∧ i ≤ s.size ∧ (s.data.toList.take i).all nmB = true ∧ wr = w) (fun iv _ => s.size - (intOf iv).toNat)
  case atStart => exact ⟨0, rfl, Nat.zero_le _, rfl, rfl⟩
  case round =>
    obtain ⟨i, rfl, hi, hall, rfl⟩ := hrel
    by_cases hlt : i < s.size
    · have HNF := Lib.hid (fun h => nm_false (s := s) hlt h)
      have HNX := Lib.hid (fun h => all_next hlt hall h)
      go_upto_region 5 with fail
      have HNI := Lib.hid (nmB_int s[i])
      generalize s[i] = c at *
      have hc0 : 0 ≤ (c.toNat : Int) := by omega
      generalize (c.toNat : Int) = n at *
      go_cut [32] (fun v wx => v = .bool (!nmB c) ∧ wx = wr)
      case first =>
        clear HNF HNX hall
        go_wp2_with fail
        all_goals go_meet
        all_goals (refine ⟨?_, rfl⟩; rw [HNI.out]; congr 1; rw [Bool.eq_iff_iff]; simp; omega)
      case rest =>
        obtain ⟨rfl, rfl⟩ := hcut
        cases hb : nmB c with
        | true =>
          have HNX2 := Lib.hid (HNX.out hb)
          clear HNI HNF HNX hall hb
          go_wp2_with fail
          go_roundw
          case rel => exact ⟨i + 1, by go_num, hlt, HNX2.out, by trivial⟩
          case measure => simp [intOf]; omega
        | false =>
          have HNX2 := Lib.hid (HNF.out hb)
          clear HNI HNF HNX hall hb
          go_wp2_with fail
          go_ret
          exact ⟨by rw [HNX2.out]; rfl, rfl⟩
    · obtain rfl : i = s.size := by omega
      have hfull : s.data.toList.all nmB = true := by
        rw [List.take_of_length_le (by rw [Array.length_toList]; exact Nat.le_refl _)] at hall
        exact hall
      have HN := Lib.hid (show nm s = (decide (s.size ≠ 0) && decide (s.size ≤ 20)) by unfold nm; rw [hfull]; rfl)
      clear hall hfull
      cases hz : s.toList.isEmpty with
      | true =>
        have h0 := empty_size.1 hz
        go_wp2_with fail
        go_ret
        exact ⟨by rw [HN.out, h0]; rfl, rfl⟩
      | false =>
        have H0 := Lib.hid (show s.size ≠ 0 from fun h => by rw [empty_size.2 h] at hz; cases hz)
        go_wp2_with fail
        go_ret
        exact ⟨by rw [HN.out, decide_eq_true H0.out]; simp; omega, rfl⟩

/-- a value's number in the range of its kind -/
def kindB (k n : Int) : Bool :=
  if k = 1 then decide (0 ≤ n) && decide (n ≤ 1) else if k = 4 then decide (0 ≤ n) && decide (n ≤ 19) else if k = 5 then decide (0 ≤ n) && decide (n ≤ 3000000) else if k = 6 then decide (1 ≤ n) && decide (n ≤ 40) else true
theorem kindB_iff (k n : Int) : kindB k n = true ↔ kindOk k n := by
  unfold kindB kindOk
  by_cases h1 : k = 1
  · subst h1; simp
  by_cases h4 : k = 4
  · subst h4; simp
  by_cases h5 : k = 5
  · subst h5; simp
  by_cases h6 : k = 6
  · subst h6; simp
  simp [h1, h4, h5, h6]

set_option maxRecDepth 100000 in
set_option maxHeartbeats 8000000 in
theorem checkTest_any (t : TstD) (before : Int) (w : World) (hs : t.text.size ≤ 9223372036854775807) :
    Calls Tryz.prog 74 #[.agg #[.int .i64 t.fld, .int .i64 t.kind, .int .i64 t.num, .string t.text], .int .i64 before] w fun e w' => (∃ k, e = .returned (.int .i64 k) ∧ (k = 0 ↔ TstOne t ∧ before < t.fld)) ∧ Below w.heap.size w w' := by
  have HF1 := Lib.hid (show TstOne t → -1 ≤ t.fld ∧ t.fld ≤ 19 from fun g => g.fld)
  have HF2 := Lib.hid (show TstOne t → (0 ≤ t.kind ∧ t.kind ≤ 6) ∧ (t.fld = -1 → t.kind = 2) from fun g => g.kind)
  have HF3 := Lib.hid (show TstOne t → (t.num = 0 ∨ ¬ (t.kind = 0 ∨ t.kind = 3)) ∧ (t.text.size = 0 ∨ t.kind = 3) from fun g => g.form)
  have HF4 := Lib.hid (show TstOne t → kindB t.kind t.num = true from fun g => (kindB_iff _ _).2 g.range)
  have HF5 := Lib.hid (show TstOne t → t.text.size ≤ 200 from fun g => g.short)
  have HF6 := Lib.hid (show TstOne t → t.text.data.toList.all txB = true from fun g => g.bytes)
  have HMK := Lib.hid (show -1 ≤ t.fld ∧ t.fld ≤ 19 → (0 ≤ t.kind ∧ t.kind ≤ 6) ∧ (t.fld = -1 → t.kind = 2) → (t.num = 0 ∨ ¬ (t.kind = 0 ∨ t.kind = 3)) ∧ (t.text.size = 0 ∨ t.kind = 3) → kindB t.kind t.num = true → t.text.size ≤ 200 → t.text.data.toList.all txB = true → TstOne t from fun a b c d e f => ⟨a, b, c, (kindB_iff _ _).1 d, e, f⟩)
  generalize TstOne t = T at *
  obtain ⟨fld, kind, num, text⟩ := t
  simp only at *
  have hbx := box1 w #[.int .i64 fld, .int .i64 kind, .int .i64 num, .string text] 144
  have HX := Lib.hid hbx.1
  have HB := Lib.hid hbx.2
  clear hbx
  go_enter Tryz.func74, Tryz.ntmps74
  go_upto_region 1 with fail
  generalize w.alloc (.cells #[.int .i64 fld, .int .i64 kind, .int .i64 num, .string text] 144) = w2 at *
  have k0 := HX.out.cell 0
  have k1 := HX.out.cell 1
  have k2 := HX.out.cell 2
  have k3 := HX.out.cell 3
  obtain ⟨b1, hb1⟩ : ∃ b, (decide ((-1 : Int) ≤ fld) && decide (fld ≤ 19)) = b := ⟨_, rfl⟩
  have HB1 := Lib.hid (show b1 = true ↔ (-1 ≤ fld ∧ fld ≤ 19) by rw [← hb1]; simp)
  cases b1 with
  | false =>
    clear HF2 HF3 HF4 HF5 HF6 HMK
    go_wp2_with (go_at_call 27; refine (lwithin_any _ _ _ _).mono ?_; rw [hb1]; rintro e w' ⟨rfl, rfl⟩)
    go_ret
    exact ⟨⟨_, rfl, ⟨fun g => absurd g (by decide), fun g => absurd (HB1.out.2 (HF1.out g.1)) (by decide)⟩⟩, HB.out⟩
  | true =>
    have HV1 := Lib.hid (HB1.out.1 rfl)
    clear HB1
    by_cases hbe : fld ≤ before
    · have q : decide (fld ≤ before) = true := decide_eq_true hbe
      have HBE := Lib.hid hbe
      clear hbe
      clear HF2 HF3 HF4 HF5 HF6 HMK
      go_wp2_with (go_at_call 27; refine (lwithin_any _ _ _ _).mono ?_; rw [hb1]; rintro e w' ⟨rfl, rfl⟩)
      go_ret
      exact ⟨⟨_, rfl, ⟨fun g => absurd g (by decide), fun g => absurd g.2 (by have := HBE.out; omega)⟩⟩, HB.out⟩
    · have q : decide (fld ≤ before) = false := decide_eq_false hbe
      have HBE := Lib.hid (show before < fld by omega)
      clear hbe
      go_upto_region 6 with (go_at_call 27; refine (lwithin_any _ _ _ _).mono ?_; rw [hb1]; rintro e w' ⟨rfl, rfl⟩)
      obtain ⟨bx, bbl⟩ := box1 w2 #[.int .i64 kind, .int .i64 num, .string text] 142
      have HX2 := Lib.hid (HX.out.below bbl HX.out.lt)
      have HP := Lib.hid bx
      have HB2 := Lib.hid (below_up HB.out bbl HB.out.size)
      clear bx bbl k0 k1 k2 k3 hb1 q HX HB HF1
      generalize w2.alloc (.cells #[.int .i64 kind, .int .i64 num, .string text] 142) = w3 at *
      generalize w2.heap.size = D at *
      have k0 := HX2.out.cell 0
      have m0 := HP.out.cell 0
      have m1 := HP.out.cell 1
      have m2 := HP.out.cell 2
      obtain ⟨b2, hb2⟩ : ∃ b, (decide ((0 : Int) ≤ kind) && decide (kind ≤ 6)) = b := ⟨_, rfl⟩
      obtain ⟨s1, hs1⟩ : ∃ b, (fld == -1) = b := ⟨_, rfl⟩
      obtain ⟨s2, hs2⟩ : ∃ b, (kind == 2) = b := ⟨_, rfl⟩
      have hs2' : (kind != 2) = !s2 := by rw [← hs2]; rfl
      have HG2 := Lib.hid (show (!b2 || (s1 && !s2)) = false ↔ ((0 ≤ kind ∧ kind ≤ 6) ∧ (fld = -1 → kind = 2)) by
        rw [← hb2, ← hs1, ← hs2]
        by_cases e1 : 0 ≤ kind <;> by_cases e2 : kind ≤ 6 <;> by_cases e3 : fld = -1 <;> by_cases e4 : kind = 2 <;> simp [e1, e2, e3, e4])
      go_cut [31] (fun v wx => v = .bool (!b2 || (s1 && !s2)) ∧ wx = w3)
      case first =>
        clear HF2 HF3 HF4 HF5 HF6 HMK HG2
        cases b2 with
        | false =>
          go_wp2_with (go_at_call 27; refine (lwithin_any _ _ _ _).mono ?_; rw [hb2]; rintro e w' ⟨rfl, rfl⟩)
          go_meet
          exact ⟨rfl, rfl⟩
        | true =>
          cases s1 with
          | false =>
            go_wp2_with (go_at_call 27; refine (lwithin_any _ _ _ _).mono ?_; rw [hb2]; rintro e w' ⟨rfl, rfl⟩)
            go_meet
            exact ⟨rfl, rfl⟩
          | true =>
            cases s2 with
            | false =>
              go_wp2_with (go_at_call 27; refine (lwithin_any _ _ _ _).mono ?_; rw [hb2]; rintro e w' ⟨rfl, rfl⟩)
              go_meet
              exact ⟨rfl, rfl⟩
            | true =>
              go_wp2_with (go_at_call 27; refine (lwithin_any _ _ _ _).mono ?_; rw [hb2]; rintro e w' ⟨rfl, rfl⟩)
              go_meet
              exact ⟨rfl, rfl⟩
      case rest =>
        obtain ⟨rfl, rfl⟩ := hcut
        clear hs1 hs2 hs2' hb2 k0
        generalize (!b2 || (s1 && !s2)) = c2 at *
        cases c2 with
        | true =>
          clear HF3 HF4 HF5 HF6 HMK
          go_wp2_with fail
          go_ret
          exact ⟨⟨_, rfl, ⟨fun g => absurd g (by decide), fun g => absurd (HG2.out.2 (HF2.out g.1)) (by decide)⟩⟩, HB2.out⟩
        | false =>
          have HV2 := Lib.hid (HG2.out.1 rfl)
          clear HG2 HF2
          obtain ⟨a1, ha1⟩ : ∃ b, (num == 0) = b := ⟨_, rfl⟩
          obtain ⟨a2, ha2⟩ : ∃ b, (kind == 0) = b := ⟨_, rfl⟩
          obtain ⟨a3, ha3⟩ : ∃ b, (kind == 3) = b := ⟨_, rfl⟩
          obtain ⟨em, hem⟩ : ∃ b, text.toList.isEmpty = b := ⟨_, rfl⟩
          have ha1' : (num != 0) = !a1 := by rw [← ha1]; rfl
          have ha3' : (kind != 3) = !a3 := by rw [← ha3]; rfl
          have HG3 := Lib.hid (show ((!a1 && (a2 || a3)) || (!em && !a3)) = false ↔ ((num = 0 ∨ ¬ (kind = 0 ∨ kind = 3)) ∧ (text.size = 0 ∨ kind = 3)) by
            have h1 : a1 = true ↔ num = 0 := by rw [← ha1]; simp
            have h2 : a2 = true ↔ kind = 0 := by rw [← ha2]; simp
            have h3 : a3 = true ↔ kind = 3 := by rw [← ha3]; simp
            have he : em = true ↔ text.size = 0 := by rw [← hem]; exact empty_size
            rw [← h1, ← h2, ← h3, ← he]
            cases a1 <;> cases a2 <;> cases a3 <;> cases em <;> decide)
          go_upto_region 8 with fail
          go_cut [54] (fun v wx => v = .bool ((!a1 && (a2 || a3)) || (!em && !a3)) ∧ wx = wc)
          case first =>
            clear HF3 HF4 HF5 HF6 HMK HG3
            cases a1 with
            | false =>
              cases a2 with
              | false =>
                cases a3 with
                | false =>
                  cases em with
                  | false =>
                    go_wp2_with fail
                    go_meet
                    exact ⟨rfl, rfl⟩
                  | true =>
                    go_wp2_with fail
                    go_meet
                    exact ⟨rfl, rfl⟩
                | true =>
                  cases em with
                  | false =>
                    go_wp2_with fail
                    go_meet
                    exact ⟨rfl, rfl⟩
                  | true =>
                    go_wp2_with fail
                    go_meet
                    exact ⟨rfl, rfl⟩
              | true =>
                cases a3 with
                | false =>
                  cases em with
                  | false =>
                    go_wp2_with fail
                    go_meet
                    exact ⟨rfl, rfl⟩
                  | true =>
                    go_wp2_with fail
                    go_meet
                    exact ⟨rfl, rfl⟩
                | true =>
                  cases em with
                  | false =>
                    go_wp2_with fail
                    go_meet
                    exact ⟨rfl, rfl⟩
                  | true =>
                    go_wp2_with fail
                    go_meet
                    exact ⟨rfl, rfl⟩
            | true =>
              cases a2 with
              | false =>
                cases a3 with
                | false =>
                  cases em with
                  | false =>
                    go_wp2_with fail
                    go_meet
                    exact ⟨rfl, rfl⟩
                  | true =>
                    go_wp2_with fail
                    go_meet
                    exact ⟨rfl, rfl⟩
                | true =>
                  cases em with
                  | false =>
                    go_wp2_with fail
                    go_meet
                    exact ⟨rfl, rfl⟩
                  | true =>
                    go_wp2_with fail
                    go_meet
                    exact ⟨rfl, rfl⟩
              | true =>
                cases a3 with
                | false =>
                  cases em with
                  | false =>
                    go_wp2_with fail
                    go_meet
                    exact ⟨rfl, rfl⟩
                  | true =>
                    go_wp2_with fail
                    go_meet
                    exact ⟨rfl, rfl⟩
                | true =>
                  cases em with
                  | false =>
                    go_wp2_with fail
                    go_meet
                    exact ⟨rfl, rfl⟩
                  | true =>
                    go_wp2_with fail
                    go_meet
                    exact ⟨rfl, rfl⟩
          case rest =>
            obtain ⟨rfl, rfl⟩ := hcut
            clear ha1 ha2 ha3 hem ha1' ha3'
            generalize ((!a1 && (a2 || a3)) || (!em && !a3)) = c3 at *
            cases c3 with
            | true =>
              clear HF4 HF5 HF6 HMK
              go_wp2_with fail
              go_ret
              exact ⟨⟨_, rfl, ⟨fun g => absurd g (by decide), fun g => absurd (HG3.out.2 (HF3.out g.1)) (by decide)⟩⟩, HB2.out⟩
            | false =>
              have HV3 := Lib.hid (HG3.out.1 rfl)
              clear HG3 HF3
              go_upto_block 0 with fail
              go_cut [6] from 57 to 76 (fun v wx => v = .bool (kindB kind num) ∧ wx = wc)
              case first =>
                clear HF4 HF5 HF6 HMK HV2 HV3 HV1
                by_cases e1 : kind = 1
                · subst e1
                  obtain ⟨bb, hbb⟩ : ∃ b, (decide ((0 : Int) ≤ num) && decide (num ≤ 1)) = b := ⟨_, rfl⟩
                  have HK := Lib.hid (show kindB 1 num = bb by rw [← hbb]; rfl)
                  go_wp2_with (go_at_call 27; refine (lwithin_any _ _ _ _).mono ?_; rw [hbb]; rintro e w' ⟨rfl, rfl⟩)
                  go_meet
                  exact ⟨by rw [HK.out], rfl⟩
                have q1 : (kind == 1) = false := by simpa using e1
                by_cases e4 : kind = 4
                · subst e4
                  obtain ⟨bb, hbb⟩ : ∃ b, (decide ((0 : Int) ≤ num) && decide (num ≤ 19)) = b := ⟨_, rfl⟩
                  have HK := Lib.hid (show kindB 4 num = bb by rw [← hbb]; rfl)
                  go_wp2_with (go_at_call 27; refine (lwithin_any _ _ _ _).mono ?_; rw [hbb]; rintro e w' ⟨rfl, rfl⟩)
                  go_meet
                  exact ⟨by rw [HK.out], rfl⟩
                have q4 : (kind == 4) = false := by simpa using e4
                by_cases e5 : kind = 5
                · subst e5
                  obtain ⟨bb, hbb⟩ : ∃ b, (decide ((0 : Int) ≤ num) && decide (num ≤ 3000000)) = b := ⟨_, rfl⟩
                  have HK := Lib.hid (show kindB 5 num = bb by rw [← hbb]; rfl)
                  go_wp2_with (go_at_call 27; refine (lwithin_any _ _ _ _).mono ?_; rw [hbb]; rintro e w' ⟨rfl, rfl⟩)
                  go_meet
                  exact ⟨by rw [HK.out], rfl⟩
                have q5 : (kind == 5) = false := by simpa using e5
                by_cases e6 : kind = 6
                · subst e6
                  obtain ⟨bb, hbb⟩ : ∃ b, (decide ((1 : Int) ≤ num) && decide (num ≤ 40)) = b := ⟨_, rfl⟩
                  have HK := Lib.hid (show kindB 6 num = bb by rw [← hbb]; rfl)
                  go_wp2_with (go_at_call 27; refine (lwithin_any _ _ _ _).mono ?_; rw [hbb]; rintro e w' ⟨rfl, rfl⟩)
                  go_meet
                  exact ⟨by rw [HK.out], rfl⟩
                have q6 : (kind == 6) = false := by simpa using e6
                have HK := Lib.hid (show kindB kind num = true by unfold kindB; rw [if_neg e1, if_neg e4, if_neg e5, if_neg e6])
                clear e1 e4 e5 e6
                go_wp2_with fail
                go_meet
                exact ⟨by rw [HK.out], rfl⟩
              case rest =>
                obtain ⟨rfl, rfl⟩ := hcut
                generalize kindB kind num = kb at *
                cases kb with
                | false =>
                  clear HF5 HF6 HMK
                  go_wp2_with fail
                  go_ret
                  exact ⟨⟨_, rfl, ⟨fun g => absurd g (by decide), fun g => absurd (HF4.out g.1) (by decide)⟩⟩, HB2.out⟩
                | true =>
                  by_cases hsz : 200 < text.size
                  · have q : decide ((200 : Int) < (text.size : Int)) = true := decide_eq_true (by omega)
                    have HSZ := Lib.hid hsz
                    clear hsz HF4 HF6 HMK
                    go_wp2_with fail
                    go_ret
                    exact ⟨⟨_, rfl, ⟨fun g => absurd g (by decide), fun g => absurd (HF5.out g.1) (by have := HSZ.out; omega)⟩⟩, HB2.out⟩
                  · have q : decide ((200 : Int) < (text.size : Int)) = false := decide_eq_false (by omega)
                    have hsz2 : text.size ≤ 200 := by omega
                    have HMK2 := Lib.hid (fun h => HMK.out HV1.out HV2.out HV3.out rfl hsz2 h)
                    clear HF4 HF5 HMK HV1 HV2 HV3 hsz
                    go_wp2_with fail
                    go_loopw [86] (fun iv wr => ∃ i : Nat, iv = .int .i64 ((i : Nat) : Int) ∧ i ≤ text.size ∧ (text.data.toList.take i).all txB = true ∧ wr = wc) (fun iv _ => text.size - (intOf iv).toNat)
                    case atStart => exact ⟨0, rfl, Nat.zero_le _, rfl, rfl⟩
                    case round =>
                      obtain ⟨i, rfl, hi, hall, rfl⟩ := hrel
                      by_cases hlt : i < text.size
                      · have HNX := Lib.hid (fun h => all_next (f := txB) hlt hall h)
                        have HNF := Lib.hid (show txB text[i] = false → ¬ text.data.toList.all txB = true from fun h g => by
                          have hm : text[i] ∈ text.data.toList := by
                            have : text[i] = text.data.toList[i]'(by rw [Array.length_toList]; exact hlt) := rfl
                            rw [this]
                            exact List.getElem_mem _
                          rw [List.all_eq_true] at g
                          have := g _ hm
                          rw [h] at this
                          cases this)
                        go_upto_region 27 with fail
                        obtain ⟨c, hc⟩ : ∃ c, text[i] = c := ⟨_, rfl⟩
                        rw [hc] at HNX HNF
                        have HNI := Lib.hid (txB_int c)
                        go_cut [100] (fun v wx => v = .bool (!txB c) ∧ wx = wr)
                        case first =>
                          clear HNF HNX hall HMK2 HF6
                          go_wp2_with fail
                          all_goals go_meet
                          all_goals (refine ⟨?_, rfl⟩; rw [HNI.out]; congr 1; rw [Bool.eq_iff_iff]; first | (simp; done) | (simp; omega))
                        case rest =>
                          obtain ⟨rfl, rfl⟩ := hcut
                          cases hb : txB c with
                          | true =>
                            have HNX2 := Lib.hid (HNX.out hb)
                            clear HNI HNF HNX hall hb
                            go_wp2_with fail
                            go_roundw
                            case rel => exact ⟨i + 1, by go_num, hlt, HNX2.out, by trivial⟩
                            case measure => simp [intOf]; omega
                          | false =>
                            have HNX2 := Lib.hid (HNF.out hb)
                            clear HNI HNF HNX hall hb
                            go_wp2_with fail
                            go_ret
                            exact ⟨⟨_, rfl, ⟨fun g => absurd g (by decide), fun g => absurd (HF6.out g.1) HNX2.out⟩⟩, HB2.out⟩
                      · obtain rfl : i = text.size := by omega
                        have hfull : text.data.toList.all txB = true := by
                          rw [List.take_of_length_le (by rw [Array.length_toList]; exact Nat.le_refl _)] at hall
                          exact hall
                        have HT := Lib.hid (HMK2.out hfull)
                        clear hall hfull HMK2 HF6
                        go_wp2_with fail
                        go_ret
                        exact ⟨⟨_, rfl, ⟨fun _ => ⟨HT.out, HBE.out⟩, fun _ => rfl⟩⟩, HB2.out⟩
end Go.Proofs.YtllcgcnebofdoaaGreatDoor
