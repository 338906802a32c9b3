/- The walks of level.check at one clock, with the closures that it searches by, and of level.inPiece. -/
import Derived.Test.YtjiikjkiaemaiaaGreatDoorClkA
namespace Go.Proofs.YtjiikjkiaemaiaaGreatDoor
open Go.RowKit

set_option maxRecDepth 100000 in
theorem chk1_any (x : Pc) (V n : Nat) (ca : Option Addr) (cc : Nat) (w : World) (hV : Has w V #[.slice ca n cc] 25) :
    Calls Tryz.prog 20 #[.agg #[.int .i64 x.1, .int .i64 x.2.1, .int .i64 x.2.2], .pointer (some ⟨V, 0, none⟩)] w fun e w' => e = .returned (.bool (decide ((n : Int) ≤ x.2.2))) ∧ Below w.heap.size w w' := by
  obtain ⟨x1, x2, x3⟩ := x
  obtain ⟨bx, bbl⟩ := box1 w #[.int .i64 x1, .int .i64 x2, .int .i64 x3] 50
  have k0 := bx.cell 2
  have k1 := (hV.below bbl hV.lt).cell 0
  have HB := Lib.hid bbl
  clear bx bbl hV
  go_enter Tryz.func20, Tryz.ntmps20
  go_upto_region 1 with fail
  generalize w.alloc (.cells #[.int .i64 x1, .int .i64 x2, .int .i64 x3] 50) = wb at *
  go_wp2_with fail
  go_ret
  exact ⟨rfl, HB.out⟩
set_option maxRecDepth 100000 in
set_option maxHeartbeats 2000000 in
theorem idx1_any (v : Value) (ps : List Pc) (V n : Nat) (ca : Option Addr) (cc : Nat) (w : World) (h : Shifts w v ps) (hV : Has w V #[.slice ca n cc] 25) (hl : ps.length ≤ 6000) :
    Calls Tryz.prog 38 #[v, .func (.func 20) #[] #[.pointer (some ⟨V, 0, none⟩)]] w fun e w' => (∃ k : Int, e = .returned (.int .i64 k) ∧ (decide (0 ≤ k) = false ↔ ∀ p ∈ ps, p.2.2 < (n : Int))) ∧ Below w.heap.size w w' := by
  obtain ⟨a, cap, rfl⟩ := SliceAt.len h
  have H := Lib.hid h
  have HV := Lib.hid hV
  clear h hV
  go_enter Tryz.func38, Tryz.ntmps38
  go_wp2_with fail
  go_loopw [8] (fun iv wr => ∃ i : Nat, iv = .int .i64 ((i : Nat) : Int) ∧ i ≤ ps.length ∧ (∀ p ∈ ps.take i, p.2.2 < (n : Int)) ∧ Below w.heap.size w wr) (fun iv _ => ps.length - (intOf iv).toNat)
  case atStart => exact ⟨0, rfl, Nat.zero_le _, by rw [List.take_zero]; exact (fun p hp => by cases hp), Below.refl _ _⟩
  case round =>
    obtain ⟨i, rfl, hi, hall, hB⟩ := hrel
    have HA := Lib.hid hall
    have HB := Lib.hid hB
    clear hall hB
    by_cases hlt : i < ps.length
    · obtain ⟨b, of', cap', hv, hb, hel⟩ := Shifts.at H.out (by omega)
      cases hv
      obtain ⟨e0, e1, e2⟩ := hel i hlt
      have c0 := (below_cell HB.out hb).trans e0
      have c1 := (below_cell HB.out hb).trans e1
      have c2 := (below_cell HB.out hb).trans e2
      have HM := Lib.hid (List.getElem_mem hlt)
      have HT := Lib.hid (List.take_succ_eq_append_getElem hlt)
      generalize ps[i] = s at *
      obtain ⟨x1, x2, x3⟩ := s
      simp only at c0 c1 c2
      have HCL := Lib.hid (chk1_any (x1, x2, x3) V n ca cc wr (HV.out.below HB.out HV.out.lt))
      simp only at HCL
      clear e0 e1 e2 hel
      go_wp2_with fail
      refine HCL.out.mono ?_
      rintro e w3 ⟨rfl, hb3⟩
      have HB3 := Lib.hid (below_up HB.out hb3 HB.out.size)
      clear hb3 HCL c0 c1 c2
      by_cases hx : (n : Int) ≤ x3
      · have q : decide ((n : Int) ≤ x3) = true := decide_eq_true hx
        have HX := Lib.hid hx
        clear hx
        go_wp2_with fail
        go_ret
        exact ⟨⟨_, rfl, ⟨fun g => absurd g (by simp), fun g => absurd (g _ HM.out) (by have := HX.out; simp only; omega)⟩⟩, HB3.out⟩
      · have q : decide ((n : Int) ≤ x3) = false := decide_eq_false hx
        have HX := Lib.hid (show x3 < (n : Int) by omega)
        clear hx
        go_wp2_with fail
        go_roundw
        case rel => exact ⟨i + 1, by go_num, hlt, (by
          rw [HT.out]
          intro p hp
          rcases List.mem_append.1 hp with g | g
          · exact HA.out p g
          · rw [List.mem_singleton.1 g]; exact HX.out), HB3.out⟩
        case measure => simp [intOf]; omega
    · obtain rfl : i = ps.length := by omega
      have hf := HA.out
      rw [List.take_length] at hf
      have HF := Lib.hid hf
      clear hf
      go_wp2_with fail
      go_ret
      exact ⟨⟨_, rfl, ⟨fun _ => HF.out, fun _ => by decide⟩⟩, HB.out⟩
theorem cf1_any (v : Value) (ps : List Pc) (V n : Nat) (ca : Option Addr) (cc : Nat) (w : World) (h : Shifts w v ps) (hV : Has w V #[.slice ca n cc] 25) (hl : ps.length ≤ 6000) :
    Calls Tryz.prog 19 #[v, .func (.func 20) #[] #[.pointer (some ⟨V, 0, none⟩)]] w fun e w' => (∃ b, e = .returned (.bool b) ∧ (b = false ↔ ∀ p ∈ ps, p.2.2 < (n : Int))) ∧ Below w.heap.size w w' := by
  go_enter Tryz.func19, Tryz.ntmps19
  go_wp2_with fail
  refine (idx1_any v ps V n ca cc w h hV hl).mono ?_
  rintro e w3 ⟨⟨k, rfl, hk⟩, hb3⟩
  have HK := Lib.hid hk
  have HB := Lib.hid hb3
  clear hk hb3
  go_wp2_with fail
  go_ret
  exact ⟨⟨_, rfl, HK.out⟩, HB.out⟩
end Go.Proofs.YtjiikjkiaemaiaaGreatDoor
