/- The walks of cal's zones: CheckZone, OffsetAt before time begins, Local. -/
import Derived.Test.YtllcgcnebofdoaaGreatDoorZone
namespace Go.Proofs.YtllcgcnebofdoaaGreatDoor
open Go.RowKit

structure CzInv (off : Int) (cs : List (Int × Int)) (w wr : World) (i : Nat) (at_ o : Int) : Prop where
  le : i ≤ cs.length
  eq : zgo at_ o (cs.drop i) = zgo 0 off cs
  below : Below w.heap.size w wr

set_option maxRecDepth 100000 in
set_option maxHeartbeats 4000000 in
theorem CheckZone_any (off : Int) (v : Value) (cs : List (Int × Int)) (w : World) (h : Changes w v cs) :
    Calls Tryz.prog 30 #[.agg #[.int .i64 off, v]] w fun e w' => e = .returned (.int .i64 (zcode off cs)) ∧ Below w.heap.size w w' := by
  obtain ⟨a, cap, rfl⟩ := SliceAt.len h
  have H := Lib.hid h
  clear h
  have hbx := box1 w #[.int .i64 off, .slice a cs.length cap] 50
  obtain ⟨r, hr⟩ : ∃ r, r = zcode off cs := ⟨_, rfl⟩
  rw [← hr]
  have HR := Lib.hid hr
  clear hr
  go_enter Tryz.func30, Tryz.ntmps30
  go_upto_region 1 with fail
  generalize w.alloc (.cells #[.int .i64 off, .slice a cs.length cap] 50) = w2 at *
  obtain ⟨hx, hbl⟩ := hbx
  have k0 := hx.cell 0
  have k1 := hx.cell 1
  have HB2 := Lib.hid hbl
  clear hx hbl
  by_cases h1 : -1440 ≤ off ∧ off ≤ 1440
  · have hb1 : (decide (-1440 ≤ off) && decide (off ≤ 1440)) = true := by simpa using h1
    have e1 : zcode off cs = if 60 < cs.length then 4 else zgo 0 off cs := by unfold zcode; rw [if_neg (fun g => g h1)]
    clear h1
    by_cases h2 : 60 < cs.length
    · have hb2 : decide ((60 : Int) < (cs.length : Int)) = true := by simp; omega
      rw [if_pos h2] at e1
      have E1 := Lib.hid e1
      clear e1
      go_wp2_with fail
      refine (within_any _ _ _ _).mono ?_
      rintro e w' ⟨rfl, rfl⟩
      rw [hb1]
      go_wp2_with fail
      go_ret
      exact ⟨ret_int (by rw [HR.out, E1.out]), HB2.out⟩
    · have hb2 : decide ((60 : Int) < (cs.length : Int)) = false := by simp; omega
      rw [if_neg h2] at e1
      have E1 := Lib.hid e1
      clear e1
      go_wp2_with fail
      refine (within_any _ _ _ _).mono ?_
      rintro e w' ⟨rfl, rfl⟩
      rw [hb1]
      go_wp2_with fail
      go_quiet (fail)
      go_wp2_with fail
      have hb3 := drewN_below HB2.out nq
      generalize w2.drewN nq = w3 at *
      have HB3 := Lib.hid hb3
      clear hb3 k0 k1
      go_loopw [3, 4, 6, 20] (fun av ov _ iv wr => ∃ (i : Nat) (at_ o : Int), iv = .int .i64 i ∧ av = .int .i64 at_ ∧ ov = .int .i64 o ∧ CzInv off cs w wr i at_ o) (fun _ _ _ iv _ => cs.length - (intOf iv).toNat)
      case atStart => exact ⟨0, 0, off, rfl, rfl, rfl, Nat.zero_le _, rfl, HB3.out⟩
      case round =>
        obtain ⟨i, at_, o, rfl, rfl, rfl, hI⟩ := hrel
        have HI := Lib.hid hI
        have hi := hI.le
        clear hI
        by_cases hlt : i < cs.length
        · obtain ⟨b, of', cap', hv, hb, hel⟩ := H.out.at (by omega)
          cases hv
          obtain ⟨e0, e1⟩ := hel i hlt
          have c0 := (below_cell HI.out.below hb).trans e0
          have c1 := (below_cell HI.out.below hb).trans e1
          have hd : cs.drop i = cs[i] :: cs.drop (i + 1) := List.drop_eq_getElem_cons hlt
          have he := HI.out.eq
          rw [hd] at he
          generalize cs[i] = x at *
          obtain ⟨ca, co⟩ := x
          simp only [zgo] at he
          simp only at c0 c1
          have HE := Lib.hid he
          clear hel e0 e1 hd he
          go_upto_region 9 with fail
          obtain ⟨bx, bb⟩ := box1 wr #[.int .i64 ca, .int .i64 co] 129
          have HB4 := Lib.hid (below_up HI.out.below bb HI.out.below.size)
          have k0 := bx.cell 0
          have k1 := bx.cell 1
          generalize wr.alloc (.cells #[.int .i64 ca, .int .i64 co] 129) = wb at *
          generalize wr.heap.size = B at *
          clear bx bb c0 c1
          by_cases g1 : 1 ≤ ca ∧ ca ≤ 3000000
          · have d1 : (decide (1 ≤ ca) && decide (ca ≤ 3000000)) = true := by simpa using g1
            by_cases g2 : -1440 ≤ co ∧ co ≤ 1440
            · have d2 : (decide (-1440 ≤ co) && decide (co ≤ 1440)) = true := by simpa using g2
              have he := HE.out
              rw [if_neg (fun g => g.elim (fun q => q g1) (fun q => q g2))] at he
              clear g1 g2
              by_cases g3 : ca ≤ at_
              · have d3 : decide (ca ≤ at_) = true := by simpa using g3
                rw [if_pos g3] at he
                have HE2 := Lib.hid he
                clear he g3
                go_wp2_with fail
                refine (within_any _ _ _ _).mono ?_
                rintro e w' ⟨rfl, rfl⟩
                rw [d1]
                go_wp2_with fail
                refine (within_any _ _ _ _).mono ?_
                rintro e w' ⟨rfl, rfl⟩
                rw [d2]
                go_wp2_with fail
                go_ret
                exact ⟨ret_int (by rw [HR.out, E1.out, ← HE2.out]), HB4.out⟩
              · have d3 : decide (ca ≤ at_) = false := by simpa using g3
                rw [if_neg g3] at he
                clear g3
                by_cases g4 : co = o
                · have d4 : (co == o) = true := by simpa using g4
                  rw [if_pos g4] at he
                  have HE2 := Lib.hid he
                  clear he g4
                  go_wp2_with fail
                  refine (within_any _ _ _ _).mono ?_
                  rintro e w' ⟨rfl, rfl⟩
                  rw [d1]
                  go_wp2_with fail
                  refine (within_any _ _ _ _).mono ?_
                  rintro e w' ⟨rfl, rfl⟩
                  rw [d2]
                  go_wp2_with fail
                  go_ret
                  exact ⟨ret_int (by rw [HR.out, E1.out, ← HE2.out]), HB4.out⟩
                · have d4 : (co == o) = false := by simpa using g4
                  rw [if_neg g4] at he
                  have HE2 := Lib.hid he
                  clear he g4
                  go_wp2_with fail
                  refine (within_any _ _ _ _).mono ?_
                  rintro e w' ⟨rfl, rfl⟩
                  rw [d1]
                  go_wp2_with fail
                  refine (within_any _ _ _ _).mono ?_
                  rintro e w' ⟨rfl, rfl⟩
                  rw [d2]
                  go_wp2_with fail
                  go_quiet (fail)
                  go_wp2_with fail
                  go_roundw
                  case rel => exact ⟨i + 1, _, _, by go_num, rfl, rfl, by omega, HE2.out, drewN_below HB4.out _⟩
                  case measure => simp [intOf]; omega
            · have d2 : (decide (-1440 ≤ co) && decide (co ≤ 1440)) = false := by simpa using g2
              have he := HE.out
              rw [if_pos (.inr g2)] at he
              have HE2 := Lib.hid he
              clear he g1 g2
              go_wp2_with fail
              refine (within_any _ _ _ _).mono ?_
              rintro e w' ⟨rfl, rfl⟩
              rw [d1]
              go_wp2_with fail
              refine (within_any _ _ _ _).mono ?_
              rintro e w' ⟨rfl, rfl⟩
              rw [d2]
              go_wp2_with fail
              go_ret
              exact ⟨ret_int (by rw [HR.out, E1.out, ← HE2.out]), HB4.out⟩
          · have d1 : (decide (1 ≤ ca) && decide (ca ≤ 3000000)) = false := by simpa using g1
            have he := HE.out
            rw [if_pos (.inl g1)] at he
            have HE2 := Lib.hid he
            clear he g1
            go_wp2_with fail
            refine (within_any _ _ _ _).mono ?_
            rintro e w' ⟨rfl, rfl⟩
            rw [d1]
            go_wp2_with fail
            go_ret
            exact ⟨ret_int (by rw [HR.out, E1.out, ← HE2.out]), HB4.out⟩
        · obtain rfl : i = cs.length := by omega
          have he := HI.out.eq
          rw [List.drop_length] at he
          have HE2 := Lib.hid he
          clear he
          go_wp2_with fail
          go_ret
          exact ⟨ret_int (by rw [HR.out, E1.out, ← HE2.out]; rfl), HI.out.below⟩
  · have hb1 : (decide (-1440 ≤ off) && decide (off ≤ 1440)) = false := by simpa using h1
    have E1 := Lib.hid (show zcode off cs = 2 by unfold zcode; rw [if_pos h1])
    clear h1
    go_wp2_with fail
    refine (within_any _ _ _ _).mono ?_
    rintro e w' ⟨rfl, rfl⟩
    rw [hb1]
    go_wp2_with fail
    go_ret
    exact ⟨ret_int (by rw [HR.out, E1.out]), HB2.out⟩

end Go.Proofs.YtllcgcnebofdoaaGreatDoor
