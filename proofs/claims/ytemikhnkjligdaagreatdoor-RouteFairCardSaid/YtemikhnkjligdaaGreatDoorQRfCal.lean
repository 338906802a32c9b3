/- The walk of route.checkCals. -/
import Derived.Test.YtemikhnkjligdaaGreatDoorQRfBase
import Derived.Test.YtemikhnkjligdaaGreatDoorQRfStp
namespace Go.Proofs.YtemikhnkjligdaaGreatDoor
open Go.RowKit

structure ClFine (ps : List PerD) (cs : List CalD) : Prop where
  few : cs.length ≤ 20
  each : ∀ c ∈ cs, CkFine c
  has : ∀ p ∈ ps, p.cl < cs.length
structure ClInv (cs : List CalD) (w wr : World) (i : Nat) : Prop where
  le : i ≤ cs.length
  fine : ∀ j (h : j < cs.length), j < i → CkFine cs[j]
  below : Below w.heap.size w wr
structure ClInv2 (ps : List PerD) (n : Nat) (w wr : World) (i : Nat) : Prop where
  le : i ≤ ps.length
  fine : ∀ j (h : j < ps.length), j < i → (ps[j]).cl < n
  below : Below w.heap.size w wr
set_option maxRecDepth 100000 in
set_option maxHeartbeats 4000000 in
theorem checkCals_any (ps : List PerD) (vp : Value) (cs : List CalD) (v : Value) (w : World) (hp : Pers w vp ps) (h : Clds w v cs) :
    Calls Tryz.prog 12 #[vp, v] w fun e w' => (∃ k, e = .returned (.int .i64 k) ∧ (k = 0 ↔ PpFine ps ∧ ClFine ps cs)) ∧ Below w.heap.size w w' := by
  obtain ⟨a, cap, rfl⟩ := SliceAt.len h
  obtain ⟨pa, pc, rfl⟩ := SliceAt.len hp
  have H := Lib.hid h
  have HPS := Lib.hid hp
  clear h hp
  go_enter Tryz.func12, Tryz.ntmps12
  go_wp2_with fail
  refine (CheckPeople_any ps _ w HPS.out).mono ?_
  rintro e w2 ⟨⟨k, rfl, hk⟩, hb2⟩
  have HK := Lib.hid hk
  have HB2 := Lib.hid hb2
  clear hk hb2
  by_cases hz : ¬ k = 0
  · have qz : (k == 0) = false := by simpa using hz
    have qz2 : (k != 0) = true := by simpa using hz
    have HZ := Lib.hid hz
    clear hz
    go_wp2_with fail
    go_ret
    exact ⟨⟨_, rfl, ⟨fun g => absurd g HZ.out, fun g => HK.out.2 g.1⟩⟩, HB2.out⟩
  have hz := Decidable.not_not.1 hz
  have HF := Lib.hid (HK.out.1 hz)
  subst hz
  clear HK
  by_cases hl : 20 < cs.length
  · have q1 : decide ((20 : Int) < (cs.length : Int)) = true := decide_eq_true (by omega)
    have HL := Lib.hid hl
    clear hl
    go_wp2_with fail
    go_ret
    exact ⟨⟨_, rfl, ⟨fun g => absurd g (by decide), fun g => absurd g.2.few (by have := HL.out; omega)⟩⟩, HB2.out⟩
  have q1 : decide ((20 : Int) < (cs.length : Int)) = false := decide_eq_false (by omega)
  have hl20 : cs.length ≤ 20 := by omega
  have hpl : ps.length ≤ 40 := HF.out.1
  clear hl
  go_wp2_with fail
  go_loopw [21] (fun iv wr => ∃ i : Nat, iv = .int .i64 ((i : Nat) : Int) ∧ ClInv cs w wr i) (fun iv _ => cs.length - (intOf iv).toNat)
  case atStart => exact ⟨0, rfl, Nat.zero_le _, fun j _ hj => absurd hj (by omega), HB2.out⟩
  case round =>
    obtain ⟨i, rfl, hI⟩ := hrel
    have HI := Lib.hid hI
    have hi := hI.le
    clear hI
    by_cases hlt : i < cs.length
    · obtain ⟨b, of', cap', hv, hb, hel⟩ := Clds.at (H.out.below HI.out.below) (by omega)
      cases hv
      obtain ⟨u1, u2, u3, e0, e1, e2, e3, hat⟩ := hel i hlt
      obtain ⟨a1, n1, rfl⟩ := SliceAt.len hat.cs
      obtain ⟨a2, n2, rfl⟩ := SliceAt.len hat.wk
      obtain ⟨a3, n3, rfl⟩ := SliceAt.len hat.sps
      obtain ⟨hof, hofe⟩ : ∃ o, o = cs[i].off := ⟨_, rfl⟩
      obtain ⟨m1, hm1⟩ : ∃ o, o = cs[i].cs.length := ⟨_, rfl⟩
      obtain ⟨m2, hm2⟩ : ∃ o, o = cs[i].wk.length := ⟨_, rfl⟩
      obtain ⟨m3, hm3⟩ : ∃ o, o = cs[i].sps.length := ⟨_, rfl⟩
      have HCK := Lib.hid (fun W hW => CheckCalendar_any cs[i] _ _ _ W (hat.below hW))
      rw [← hofe, ← hm1, ← hm2, ← hm3] at HCK
      rw [← hofe] at e0
      rw [← hm1] at e1
      rw [← hm2] at e2
      rw [← hm3] at e3
      clear hel hat hofe hm1 hm2 hm3
      obtain ⟨bx, bbl⟩ := box1 wr #[.int .i64 hof, .slice a1 m1 n1, .slice a2 m2 n2, .slice a3 m3 n3] 77
      have HBL := Lib.hid bbl
      have HB4 := Lib.hid (below_up HI.out.below bbl HI.out.below.size)
      have k0 := bx.cell 0
      have k1 := bx.cell 1
      have k2 := bx.cell 2
      have k3 := bx.cell 3
      go_upto_region 9 with fail
      generalize wr.alloc (.cells #[.int .i64 hof, .slice a1 m1 n1, .slice a2 m2 n2, .slice a3 m3 n3] 77) = wb at *
      clear bx bbl e0 e1 e2 e3
      go_wp2_with fail
      refine (HCK.out wb HBL.out).mono ?_
      rintro e w5 ⟨⟨ck, rfl, hck⟩, hb5⟩
      have HC := Lib.hid hck
      have HB5 := Lib.hid (below_up HB4.out hb5 HB4.out.size)
      clear hck hb5 HCK k0 k1 k2 k3
      by_cases hz : ck = 0
      · have HC1 := Lib.hid (HC.out.1 hz)
        subst hz
        clear HC
        go_wp2_with fail
        go_roundw
        case rel =>
          refine ⟨i + 1, by go_num, hlt, fun j hj hji => ?_, HB5.out⟩
          by_cases g : j = i
          · subst g; exact HC1.out
          · exact HI.out.fine j hj (by omega)
        case measure => simp [intOf]; omega
      · have qz : (ck == 0) = false := by simpa using hz
        have qz2 : (ck != 0) = true := by simpa using hz
        have HZ := Lib.hid hz
        clear hz
        go_wp2_with fail
        go_ret
        exact ⟨⟨_, rfl, ⟨fun g => absurd g HZ.out, fun g => HC.out.2 (g.2.each _ (List.getElem_mem hlt))⟩⟩, HB5.out⟩
    · obtain rfl : i = cs.length := by omega
      have HE := Lib.hid (show ∀ c ∈ cs, CkFine c from fun c hc => by
        obtain ⟨j, hj, rfl⟩ := List.mem_iff_getElem.1 hc
        exact HI.out.fine j hj hj)
      have HB3 := Lib.hid HI.out.below
      clear HI
      generalize hwr : wr = w3 at *
      clear hwr
      go_wp2_with fail
      go_loopw [33] (fun iv wr => ∃ i : Nat, iv = .int .i64 ((i : Nat) : Int) ∧ ClInv2 ps cs.length w wr i) (fun iv _ => ps.length - (intOf iv).toNat)
      case atStart => exact ⟨0, rfl, Nat.zero_le _, fun j _ hj => absurd hj (by omega), HB3.out⟩
      case round =>
        obtain ⟨i, rfl, hI⟩ := hrel
        have HI := Lib.hid hI
        have hi := hI.le
        clear hI
        by_cases hlt : i < ps.length
        · obtain ⟨b, of', cap', hv, hb, hel⟩ := Pers.at (HPS.out.below HI.out.below) (by omega)
          cases hv
          obtain ⟨u, e0, e1, e2, e3, hsk⟩ := hel i hlt
          obtain ⟨sa, sc, rfl⟩ := SliceAt.len hsk
          obtain ⟨sn, hsn⟩ : ∃ sn, sn = (ps[i].sk).length := ⟨_, rfl⟩
          rw [← hsn] at e3
          clear hel hsk hsn
          obtain ⟨en, hen⟩ : ∃ en, en = ps[i] := ⟨_, rfl⟩
          rw [← hen] at e0 e1 e2
          obtain ⟨x1, x2, x3, sk⟩ := en
          have HEN := Lib.hid hen
          simp only at e0 e1 e2
          clear hen
          obtain ⟨bx, bbl⟩ := box1 wr #[.int .i64 x1, .int .i64 x2, .int .i64 x3, .slice sa sn sc] 65
          have HB4 := Lib.hid (below_up HI.out.below bbl HI.out.below.size)
          have k2 := bx.cell 2
          clear bx bbl
          by_cases g1 : (cs.length : Int) ≤ x3
          · have q3 : decide ((cs.length : Int) ≤ x3) = true := decide_eq_true g1
            have HC := Lib.hid (show ¬ ClFine ps cs from fun g => by
              have := g.has ps[i] (List.getElem_mem hlt)
              rw [← HEN.out] at this
              simp only at this
              omega)
            clear g1
            go_wp2_with fail
            go_ret
            exact ⟨⟨_, rfl, ⟨fun g => absurd g (by decide), fun g => absurd g.2 HC.out⟩⟩, HB4.out⟩
          · have q3 : decide ((cs.length : Int) ≤ x3) = false := decide_eq_false g1
            have HC := Lib.hid (show (ps[i]).cl < cs.length by rw [← HEN.out]; simp only; omega)
            clear g1
            go_wp2_with fail
            go_roundw
            case rel =>
              refine ⟨i + 1, by go_num, hlt, fun j hj hji => ?_, HB4.out⟩
              by_cases g : j = i
              · subst g; exact HC.out
              · exact HI.out.fine j hj (by omega)
            case measure => simp [intOf]; omega
        · obtain rfl : i = ps.length := by omega
          have HG := Lib.hid (show ∀ p ∈ ps, p.cl < cs.length from fun p hp => by
            obtain ⟨j, hj, rfl⟩ := List.mem_iff_getElem.1 hp
            exact HI.out.fine j hj hj)
          go_wp2_with fail
          go_ret
          exact ⟨⟨_, rfl, ⟨fun _ => ⟨HF.out, hl20, HE.out, HG.out⟩, fun _ => rfl⟩⟩, HI.out.below⟩
end Go.Proofs.YtemikhnkjligdaaGreatDoor
