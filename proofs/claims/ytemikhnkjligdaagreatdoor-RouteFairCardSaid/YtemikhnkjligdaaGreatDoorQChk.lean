/- The walk of cal.checkShifts. -/
import Derived.Test.YtemikhnkjligdaaGreatDoorQShLaw
namespace Go.Proofs.YtemikhnkjligdaaGreatDoor
open Go.RowKit

def shfR (_ : World) (cs : List Value) (x : Shf) : Prop := cs = [.int .i64 x.1, .int .i64 x.2.1, .int .i64 x.2.2]
theorem shfR_stable : Stable shfR := fun _ _ _ _ h _ => h
def Shifts (w : World) (v : Value) (l : List Shf) : Prop := SliceAt 3 shfR w v l
theorem Shifts.below {w w' : World} {v : Value} {l : List Shf} (h : Shifts w v l) (hb : Below w.heap.size w w') : Shifts w' v l := SliceAt.stable shfR_stable h hb
theorem Shifts.at {w : World} {v : Value} {l : List Shf} (h : Shifts w v l) (hl : 0 < l.length) : ∃ b off cap, v = .slice (some ⟨b, off, none⟩) l.length cap ∧ b < w.heap.size ∧
    ∀ i (hi : i < l.length), w.cell? ⟨b, off + i * 3, none⟩ = some (.int .i64 l[i].1) ∧ w.cell? ⟨b, off + i * 3 + 1, none⟩ = some (.int .i64 l[i].2.1) ∧ w.cell? ⟨b, off + i * 3 + 2, none⟩ = some (.int .i64 l[i].2.2) := by
  obtain ⟨b, off, cap, hv, hc, hb, hel⟩ := SliceAt.at h hl
  refine ⟨b, off, cap, hv, hb, fun i hi => ?_⟩
  obtain ⟨cs, ⟨_, h2⟩, hr⟩ := hel i hi
  cases hr
  exact ⟨by simpa using h2 0 (by simp), by simpa using h2 1 (by simp), by simpa using h2 2 (by simp)⟩

theorem ShfsFine.take {d : Bool} {l : List Shf} (h : ShfsFine d l) (k : Nat) : ShfsFine d (l.take k) := by
  refine ⟨fun i hi => ?_, fun i hi => ?_⟩
  · rw [List.getElem_take]; exact h.each i (by rw [List.length_take] at hi; omega)
  · rw [List.getElem_take, List.getElem_take]; exact h.order i (by rw [List.length_take] at hi; omega)
theorem ShfsFine.next {d : Bool} {l : List Shf} {i : Nat} (h : ShfsFine d (l.take i)) (hi : i < l.length) (hx : ShfFine d l[i]) (ho : ∀ hp : 0 < i, behind l[i] (l[i - 1]'(by omega))) : ShfsFine d (l.take (i + 1)) := by
  have e := List.take_succ_eq_append_getElem hi
  refine ⟨fun j hj => ?_, fun j hj => ?_⟩
  · rw [List.getElem_take]
    rw [List.length_take] at hj
    by_cases g : j = i
    · subst g; exact hx
    · have := h.each j (by rw [List.length_take]; omega)
      rwa [List.getElem_take] at this
  · rw [List.getElem_take, List.getElem_take]
    rw [List.length_take] at hj
    by_cases g : j + 1 = i
    · have := ho (by omega)
      simp only [← g] at this ⊢
      exact this
    · have := h.order j (by rw [List.length_take]; omega)
      rwa [List.getElem_take, List.getElem_take] at this
theorem ShfsFine.nil (d : Bool) : ShfsFine d [] := ⟨fun i h => absurd h (by simp), fun i h => absurd h (by simp)⟩
structure ChInv (d : Bool) (l : List Shf) (w wr : World) (i : Nat) : Prop where
  le : i ≤ l.length
  fine : ShfsFine d (l.take i)
  below : Below w.heap.size w wr

set_option maxRecDepth 100000 in
set_option maxHeartbeats 4000000 in
theorem checkShifts_any (v : Value) (l : List Shf) (d : Bool) (w : World) (h : Shifts w v l) (hl : l.length ≤ 1000000) :
    Calls Tryz.prog 47 #[v, .bool d] w fun e w' => (∃ c, e = .returned (.int .i64 c) ∧ (c = 0 ↔ ShfsFine d l)) ∧ Below w.heap.size w w' := by
  obtain ⟨a, cap, rfl⟩ := SliceAt.len h
  have H := Lib.hid h
  clear h
  go_enter Tryz.func47, Tryz.ntmps47
  go_wp2_with fail
  go_loopw [9] (fun iv wr => ∃ i : Nat, iv = .int .i64 i ∧ ChInv d l w wr i) (fun iv _ => l.length - (intOf iv).toNat)
  case atStart => exact ⟨0, rfl, Nat.zero_le _, by simpa using ShfsFine.nil d, Below.refl _ _⟩
  case round =>
    obtain ⟨i, rfl, hI⟩ := hrel
    have HI := Lib.hid hI
    have hi := hI.le
    clear hI
    by_cases hlt : i < l.length
    · obtain ⟨b, of', cap', hv, hb, hel⟩ := Shifts.at H.out (by omega)
      cases hv
      obtain ⟨e0, e1, e2⟩ := hel i hlt
      have c0 := (below_cell HI.out.below hb).trans e0
      have c1 := (below_cell HI.out.below hb).trans e1
      have c2 := (below_cell HI.out.below hb).trans e2
      have HP := Lib.hid (fun hp : 0 < i => hel (i - 1) (by omega))
      have HNX := Lib.hid (fun hx ho => ShfsFine.next HI.out.fine hlt hx ho)
      have HNO := Lib.hid (show ShfsFine d l → ShfFine d l[i] ∧ ∀ hp : 0 < i, behind l[i] (l[i - 1]'(by omega)) from fun g => ⟨g.each i hlt, fun hp => by
        have := g.order (i - 1) (by omega)
        simpa [Nat.sub_add_cancel hp] using this⟩)
      generalize l[i] = s at *
      obtain ⟨x1, x2, x3⟩ := s
      simp only at c0 c1 c2
      clear e0 e1 e2 hel
      go_upto_region 4 with fail
      obtain ⟨bx, bbl⟩ := box1 wr #[.int .i64 x1, .int .i64 x2, .int .i64 x3] 138
      have HB4 := Lib.hid (below_up HI.out.below bbl HI.out.below.size)
      have HBX := Lib.hid bx
      have k0 := bx.cell 0
      have k1 := bx.cell 1
      have k2 := bx.cell 2
      generalize wr.alloc (.cells #[.int .i64 x1, .int .i64 x2, .int .i64 x3] 138) = wb at *
      generalize wr.heap.size = B at *
      clear bx bbl c0 c1 c2
      by_cases g1 : d = true → x1 = 0
      · by_cases g2 : 0 ≤ x1 ∧ x1 ≤ 6
        · have q2 : (decide ((0 : Int) ≤ x1) && decide (x1 ≤ 6)) = true := by simpa using g2
          by_cases g3 : 0 ≤ x2 ∧ x2 ≤ 1439
          · have q3 : (decide ((0 : Int) ≤ x2) && decide (x2 ≤ 1439)) = true := by simpa using g3
            have s1 : IntKind.i64.wrap (x2 + 1440) = x2 + 1440 := IntWalk.i64_in _ (by omega)
            by_cases g4 : x3 ≤ x2
            · have q4 : decide (x3 ≤ x2) = true := decide_eq_true g4
              have HC := Lib.hid (show ¬ ShfsFine d l from fun g => by
                have := (HNO.out g).1
                have z1 := this.lo; have z2 := this.hi; have z3 := this.f0; have z4 := this.f1; have z5 := this.t0; have z6 := this.t1
                simp only at z1 z2 z3 z4 z5 z6
                omega)
              cases d
              · have hb0 : (x1 != 0) = (x1 != 0) := rfl
                go_wp2_with (go_at_call 48; refine (within_any _ _ _ _).mono ?_; rintro e w' ⟨rfl, rfl⟩)
                go_ret
                exact ⟨⟨_, rfl, ⟨fun g => absurd g (by decide), fun g => absurd g HC.out⟩⟩, HB4.out⟩
              · obtain rfl := g1 rfl
                go_wp2_with (go_at_call 48; refine (within_any _ _ _ _).mono ?_; rintro e w' ⟨rfl, rfl⟩)
                go_ret
                exact ⟨⟨_, rfl, ⟨fun g => absurd g (by decide), fun g => absurd g HC.out⟩⟩, HB4.out⟩
            · have q4 : decide (x3 ≤ x2) = false := decide_eq_false g4
              by_cases g5 : x2 + 1440 < x3
              · have q5 : decide (x2 + 1440 < x3) = true := decide_eq_true g5
                have HC := Lib.hid (show ¬ ShfsFine d l from fun g => by
                  have := (HNO.out g).1
                  have z1 := this.lo; have z2 := this.hi; have z3 := this.f0; have z4 := this.f1; have z5 := this.t0; have z6 := this.t1
                  simp only at z1 z2 z3 z4 z5 z6
                  omega)
                cases d
                · have hb0 : (x1 != 0) = (x1 != 0) := rfl
                  go_wp2_with (go_at_call 48; refine (within_any _ _ _ _).mono ?_; rintro e w' ⟨rfl, rfl⟩)
                  go_ret
                  exact ⟨⟨_, rfl, ⟨fun g => absurd g (by decide), fun g => absurd g HC.out⟩⟩, HB4.out⟩
                · obtain rfl := g1 rfl
                  go_wp2_with (go_at_call 48; refine (within_any _ _ _ _).mono ?_; rintro e w' ⟨rfl, rfl⟩)
                  go_ret
                  exact ⟨⟨_, rfl, ⟨fun g => absurd g (by decide), fun g => absurd g HC.out⟩⟩, HB4.out⟩
              · have q5 : decide (x2 + 1440 < x3) = false := decide_eq_false g5
                have HF := Lib.hid (show ShfFine d (x1, x2, x3) from ⟨g1, g2.1, g2.2, g3.1, g3.2, by simp only; omega, by simp only; omega⟩)
                have hg1 : (d && (x1 != 0)) = false := by
                  cases d
                  · rfl
                  · rw [g1 rfl]; rfl
                by_cases h0 : 0 < i
                · have r2 : decide ((0 : Int) < (i : Int)) = true := decide_eq_true (by omega)
                  have HNX2 := Lib.hid (fun (ho : behind (x1, x2, x3) (l[i - 1]'(by omega))) => HNX.out HF.out (fun _ => ho))
                  have HNO2 := Lib.hid (fun g => (HNO.out g).2 h0)
                  obtain ⟨p0, p1, p2⟩ := HP.out h0
                  have p0 := (below_cell HB4.out hb).trans p0
                  have p1 := (below_cell HB4.out hb).trans p1
                  have p2 := (below_cell HB4.out hb).trans p2
                  have r1 : IntKind.i64.wrap ((i : Int) - 1) = ((i - 1 : Nat) : Int) := by rw [IntWalk.i64_in _ (by omega)]; omega
                  have r3 : i - 1 < l.length := by omega
                  have hbl : b < wb.heap.size := Nat.lt_of_lt_of_le hb HB4.out.size
                  clear HP HNX HNO
                  generalize l[i - 1] = y at *
                  obtain ⟨y1, y2, y3⟩ := y
                  simp only at p0 p1 p2
                  have hBl := HBX.out.lt
                  have HKS := Lib.hid (fun W (hW : Below wb.heap.size wb W) => (⟨(below_cell hW hBl).trans k0, (below_cell hW hBl).trans k1, (below_cell hW hBl).trans k2, (below_cell hW hbl).trans p0, (below_cell hW hbl).trans p1, (below_cell hW hbl).trans p2⟩ :
                    W.cell? ⟨B, 0, none⟩ = some (.int .i64 x1) ∧ W.cell? ⟨B, 1, none⟩ = some (.int .i64 x2) ∧ W.cell? ⟨B, 2, none⟩ = some (.int .i64 x3) ∧ W.cell? ⟨b, of' + (i - 1) * 3, none⟩ = some (.int .i64 y1) ∧ W.cell? ⟨b, of' + (i - 1) * 3 + 1, none⟩ = some (.int .i64 y2) ∧ W.cell? ⟨b, of' + (i - 1) * 3 + 2, none⟩ = some (.int .i64 y3)))
                  cases d
                  · clear p0 p1 p2
                    go_wp2_with (go_at_call 48; refine (within_any _ _ _ _).mono ?_; rintro e w' ⟨rfl, rfl⟩)
                    go_cut [56] (fun u wx => u = .bool (!decide (0 < aftI (x1, x2, x3) (y1, y2, y3))) ∧ Below wb.heap.size wb wx)
                    case first =>
                      go_region_held3 (fun W => W.cell? ⟨B, 0, none⟩ = some (.int .i64 x1) ∧ W.cell? ⟨B, 1, none⟩ = some (.int .i64 x2) ∧ W.cell? ⟨B, 2, none⟩ = some (.int .i64 x3) ∧ W.cell? ⟨b, of' + (i - 1) * 3, none⟩ = some (.int .i64 y1) ∧ W.cell? ⟨b, of' + (i - 1) * 3 + 1, none⟩ = some (.int .i64 y2) ∧ W.cell? ⟨b, of' + (i - 1) * 3 + 2, none⟩ = some (.int .i64 y3))
                        (first | exact HKS.out _ hB | exact HKS.out _ (Below.refl _ _).drew)
                        ((go_at_call 68; refine (after_any (x1, x2, x3) (y1, y2, y3) _).mono ?_; rintro e w' ⟨rfl, hb⟩; have hB := below_up' (Below.refl wb.heap.size wb).drew hb))
                      go_wp2
                      go_meet
                      exact ⟨rfl, hB⟩
                    case rest =>
                      obtain ⟨rfl, hbw⟩ := hcut
                      have HBW := Lib.hid (below_up HB4.out hbw HB4.out.size)
                      have hai := aft_iff (x1, x2, x3) (y1, y2, y3)
                      have HAI := Lib.hid hai
                      clear hbw hai
                      generalize decide (0 < aftI (x1, x2, x3) (y1, y2, y3)) = q at *
                      cases q
                      · go_wp2_with fail
                        go_ret
                        exact ⟨⟨_, rfl, ⟨fun g => absurd g (by decide), fun g => absurd (HAI.out.2 (HNO2.out g)) (by decide)⟩⟩, HBW.out⟩
                      · go_wp2_with fail
                        go_roundw
                        case rel => exact ⟨i + 1, by go_num, hlt, HNX2.out (HAI.out.1 rfl), HBW.out⟩
                        case measure => simp [intOf]; omega
                  · obtain rfl := g1 rfl
                    clear p0 p1 p2
                    go_wp2_with (go_at_call 48; refine (within_any _ _ _ _).mono ?_; rintro e w' ⟨rfl, rfl⟩)
                    go_cut [56] (fun u wx => u = .bool (!decide (0 < aftI ((0 : Int), x2, x3) (y1, y2, y3))) ∧ Below wb.heap.size wb wx)
                    case first =>
                      go_region_held3 (fun W => W.cell? ⟨B, 0, none⟩ = some (.int .i64 (0 : Int)) ∧ W.cell? ⟨B, 1, none⟩ = some (.int .i64 x2) ∧ W.cell? ⟨B, 2, none⟩ = some (.int .i64 x3) ∧ W.cell? ⟨b, of' + (i - 1) * 3, none⟩ = some (.int .i64 y1) ∧ W.cell? ⟨b, of' + (i - 1) * 3 + 1, none⟩ = some (.int .i64 y2) ∧ W.cell? ⟨b, of' + (i - 1) * 3 + 2, none⟩ = some (.int .i64 y3))
                        (first | exact HKS.out _ hB | exact HKS.out _ (Below.refl _ _).drew)
                        ((go_at_call 68; refine (after_any ((0 : Int), x2, x3) (y1, y2, y3) _).mono ?_; rintro e w' ⟨rfl, hb⟩; have hB := below_up' (Below.refl wb.heap.size wb).drew hb))
                      go_wp2
                      go_meet
                      exact ⟨rfl, hB⟩
                    case rest =>
                      obtain ⟨rfl, hbw⟩ := hcut
                      have HBW := Lib.hid (below_up HB4.out hbw HB4.out.size)
                      have hai := aft_iff ((0 : Int), x2, x3) (y1, y2, y3)
                      have HAI := Lib.hid hai
                      clear hbw hai
                      generalize decide (0 < aftI ((0 : Int), x2, x3) (y1, y2, y3)) = q at *
                      cases q
                      · go_wp2_with fail
                        go_ret
                        exact ⟨⟨_, rfl, ⟨fun g => absurd g (by decide), fun g => absurd (HAI.out.2 (HNO2.out g)) (by decide)⟩⟩, HBW.out⟩
                      · go_wp2_with fail
                        go_roundw
                        case rel => exact ⟨i + 1, by go_num, hlt, HNX2.out (HAI.out.1 rfl), HBW.out⟩
                        case measure => simp [intOf]; omega
                · obtain rfl : i = 0 := by omega
                  have HNX2 := Lib.hid (HNX.out HF.out (fun hp => absurd hp (by decide)))
                  clear HP HNX HNO
                  cases d
                  · go_wp2_with (go_at_call 48; refine (within_any _ _ _ _).mono ?_; rintro e w' ⟨rfl, rfl⟩)
                    go_quiet (fail)
                    go_wp2_with fail
                    go_roundw
                    case rel => exact ⟨0 + 1, by go_num, hlt, HNX2.out, drewN_below HB4.out nq⟩
                    case measure => simp [intOf]; omega
                  · obtain rfl := g1 rfl
                    go_wp2_with (go_at_call 48; refine (within_any _ _ _ _).mono ?_; rintro e w' ⟨rfl, rfl⟩)
                    go_quiet (fail)
                    go_wp2_with fail
                    go_roundw
                    case rel => exact ⟨0 + 1, by go_num, hlt, HNX2.out, drewN_below HB4.out nq⟩
                    case measure => simp [intOf]; omega
          · have q3 : (decide ((0 : Int) ≤ x2) && decide (x2 ≤ 1439)) = false := by simp; omega
            have HC := Lib.hid (show ¬ ShfsFine d l from fun g => by
              have := (HNO.out g).1
              have z1 := this.lo; have z2 := this.hi; have z3 := this.f0; have z4 := this.f1; have z5 := this.t0; have z6 := this.t1
              simp only at z1 z2 z3 z4 z5 z6
              omega)
            cases d
            · have hb0 : (x1 != 0) = (x1 != 0) := rfl
              go_wp2_with (go_at_call 48; refine (within_any _ _ _ _).mono ?_; rintro e w' ⟨rfl, rfl⟩)
              go_ret
              exact ⟨⟨_, rfl, ⟨fun g => absurd g (by decide), fun g => absurd g HC.out⟩⟩, HB4.out⟩
            · obtain rfl := g1 rfl
              go_wp2_with (go_at_call 48; refine (within_any _ _ _ _).mono ?_; rintro e w' ⟨rfl, rfl⟩)
              go_ret
              exact ⟨⟨_, rfl, ⟨fun g => absurd g (by decide), fun g => absurd g HC.out⟩⟩, HB4.out⟩
        · have q2 : (decide ((0 : Int) ≤ x1) && decide (x1 ≤ 6)) = false := by simp; omega
          have HC := Lib.hid (show ¬ ShfsFine d l from fun g => by
            have := (HNO.out g).1
            have z1 := this.lo; have z2 := this.hi; have z3 := this.f0; have z4 := this.f1; have z5 := this.t0; have z6 := this.t1
            simp only at z1 z2 z3 z4 z5 z6
            omega)
          cases d
          · have hb0 : (x1 != 0) = (x1 != 0) := rfl
            go_wp2_with (go_at_call 48; refine (within_any _ _ _ _).mono ?_; rintro e w' ⟨rfl, rfl⟩)
            go_ret
            exact ⟨⟨_, rfl, ⟨fun g => absurd g (by decide), fun g => absurd g HC.out⟩⟩, HB4.out⟩
          · obtain rfl := g1 rfl
            exact absurd ⟨by decide, by decide⟩ g2
      · have hd : d = true := by
          cases d
          · exact absurd (fun h => by cases h) g1
          · rfl
        subst hd
        have hx : x1 ≠ 0 := fun e => g1 (fun _ => e)
        have q0 : (x1 == 0) = false := by simpa using hx
        have q1 : (x1 != 0) = true := by simpa using hx
        have HC := Lib.hid (show ¬ ShfsFine true l from fun g => hx ((HNO.out g).1.day rfl))
        go_wp2_with fail
        go_ret
        exact ⟨⟨_, rfl, ⟨fun g => absurd g (by decide), fun g => absurd g HC.out⟩⟩, HB4.out⟩
    · obtain rfl : i = l.length := by omega
      have hf := HI.out.fine
      rw [List.take_length] at hf
      have HF := Lib.hid hf
      clear hf
      go_wp2_with fail
      go_ret
      exact ⟨⟨_, rfl, ⟨fun _ => HF.out, fun _ => rfl⟩⟩, HI.out.below⟩

end Go.Proofs.YtemikhnkjligdaaGreatDoor
