/- The walk of staff.CheckForms. -/
import Derived.Test.YtfoehmieklldkaaDoorForms
import Derived.Test.YtfoehmieklldkaaDoorFind
namespace Go.Proofs.YtfoehmieklldkaaDoor
open Go.RowKit

def lexI (x y : Int × Int) : Int := orI [cmpI x.1 y.1, cmpI x.2 y.2]
def notUp (p : Option (Int × Int)) (x : Int × Int) : Bool := match p with
  | some y => decide (lexI x y ≤ 0)
  | none => false
def fgo : Option (Int × Int) → List (Int × Int) → Int
  | _, [] => 0
  | p, x :: r => if ¬ ((0 ≤ x.1 ∧ x.1 ≤ 399) ∧ (1 ≤ x.2 ∧ x.2 ≤ 400 - x.1)) then 2 else if notUp p x = true then 5 else fgo (some x) r
def formsE (l : List (Int × Int)) : Int := if 60 < l.length then 4 else fgo none l
def prevOf (l : List (Int × Int)) : Nat → Option (Int × Int)
  | 0 => none
  | i + 1 => l[i]?
def FormOk (x : Int × Int) : Prop := (0 ≤ x.1 ∧ x.1 ≤ 399) ∧ (1 ≤ x.2 ∧ x.2 ≤ 400 - x.1)
theorem fgo_ok : ∀ (l : List (Int × Int)) (p : Option (Int × Int)), fgo p l = 0 → ∀ x ∈ l, FormOk x
  | [], _, _, x, hx => by cases hx
  | y :: r, p, h, x, hx => by
    simp only [fgo] at h
    split at h
    · cases h
    · rename_i h1
      split at h
      · cases h
      · rw [List.mem_cons] at hx
        rcases hx with rfl | hx
        · exact Classical.byContradiction h1
        · exact fgo_ok r _ h x hx
theorem formsE_ok {l : List (Int × Int)} (h : formsE l = 0) : l.length ≤ 60 ∧ ∀ x ∈ l, FormOk x := by
  unfold formsE at h
  split at h
  · cases h
  · exact ⟨by omega, fgo_ok l none h⟩

theorem ints2_drew (w : World) (a b : Int) (t : TypeId) : SliceAt 1 intR (w.alloc (.cells #[.int .i64 a, .int .i64 b] t)).drew (.slice (some ⟨w.heap.size, 0, none⟩) 2 2) [a, b] := ints2_at w a b t

structure CfInv (l : List (Int × Int)) (w wr : World) (i : Nat) : Prop where
  le : i ≤ l.length
  eq : fgo (prevOf l i) (l.drop i) = fgo none l
  below : Below w.heap.size w wr

set_option maxRecDepth 100000 in
set_option maxHeartbeats 2000000 in
theorem CheckForms_any (v : Value) (l : List (Int × Int)) (w : World) (h : SliceAt 2 formR w v l) :
    Calls Tryd.prog 35 #[v] w fun e w' => e = .returned (.int .i64 (formsE l)) ∧ Below w.heap.size w w' := by
  obtain ⟨a, cap, rfl⟩ := h.len
  have H := Lib.hid h
  clear h
  unfold formsE
  by_cases hl : 60 < l.length
  · have hl' : (60 : Int) < (l.length : Int) := by omega
    rw [if_pos hl]
    go_enter Tryd.func35, Tryd.ntmps35
    go_wp2_with fail
    go_ret
    exact ⟨rfl, Below.refl _ _⟩
  · have hl' : ¬ (60 : Int) < (l.length : Int) := by omega
    rw [if_neg hl]
    go_enter Tryd.func35, Tryd.ntmps35
    go_wp2_with fail
    go_loopw [3, 4, 10] (fun _ _ iv wr => ∃ i : Nat, iv = .int .i64 i ∧ CfInv l w wr i) (fun _ _ iv _ => l.length - (intOf iv).toNat)
    case atStart => exact ⟨0, rfl, Nat.zero_le _, rfl, Below.refl _ _⟩
    case round =>
      obtain ⟨i, rfl, hI⟩ := hrel
      have HI := Lib.hid hI
      have hi := hI.le
      clear hI
      by_cases hlt : i < l.length
      · obtain ⟨b, off, cap', hv, hcap, hb, hel⟩ := H.out.at (by omega)
        cases hv
        obtain ⟨e0, e1⟩ := form_cells hel i hlt
        have c0 := (below_cell HI.out.below hb).trans e0
        have c1 := (below_cell HI.out.below hb).trans e1
        have hd : l.drop i = l[i] :: l.drop (i + 1) := List.drop_eq_getElem_cons hlt
        have he := HI.out.eq
        rw [hd] at he
        simp only [fgo] at he
        have hp1 : ∀ j, i = j + 1 → wr.cell? ⟨b, off + j * 2, none⟩ = some (.int .i64 (l[j]?.getD (0, 0)).1) ∧ wr.cell? ⟨b, off + j * 2 + 1, none⟩ = some (.int .i64 (l[j]?.getD (0, 0)).2) ∧ l[j]? = some (l[j]?.getD (0, 0)) := fun j hj => by
          have hjl : j < l.length := by omega
          obtain ⟨g0, g1⟩ := form_cells hel j hjl
          rw [List.getElem?_eq_getElem hjl]
          exact ⟨(below_cell HI.out.below hb).trans g0, (below_cell HI.out.below hb).trans g1, rfl⟩
        have hnx : prevOf l (i + 1) = some l[i] := by simp [prevOf, hlt]
        have hpv : prevOf l i = prevOf l i := rfl
        generalize hxx : l[i] = x at *
        obtain ⟨x1, x2⟩ := x
        simp only at c0 c1 he
        have HP1 := Lib.hid hp1
        have HNX := Lib.hid hnx
        have HE := Lib.hid he
        have hbr : b < wr.heap.size := Nat.lt_of_lt_of_le hb HI.out.below.size
        clear hel e0 e1 hd he hp1 hnx hpv hxx
        go_upto_region 6 with fail
        obtain ⟨bx, bb⟩ := box1 wr #[.int .i64 x1, .int .i64 x2] 76
        have BX := Lib.hid bx
        have BB := Lib.hid bb
        have hbl2 := Lib.hid (below_up HI.out.below bb HI.out.below.size)
        have hbs : b < (wr.alloc (.cells #[.int .i64 x1, .int .i64 x2] 76)).heap.size := Nat.lt_of_lt_of_le hbr bb.size
        generalize wr.alloc (.cells #[.int .i64 x1, .int .i64 x2] 76) = wb at *
        generalize wr.heap.size = B at *
        have k0 : wb.cell? ⟨B, 0, none⟩ = some (.int .i64 x1) := BX.out.cell 0
        have k1 : wb.cell? ⟨B, 1, none⟩ = some (.int .i64 x2) := BX.out.cell 1
        have hBl := BX.out.lt
        clear bx bb c0 c1
        by_cases h1 : 0 ≤ x1 ∧ x1 ≤ 399
        · obtain ⟨h1a, h1b⟩ := h1
          have hb1 : (decide (0 ≤ x1) && decide (x1 ≤ 399)) = true := by simp [h1a, h1b]
          have s0 : IntKind.i64.wrap (400 - x1) = 400 - x1 := IntWalk.i64_in _ (by omega)
          by_cases h2 : 1 ≤ x2 ∧ x2 ≤ 400 - x1
          · obtain ⟨h2a, h2b⟩ := h2
            have hb2 : (decide (1 ≤ x2) && decide (x2 ≤ 400 - x1)) = true := by simp [h2a, h2b]
            have he := HE.out
            rw [if_neg (fun g => g ⟨⟨h1a, h1b⟩, ⟨h2a, h2b⟩⟩)] at he
            have HE2 := Lib.hid he
            clear he
            go_wp2_with fail
            refine (within_any _ _ _ _).mono ?_
            rintro e w' ⟨rfl, rfl⟩
            rw [hb1]
            go_wp2_with fail
            refine (within_any _ _ _ _).mono ?_
            rintro e w' ⟨rfl, rfl⟩
            rw [hb2]
            go_upto_region 8 with fail
            clear hb1 hb2 s0
            cases i with
            | zero =>
              go_quiet (fail)
              go_wp2
              go_roundw
              case rel => exact ⟨1, by go_num, by omega, by rw [HNX.out]; exact (if_neg (by simp [notUp, prevOf])).symm.trans HE2.out, drewN_below hbl2.out _⟩
              case measure => simp [intOf]; omega
            | succ j =>
              obtain ⟨p0, p1, p2⟩ := HP1.out j rfl
              generalize l[j]?.getD (0, 0) = y at *
              obtain ⟨y1, y2⟩ := y
              have q0 : wb.cell? ⟨b, off + j * 2, none⟩ = some (.int .i64 y1) := (below_cell BB.out hbr).trans p0
              have q1 : wb.cell? ⟨b, off + j * 2 + 1, none⟩ = some (.int .i64 y2) := (below_cell BB.out hbr).trans p1
              have s1 : IntKind.i64.wrap ((j : Int) + 1 - 1) = (j : Int) := by rw [IntWalk.i64_in _ (by omega)]; omega
              have s2 : (0 : Int) ≤ (j : Int) := by omega
              have s3 : j < l.length := by omega
              have s4 : IntKind.i64.wrap (j : Int) = (j : Int) := IntWalk.i64_in _ (by omega)
              have hpv : prevOf l (j + 1) = some (y1, y2) := p2
              have he := HE2.out
              rw [hpv] at he
              have HE3 := Lib.hid he
              have HJ : ∀ W, Below wb.heap.size wb W → W.cell? ⟨B, 0, none⟩ = some (.int .i64 x1) ∧ W.cell? ⟨B, 1, none⟩ = some (.int .i64 x2) ∧ W.cell? ⟨b, off + j * 2, none⟩ = some (.int .i64 y1) ∧ W.cell? ⟨b, off + j * 2 + 1, none⟩ = some (.int .i64 y2) := fun W hW =>
                ⟨(below_cell hW hBl).trans k0, (below_cell hW hBl).trans k1, (below_cell hW hbs).trans q0, (below_cell hW hbs).trans q1⟩
              have HKS := Lib.hid HJ
              clear HJ he hpv p0 p1 p2
              go_cut [52] (fun s wx => s = .bool (notUp (some (y1, y2)) (x1, x2)) ∧ Below wb.heap.size wb wx)
              case first =>
                go_region_held3 (fun W => W.cell? ⟨B, 0, none⟩ = some (.int .i64 x1) ∧ W.cell? ⟨B, 1, none⟩ = some (.int .i64 x2) ∧ W.cell? ⟨b, off + j * 2, none⟩ = some (.int .i64 y1) ∧ W.cell? ⟨b, off + j * 2 + 1, none⟩ = some (.int .i64 y2))
                  (first | exact HKS.out _ hB | exact HKS.out _ (Below.refl _ _).drew | exact HKS.out _ ((Below.refl _ _).alloc (Nat.le_refl _) _).drew)
                  (first
                    | (go_at_call 54; refine (orInt_any _ [cmpI x1 y1, cmpI x2 y2] _ (ints2_drew wb _ _ _) (by simp)).mono ?_; rintro e w' ⟨rfl, rfl⟩; have hB := ((Below.refl wb.heap.size wb).alloc (Nat.le_refl _) (.cells #[.int .i64 (cmpI x1 y1), .int .i64 (cmpI x2 y2)] 3)).drew)
                    | (go_at_call 55; refine (cmp_any _ _ _).mono ?_; rintro e w' ⟨rfl, rfl⟩))
                go_wp2
                go_meet
                exact ⟨rfl, hB⟩
              case rest =>
                obtain ⟨rfl, hbw⟩ := hcut
                have hbl3 := Lib.hid (below_up hbl2.out hbw hbl2.out.size)
                clear hbw
                cases hnu : notUp (some (y1, y2)) (x1, x2) with
                | true =>
                  have he := HE3.out
                  rw [hnu, if_pos rfl] at he
                  have HE4 := Lib.hid he
                  clear he hnu
                  go_wp2_with fail
                  go_ret
                  exact ⟨ret_int HE4.out, hbl3.out⟩
                | false =>
                  have he := HE3.out
                  rw [hnu, if_neg (by simp)] at he
                  have HE4 := Lib.hid he
                  clear he hnu
                  go_wp2_with fail
                  go_roundw
                  case rel => exact ⟨j + 1 + 1, by go_num, by omega, by rw [HNX.out]; exact HE4.out, hbl3.out⟩
                  case measure => simp [intOf]; omega
          · have hb2 : (decide (1 ≤ x2) && decide (x2 ≤ 400 - x1)) = false := by simpa using h2
            have he := HE.out
            rw [if_pos (fun g => h2 g.2)] at he
            have HE2 := Lib.hid he
            clear he h2
            go_wp2_with fail
            refine (within_any _ _ _ _).mono ?_
            rintro e w' ⟨rfl, rfl⟩
            rw [hb1]
            go_wp2_with fail
            refine (within_any _ _ _ _).mono ?_
            rintro e w' ⟨rfl, rfl⟩
            rw [hb2]
            go_wp2_with fail
            go_ret
            exact ⟨ret_int HE2.out, hbl2.out⟩
        · have hb1 : (decide (0 ≤ x1) && decide (x1 ≤ 399)) = false := by simpa using h1
          have he := HE.out
          rw [if_pos (fun g => h1 g.1)] at he
          have HE2 := Lib.hid he
          clear he h1
          go_wp2_with fail
          refine (within_any _ _ _ _).mono ?_
          rintro e w' ⟨rfl, rfl⟩
          rw [hb1]
          go_wp2_with fail
          go_ret
          exact ⟨ret_int HE2.out, hbl2.out⟩
      · obtain rfl : i = l.length := by omega
        have he := HI.out.eq
        rw [List.drop_length] at he
        have HE2 := Lib.hid he
        clear he
        go_wp2_with fail
        go_ret
        exact ⟨ret_int HE2.out, HI.out.below⟩

end Go.Proofs.YtfoehmieklldkaaDoor
