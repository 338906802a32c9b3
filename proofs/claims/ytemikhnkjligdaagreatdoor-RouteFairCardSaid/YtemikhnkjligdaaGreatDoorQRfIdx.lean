/- slices.IndexFunc and ContainsFunc at people, work, what is held, skills. -/
import Derived.Test.YtemikhnkjligdaaGreatDoorQPpChk2
namespace Go.Proofs.YtemikhnkjligdaaGreatDoor
open Go.RowKit

set_option maxRecDepth 100000 in
theorem cloPos_any (x1 x2 x3 : Int) (sa : Option Addr) (sn sc : Nat) (id : Int) (V : Nat) (w : World) (hV0 : w.cell? ⟨V, 0, none⟩ = some (.int .i64 id)) (hVl : V < w.heap.size) :
    Calls Tryz.prog 50 #[.agg #[.int .i64 x1, .int .i64 x2, .int .i64 x3, .slice sa sn sc], .pointer (some ⟨V, 0, none⟩)] w fun e w' => e = .returned (.bool (x1 == id)) ∧ Below w.heap.size w w' := by
  have k0 := Has.new w #[.int .i64 x1, .int .i64 x2, .int .i64 x3, .slice sa sn sc] 65
  have b0 : Below w.heap.size w (w.alloc (.cells #[.int .i64 x1, .int .i64 x2, .int .i64 x3, .slice sa sn sc] 65)) := (Below.refl _ _).alloc (Nat.le_refl _) _
  have x0 := k0.cell 0
  have x1 := k0.cell 1
  have v0 := (below_cell b0 hVl).trans hV0
  have HB := Lib.hid b0
  clear k0 b0 hV0
  go_enter Tryz.func50, Tryz.ntmps50
  go_wp2_with fail
  all_goals go_ret
  all_goals (refine ⟨?_, HB.out⟩; first | rfl | (congr 1; done) | (simp_all; done))
set_option maxRecDepth 100000 in
set_option maxHeartbeats 4000000 in
theorem IndexPos_any (v : Value) (L : List PerD) (id : Int) (V : Nat) (w : World) (h : Pers w v L) (hV0 : w.cell? ⟨V, 0, none⟩ = some (.int .i64 id)) (hVl : V < w.heap.size) (hl : L.length ≤ 9223372036854775807) :
    Calls Tryz.prog 49 #[v, .func (.func 50) #[] #[.pointer (some ⟨V, 0, none⟩)]] w fun e w' => (∃ k : Int, e = .returned (.int .i64 k) ∧ ((k = -1 ∧ ∀ x ∈ L, (x.no == id) = false) ∨ ∃ n, ∃ h : n < L.length, k = (n : Int) ∧ (L[n].no == id) = true ∧ ∀ j (hj : j < n), ((L[j]).no == id) = false)) ∧ Below w.heap.size w w' := by
  obtain ⟨a, cap, rfl⟩ := SliceAt.len h
  have H := Lib.hid h
  have HV0 := Lib.hid hV0
  clear h hV0
  go_enter Tryz.func49, Tryz.ntmps49
  go_wp2_with fail
  go_loopw [8] (fun qv wr => ∃ i : Nat, qv = .int .i64 ((i : Nat) : Int) ∧ i ≤ L.length ∧ (∀ j (hj : j < L.length), j < i → (L[j].no == id) = false) ∧ Below w.heap.size w wr) (fun qv _ => L.length - (intOf qv).toNat)
  case atStart => exact ⟨0, rfl, Nat.zero_le _, fun j _ hj => absurd hj (by omega), Below.refl _ _⟩
  case round =>
    obtain ⟨i, rfl, hi, hno, hbr⟩ := hrel
    have HBR := Lib.hid hbr
    have HNO := Lib.hid hno
    clear hbr hno
    by_cases hlt : i < L.length
    · obtain ⟨b, off, cap', hv, hb, hel⟩ := Pers.at (H.out.below HBR.out) (by omega)
      cases hv
      obtain ⟨u, e0, e1, e2, e3, hsk⟩ := hel i hlt
      obtain ⟨sa, sc, rfl⟩ := SliceAt.len hsk
      obtain ⟨sn, hsn⟩ : ∃ sn, sn = (L[i].sk).length := ⟨_, rfl⟩
      rw [← hsn] at e3
      clear hel hsk hsn
      obtain ⟨en, hen⟩ : ∃ en, en = L[i] := ⟨_, rfl⟩
      rw [← hen] at e0 e1 e2
      obtain ⟨x1, x2, x3, sk⟩ := en
      have HEN := Lib.hid hen
      simp only at e0 e1 e2
      have HC := Lib.hid (cloPos_any x1 x2 x3 sa sn sc id V wr ((below_cell HBR.out hVl).trans HV0.out) (Nat.lt_of_lt_of_le hVl HBR.out.size))
      clear hen
      go_wp2_with fail
      refine HC.out.mono ?_
      rintro e w2 ⟨rfl, hb2⟩
      have HB2 := Lib.hid (below_up HBR.out hb2 HBR.out.size)
      clear hb2 e0 e1 e2 e3
      obtain ⟨pb, hpb⟩ : ∃ pb : Bool, pb = (x1 == id) := ⟨_, rfl⟩
      rw [← hpb]
      have HPB := Lib.hid hpb
      clear hpb
      cases pb with
      | true =>
        go_wp2_with fail
        go_ret
        refine ⟨⟨i, rfl, .inr ⟨i, hlt, rfl, ?_, fun j hj => HNO.out j (by omega) hj⟩⟩, HB2.out⟩
        rw [← HEN.out]
        exact HPB.out.symm
      | false =>
        go_wp2_with fail
        go_roundw
        case rel =>
          refine ⟨i + 1, by go_num, hlt, fun j hj hji => ?_, HB2.out⟩
          by_cases g : j = i
          · subst g
            rw [← HEN.out]
            exact HPB.out.symm
          · exact HNO.out j hj (by omega)
        case measure => simp [intOf]; omega
    · obtain rfl : i = L.length := by omega
      go_wp2_with fail
      go_ret
      refine ⟨⟨-1, rfl, .inl ⟨rfl, fun x hx => ?_⟩⟩, HBR.out⟩
      obtain ⟨j, hj, rfl⟩ := List.mem_iff_getElem.1 hx
      exact HNO.out j hj hj
set_option maxRecDepth 100000 in
theorem cloTwi_any (x1 x2 x3 x4 x5 : Int) (sa : Option Addr) (sn sc : Nat) (id : Int) (V : Nat) (w : World) (hV0 : w.cell? ⟨V, 0, none⟩ = some (.int .i64 id)) (hVl : V < w.heap.size) :
    Calls Tryz.prog 31 #[.agg #[.int .i64 x1, .int .i64 x2, .int .i64 x3, .int .i64 x4, .int .i64 x5, .slice sa sn sc], .pointer (some ⟨V, 0, none⟩)] w fun e w' => e = .returned (.bool (x1 == id)) ∧ Below w.heap.size w w' := by
  have k0 := Has.new w #[.int .i64 x1, .int .i64 x2, .int .i64 x3, .int .i64 x4, .int .i64 x5, .slice sa sn sc] 38
  have b0 : Below w.heap.size w (w.alloc (.cells #[.int .i64 x1, .int .i64 x2, .int .i64 x3, .int .i64 x4, .int .i64 x5, .slice sa sn sc] 38)) := (Below.refl _ _).alloc (Nat.le_refl _) _
  have x0 := k0.cell 0
  have x1 := k0.cell 1
  have v0 := (below_cell b0 hVl).trans hV0
  have HB := Lib.hid b0
  clear k0 b0 hV0
  go_enter Tryz.func31, Tryz.ntmps31
  go_wp2_with fail
  all_goals go_ret
  all_goals (refine ⟨?_, HB.out⟩; first | rfl | (congr 1; done) | (simp_all; done))
set_option maxRecDepth 100000 in
set_option maxHeartbeats 4000000 in
theorem IndexTwi_any (v : Value) (L : List WkD) (id : Int) (V : Nat) (w : World) (h : Wks w v L) (hV0 : w.cell? ⟨V, 0, none⟩ = some (.int .i64 id)) (hVl : V < w.heap.size) (hl : L.length ≤ 9223372036854775807) :
    Calls Tryz.prog 51 #[v, .func (.func 31) #[] #[.pointer (some ⟨V, 0, none⟩)]] w fun e w' => (∃ k : Int, e = .returned (.int .i64 k) ∧ ((k = -1 ∧ ∀ x ∈ L, (x.ticket == id) = false) ∨ ∃ n, ∃ h : n < L.length, k = (n : Int) ∧ (L[n].ticket == id) = true ∧ ∀ j (hj : j < n), ((L[j]).ticket == id) = false)) ∧ Below w.heap.size w w' := by
  obtain ⟨a, cap, rfl⟩ := SliceAt.len h
  have H := Lib.hid h
  have HV0 := Lib.hid hV0
  clear h hV0
  go_enter Tryz.func51, Tryz.ntmps51
  go_wp2_with fail
  go_loopw [8] (fun qv wr => ∃ i : Nat, qv = .int .i64 ((i : Nat) : Int) ∧ i ≤ L.length ∧ (∀ j (hj : j < L.length), j < i → (L[j].ticket == id) = false) ∧ Below w.heap.size w wr) (fun qv _ => L.length - (intOf qv).toNat)
  case atStart => exact ⟨0, rfl, Nat.zero_le _, fun j _ hj => absurd hj (by omega), Below.refl _ _⟩
  case round =>
    obtain ⟨i, rfl, hi, hno, hbr⟩ := hrel
    have HBR := Lib.hid hbr
    have HNO := Lib.hid hno
    clear hbr hno
    by_cases hlt : i < L.length
    · obtain ⟨b, off, cap', hv, hb, hel⟩ := Wks.at (H.out.below HBR.out) (by omega)
      cases hv
      obtain ⟨u, e0, e1, e2, e3, e4, e5, hsk⟩ := hel i hlt
      obtain ⟨sa, sc, rfl⟩ := SliceAt.len hsk
      obtain ⟨sn, hsn⟩ : ∃ sn, sn = (L[i].needs).length := ⟨_, rfl⟩
      rw [← hsn] at e5
      clear hel hsk hsn
      obtain ⟨en, hen⟩ : ∃ en, en = L[i] := ⟨_, rfl⟩
      rw [← hen] at e0 e1 e2 e3 e4
      obtain ⟨x1, x2, x3, x4, x5, sk⟩ := en
      have HEN := Lib.hid hen
      simp only at e0 e1 e2 e3 e4
      have HC := Lib.hid (cloTwi_any x1 x2 x3 x4 x5 sa sn sc id V wr ((below_cell HBR.out hVl).trans HV0.out) (Nat.lt_of_lt_of_le hVl HBR.out.size))
      clear hen
      go_wp2_with fail
      refine HC.out.mono ?_
      rintro e w2 ⟨rfl, hb2⟩
      have HB2 := Lib.hid (below_up HBR.out hb2 HBR.out.size)
      clear hb2 e0 e1 e2 e3 e4 e5
      obtain ⟨pb, hpb⟩ : ∃ pb : Bool, pb = (x1 == id) := ⟨_, rfl⟩
      rw [← hpb]
      have HPB := Lib.hid hpb
      clear hpb
      cases pb with
      | true =>
        go_wp2_with fail
        go_ret
        refine ⟨⟨i, rfl, .inr ⟨i, hlt, rfl, ?_, fun j hj => HNO.out j (by omega) hj⟩⟩, HB2.out⟩
        rw [← HEN.out]
        exact HPB.out.symm
      | false =>
        go_wp2_with fail
        go_roundw
        case rel =>
          refine ⟨i + 1, by go_num, hlt, fun j hj hji => ?_, HB2.out⟩
          by_cases g : j = i
          · subst g
            rw [← HEN.out]
            exact HPB.out.symm
          · exact HNO.out j hj (by omega)
        case measure => simp [intOf]; omega
    · obtain rfl : i = L.length := by omega
      go_wp2_with fail
      go_ret
      refine ⟨⟨-1, rfl, .inl ⟨rfl, fun x hx => ?_⟩⟩, HBR.out⟩
      obtain ⟨j, hj, rfl⟩ := List.mem_iff_getElem.1 hx
      exact HNO.out j hj hj
set_option maxRecDepth 100000 in
set_option maxHeartbeats 4000000 in
theorem ContainsTwi_any (v : Value) (L : List WkD) (id : Int) (V : Nat) (w : World) (h : Wks w v L) (hV0 : w.cell? ⟨V, 0, none⟩ = some (.int .i64 id)) (hVl : V < w.heap.size) (hl : L.length ≤ 9223372036854775807) :
    Calls Tryz.prog 30 #[v, .func (.func 31) #[] #[.pointer (some ⟨V, 0, none⟩)]] w fun e w' => e = .returned (.bool (L.any fun x => x.ticket == id)) ∧ Below w.heap.size w w' := by
  have HC := Lib.hid (IndexTwi_any v L id V w h hV0 hVl hl)
  clear h hV0
  go_enter Tryz.func30, Tryz.ntmps30
  go_wp2_with fail
  refine HC.out.mono ?_
  rintro e w2 ⟨⟨k, rfl, hk⟩, hb2⟩
  have HK := Lib.hid (show decide (0 ≤ k) = L.any fun x => x.ticket == id from by
    rcases hk with ⟨rfl, hn⟩ | ⟨n, hn, rfl, ht, _⟩
    · have : (L.any fun x => x.ticket == id) = false := List.any_eq_false.2 fun x hx => by rw [hn x hx]; decide
      rw [this]; rfl
    · have : (L.any fun x => x.ticket == id) = true := List.any_eq_true.2 ⟨_, List.getElem_mem hn, ht⟩
      rw [this]; exact decide_eq_true (by omega))
  have HB2 := Lib.hid hb2
  clear hk hb2 HC
  go_wp2_with fail
  go_ret
  exact ⟨by rw [← HK.out]; rfl, HB2.out⟩
set_option maxRecDepth 100000 in
theorem cloHlt_any (x1 x2 x3 x4 : Int) (id : Int) (V : Nat) (w : World) (hV0 : w.cell? ⟨V, 0, none⟩ = some (.int .i64 id)) (hVl : V < w.heap.size) :
    Calls Tryz.prog 18 #[.agg #[.int .i64 x1, .int .i64 x2, .int .i64 x3, .int .i64 x4], .pointer (some ⟨V, 0, none⟩)] w fun e w' => e = .returned (.bool (x1 == id)) ∧ Below w.heap.size w w' := by
  have k0 := Has.new w #[.int .i64 x1, .int .i64 x2, .int .i64 x3, .int .i64 x4] 33
  have b0 : Below w.heap.size w (w.alloc (.cells #[.int .i64 x1, .int .i64 x2, .int .i64 x3, .int .i64 x4] 33)) := (Below.refl _ _).alloc (Nat.le_refl _) _
  have x0 := k0.cell 0
  have x1 := k0.cell 1
  have v0 := (below_cell b0 hVl).trans hV0
  have HB := Lib.hid b0
  clear k0 b0 hV0
  go_enter Tryz.func18, Tryz.ntmps18
  go_wp2_with fail
  all_goals go_ret
  all_goals (refine ⟨?_, HB.out⟩; first | rfl | (congr 1; done) | (simp_all; done))
set_option maxRecDepth 100000 in
set_option maxHeartbeats 4000000 in
theorem IndexHlt_any (v : Value) (L : List HdD) (id : Int) (V : Nat) (w : World) (h : Hds w v L) (hV0 : w.cell? ⟨V, 0, none⟩ = some (.int .i64 id)) (hVl : V < w.heap.size) (hl : L.length ≤ 9223372036854775807) :
    Calls Tryz.prog 33 #[v, .func (.func 18) #[] #[.pointer (some ⟨V, 0, none⟩)]] w fun e w' => (∃ k : Int, e = .returned (.int .i64 k) ∧ ((k = -1 ∧ ∀ x ∈ L, (x.ticket == id) = false) ∨ ∃ n, ∃ h : n < L.length, k = (n : Int) ∧ (L[n].ticket == id) = true ∧ ∀ j (hj : j < n), ((L[j]).ticket == id) = false)) ∧ Below w.heap.size w w' := by
  obtain ⟨a, cap, rfl⟩ := SliceAt.len h
  have H := Lib.hid h
  have HV0 := Lib.hid hV0
  clear h hV0
  go_enter Tryz.func33, Tryz.ntmps33
  go_wp2_with fail
  go_loopw [8] (fun qv wr => ∃ i : Nat, qv = .int .i64 ((i : Nat) : Int) ∧ i ≤ L.length ∧ (∀ j (hj : j < L.length), j < i → (L[j].ticket == id) = false) ∧ Below w.heap.size w wr) (fun qv _ => L.length - (intOf qv).toNat)
  case atStart => exact ⟨0, rfl, Nat.zero_le _, fun j _ hj => absurd hj (by omega), Below.refl _ _⟩
  case round =>
    obtain ⟨i, rfl, hi, hno, hbr⟩ := hrel
    have HBR := Lib.hid hbr
    have HNO := Lib.hid hno
    clear hbr hno
    by_cases hlt : i < L.length
    · obtain ⟨b, off, cap', hv, hb, hel⟩ := Hds.at (H.out.below HBR.out) (by omega)
      cases hv
      obtain ⟨e0, e1, e2, e3⟩ := hel i hlt
      clear hel 
      obtain ⟨en, hen⟩ : ∃ en, en = L[i] := ⟨_, rfl⟩
      rw [← hen] at e0 e1 e2 e3
      obtain ⟨x1, x2, x3, x4⟩ := en
      have HEN := Lib.hid hen
      simp only at e0 e1 e2 e3
      have HC := Lib.hid (cloHlt_any x1 x2 x3 x4 id V wr ((below_cell HBR.out hVl).trans HV0.out) (Nat.lt_of_lt_of_le hVl HBR.out.size))
      clear hen
      go_wp2_with fail
      refine HC.out.mono ?_
      rintro e w2 ⟨rfl, hb2⟩
      have HB2 := Lib.hid (below_up HBR.out hb2 HBR.out.size)
      clear hb2 e0 e1 e2 e3
      obtain ⟨pb, hpb⟩ : ∃ pb : Bool, pb = (x1 == id) := ⟨_, rfl⟩
      rw [← hpb]
      have HPB := Lib.hid hpb
      clear hpb
      cases pb with
      | true =>
        go_wp2_with fail
        go_ret
        refine ⟨⟨i, rfl, .inr ⟨i, hlt, rfl, ?_, fun j hj => HNO.out j (by omega) hj⟩⟩, HB2.out⟩
        rw [← HEN.out]
        exact HPB.out.symm
      | false =>
        go_wp2_with fail
        go_roundw
        case rel =>
          refine ⟨i + 1, by go_num, hlt, fun j hj hji => ?_, HB2.out⟩
          by_cases g : j = i
          · subst g
            rw [← HEN.out]
            exact HPB.out.symm
          · exact HNO.out j hj (by omega)
        case measure => simp [intOf]; omega
    · obtain rfl : i = L.length := by omega
      go_wp2_with fail
      go_ret
      refine ⟨⟨-1, rfl, .inl ⟨rfl, fun x hx => ?_⟩⟩, HBR.out⟩
      obtain ⟨j, hj, rfl⟩ := List.mem_iff_getElem.1 hx
      exact HNO.out j hj hj
set_option maxRecDepth 100000 in
set_option maxHeartbeats 4000000 in
theorem ContainsHlt_any (v : Value) (L : List HdD) (id : Int) (V : Nat) (w : World) (h : Hds w v L) (hV0 : w.cell? ⟨V, 0, none⟩ = some (.int .i64 id)) (hVl : V < w.heap.size) (hl : L.length ≤ 9223372036854775807) :
    Calls Tryz.prog 17 #[v, .func (.func 18) #[] #[.pointer (some ⟨V, 0, none⟩)]] w fun e w' => e = .returned (.bool (L.any fun x => x.ticket == id)) ∧ Below w.heap.size w w' := by
  have HC := Lib.hid (IndexHlt_any v L id V w h hV0 hVl hl)
  clear h hV0
  go_enter Tryz.func17, Tryz.ntmps17
  go_wp2_with fail
  refine HC.out.mono ?_
  rintro e w2 ⟨⟨k, rfl, hk⟩, hb2⟩
  have HK := Lib.hid (show decide (0 ≤ k) = L.any fun x => x.ticket == id from by
    rcases hk with ⟨rfl, hn⟩ | ⟨n, hn, rfl, ht, _⟩
    · have : (L.any fun x => x.ticket == id) = false := List.any_eq_false.2 fun x hx => by rw [hn x hx]; decide
      rw [this]; rfl
    · have : (L.any fun x => x.ticket == id) = true := List.any_eq_true.2 ⟨_, List.getElem_mem hn, ht⟩
      rw [this]; exact decide_eq_true (by omega))
  have HB2 := Lib.hid hb2
  clear hk hb2 HC
  go_wp2_with fail
  go_ret
  exact ⟨by rw [← HK.out]; rfl, HB2.out⟩
set_option maxRecDepth 100000 in
theorem cloAbl_any (x1 : ByteArray) (x2 : Int) (nam : ByteArray) (rk : Int) (V : Nat) (w : World) (hV0 : w.cell? ⟨V, 0, none⟩ = some (.string nam)) (hV1 : w.cell? ⟨V, 1, none⟩ = some (.int .i64 rk)) (hVl : V < w.heap.size) :
    Calls Tryz.prog 73 #[.agg #[.string x1, .int .i64 x2], .pointer (some ⟨V, 0, none⟩)] w fun e w' => e = .returned (.bool ((x1.toList == nam.toList) && decide (rk ≤ x2))) ∧ Below w.heap.size w w' := by
  have k0 := Has.new w #[.string x1, .int .i64 x2] 96
  have b0 : Below w.heap.size w (w.alloc (.cells #[.string x1, .int .i64 x2] 96)) := (Below.refl _ _).alloc (Nat.le_refl _) _
  have x0 := k0.cell 0
  have x1 := k0.cell 1
  have v0 := (below_cell b0 hVl).trans hV0
  have v1 := (below_cell b0 hVl).trans hV1
  have HB := Lib.hid b0
  clear k0 b0 hV0 hV1
  go_enter Tryz.func73, Tryz.ntmps73
  go_wp2_with fail
  all_goals go_ret
  all_goals (refine ⟨?_, HB.out⟩; first | rfl | (congr 1; done) | (simp_all; done))
set_option maxRecDepth 100000 in
set_option maxHeartbeats 4000000 in
theorem IndexAbl_any (v : Value) (L : List Skl) (nam : ByteArray) (rk : Int) (V : Nat) (w : World) (h : Skls w v L) (hV0 : w.cell? ⟨V, 0, none⟩ = some (.string nam)) (hV1 : w.cell? ⟨V, 1, none⟩ = some (.int .i64 rk)) (hVl : V < w.heap.size) (hl : L.length ≤ 9223372036854775807) :
    Calls Tryz.prog 105 #[v, .func (.func 73) #[] #[.pointer (some ⟨V, 0, none⟩)]] w fun e w' => (∃ k : Int, e = .returned (.int .i64 k) ∧ ((k = -1 ∧ ∀ x ∈ L, ((x.1.toList == nam.toList) && decide (rk ≤ x.2)) = false) ∨ ∃ n, ∃ h : n < L.length, k = (n : Int) ∧ ((L[n].1.toList == nam.toList) && decide (rk ≤ L[n].2)) = true ∧ ∀ j (hj : j < n), (((L[j]).1.toList == nam.toList) && decide (rk ≤ (L[j]).2)) = false)) ∧ Below w.heap.size w w' := by
  obtain ⟨a, cap, rfl⟩ := SliceAt.len h
  have H := Lib.hid h
  have HV0 := Lib.hid hV0
  have HV1 := Lib.hid hV1
  clear h hV0 hV1
  go_enter Tryz.func105, Tryz.ntmps105
  go_wp2_with fail
  go_loopw [8] (fun qv wr => ∃ i : Nat, qv = .int .i64 ((i : Nat) : Int) ∧ i ≤ L.length ∧ (∀ j (hj : j < L.length), j < i → ((L[j].1.toList == nam.toList) && decide (rk ≤ L[j].2)) = false) ∧ Below w.heap.size w wr) (fun qv _ => L.length - (intOf qv).toNat)
  case atStart => exact ⟨0, rfl, Nat.zero_le _, fun j _ hj => absurd hj (by omega), Below.refl _ _⟩
  case round =>
    obtain ⟨i, rfl, hi, hno, hbr⟩ := hrel
    have HBR := Lib.hid hbr
    have HNO := Lib.hid hno
    clear hbr hno
    by_cases hlt : i < L.length
    · obtain ⟨b, off, cap', hv, hb, hel⟩ := Skls.at (H.out.below HBR.out) (by omega)
      cases hv
      obtain ⟨e0, e1, hsz⟩ := hel i hlt
      clear hel hsz
      obtain ⟨en, hen⟩ : ∃ en, en = L[i] := ⟨_, rfl⟩
      rw [← hen] at e0 e1
      obtain ⟨x1, x2⟩ := en
      have HEN := Lib.hid hen
      simp only at e0 e1
      have HC := Lib.hid (cloAbl_any x1 x2 nam rk V wr ((below_cell HBR.out hVl).trans HV0.out) ((below_cell HBR.out hVl).trans HV1.out) (Nat.lt_of_lt_of_le hVl HBR.out.size))
      clear hen
      go_wp2_with fail
      refine HC.out.mono ?_
      rintro e w2 ⟨rfl, hb2⟩
      have HB2 := Lib.hid (below_up HBR.out hb2 HBR.out.size)
      clear hb2 e0 e1
      obtain ⟨pb, hpb⟩ : ∃ pb : Bool, pb = ((x1.toList == nam.toList) && decide (rk ≤ x2)) := ⟨_, rfl⟩
      rw [← hpb]
      have HPB := Lib.hid hpb
      clear hpb
      cases pb with
      | true =>
        go_wp2_with fail
        go_ret
        refine ⟨⟨i, rfl, .inr ⟨i, hlt, rfl, ?_, fun j hj => HNO.out j (by omega) hj⟩⟩, HB2.out⟩
        rw [← HEN.out]
        exact HPB.out.symm
      | false =>
        go_wp2_with fail
        go_roundw
        case rel =>
          refine ⟨i + 1, by go_num, hlt, fun j hj hji => ?_, HB2.out⟩
          by_cases g : j = i
          · subst g
            rw [← HEN.out]
            exact HPB.out.symm
          · exact HNO.out j hj (by omega)
        case measure => simp [intOf]; omega
    · obtain rfl : i = L.length := by omega
      go_wp2_with fail
      go_ret
      refine ⟨⟨-1, rfl, .inl ⟨rfl, fun x hx => ?_⟩⟩, HBR.out⟩
      obtain ⟨j, hj, rfl⟩ := List.mem_iff_getElem.1 hx
      exact HNO.out j hj hj
set_option maxRecDepth 100000 in
set_option maxHeartbeats 4000000 in
theorem ContainsAbl_any (v : Value) (L : List Skl) (nam : ByteArray) (rk : Int) (V : Nat) (w : World) (h : Skls w v L) (hV0 : w.cell? ⟨V, 0, none⟩ = some (.string nam)) (hV1 : w.cell? ⟨V, 1, none⟩ = some (.int .i64 rk)) (hVl : V < w.heap.size) (hl : L.length ≤ 9223372036854775807) :
    Calls Tryz.prog 72 #[v, .func (.func 73) #[] #[.pointer (some ⟨V, 0, none⟩)]] w fun e w' => e = .returned (.bool (L.any fun x => (x.1.toList == nam.toList) && decide (rk ≤ x.2))) ∧ Below w.heap.size w w' := by
  have HC := Lib.hid (IndexAbl_any v L nam rk V w h hV0 hV1 hVl hl)
  clear h hV0 hV1
  go_enter Tryz.func72, Tryz.ntmps72
  go_wp2_with fail
  refine HC.out.mono ?_
  rintro e w2 ⟨⟨k, rfl, hk⟩, hb2⟩
  have HK := Lib.hid (show decide (0 ≤ k) = L.any fun x => (x.1.toList == nam.toList) && decide (rk ≤ x.2) from by
    rcases hk with ⟨rfl, hn⟩ | ⟨n, hn, rfl, ht, _⟩
    · have : (L.any fun x => (x.1.toList == nam.toList) && decide (rk ≤ x.2)) = false := List.any_eq_false.2 fun x hx => by rw [hn x hx]; decide
      rw [this]; rfl
    · have : (L.any fun x => (x.1.toList == nam.toList) && decide (rk ≤ x.2)) = true := List.any_eq_true.2 ⟨_, List.getElem_mem hn, ht⟩
      rw [this]; exact decide_eq_true (by omega))
  have HB2 := Lib.hid hb2
  clear hk hb2 HC
  go_wp2_with fail
  go_ret
  exact ⟨by rw [← HK.out]; rfl, HB2.out⟩
end Go.Proofs.YtemikhnkjligdaaGreatDoor

/- The walks of route's checks: a moment, a person's position. -/
namespace Go.Proofs.YtemikhnkjligdaaGreatDoor
open Go.RowKit

theorem rmoment_any (m : Int) (w : World) :
    Calls Tryz.prog 16 #[.int .i64 m] w fun e w' => (∃ k, e = .returned (.int .i64 k) ∧ (k = 0 ↔ 0 ≤ m ∧ m ≤ 3000000)) ∧ w = w' := by
  go_enter Tryz.func16, Tryz.ntmps16
  by_cases h : 0 ≤ m ∧ m ≤ 3000000
  · have q : (decide ((0 : Int) ≤ m) && decide (m ≤ 3000000)) = true := by simpa using h
    have HG := Lib.hid h
    clear h
    go_wp2_with (go_at_call 28; refine (rwithin_any _ _ _ _).mono ?_; rintro e w' ⟨rfl, rfl⟩)
    all_goals go_ret
    all_goals exact ⟨⟨_, rfl, ⟨fun _ => HG.out, fun _ => by rfl⟩⟩, rfl⟩
  · have q : (decide ((0 : Int) ≤ m) && decide (m ≤ 3000000)) = false := by
      rw [Bool.eq_false_iff]
      intro g
      exact h (by simpa using g)
    have HG := Lib.hid h
    clear h
    go_wp2_with (go_at_call 28; refine (rwithin_any _ _ _ _).mono ?_; rintro e w' ⟨rfl, rfl⟩)
    all_goals go_ret
    all_goals exact ⟨⟨_, rfl, ⟨fun g => absurd g (by decide), fun g => absurd g HG.out⟩⟩, rfl⟩
/-- where a person's number stands -/
def PosIs (ps : List PerD) (no : Int) (k : Int) : Prop := (k = -1 ∧ ∀ x ∈ ps, (x.no == no) = false) ∨ ∃ n, ∃ h : n < ps.length, k = (n : Int) ∧ (ps[n].no == no) = true ∧ ∀ j (hj : j < n), ((ps[j]).no == no) = false
theorem position_any (v : Value) (ps : List PerD) (no : Int) (w : World) (h : Pers w v ps) (hl : ps.length ≤ 9223372036854775807) :
    Calls Tryz.prog 29 #[v, .int .i64 no] w fun e w' => (∃ k, e = .returned (.int .i64 k) ∧ PosIs ps no k) ∧ Below w.heap.size w w' := by
  obtain ⟨a, cap, rfl⟩ := SliceAt.len h
  obtain ⟨bx, bbl⟩ := box1 w #[.int .i64 no] 3
  have k0 := bx.cell 0
  have HC := Lib.hid (IndexPos_any _ ps no w.heap.size _ (h.below bbl) k0 bx.lt hl)
  have HB := Lib.hid bbl
  clear h bx bbl k0
  go_enter Tryz.func29, Tryz.ntmps29
  go_wp2_with fail
  refine HC.out.mono ?_
  rintro e w2 ⟨⟨k, rfl, hk⟩, hb2⟩
  have HK := Lib.hid hk
  have HB2 := Lib.hid (below_up HB.out hb2 HB.out.size)
  clear hk hb2 HC
  go_wp2_with fail
  go_ret
  exact ⟨⟨k, rfl, HK.out⟩, HB2.out⟩
end Go.Proofs.YtemikhnkjligdaaGreatDoor
