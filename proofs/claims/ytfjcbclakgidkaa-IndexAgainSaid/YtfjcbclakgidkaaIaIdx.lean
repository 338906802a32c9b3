/- slices.IndexFunc, Clone at entries. -/
import Derived.Test.YtfjcbclakgidkaaIaNew
import Derived.Test.YtfjcbclakgidkaaIaIn3
namespace Go.Proofs.Ytfjcbclakgidkaa
open Go.RowKit

set_option maxRecDepth 100000 in
theorem ge_any (i id : Int) (t b : ByteArray) (V : Nat) (w : World) (hV : w.cell? ⟨V, 0, none⟩ = some (.int .i64 id)) (hVl : V < w.heap.size) :
    Calls Try.prog 8 #[.agg #[.int .i64 i, .string t, .string b], .pointer (some ⟨V, 0, none⟩)] w fun e w' => e = .returned (.bool (decide (id ≤ i))) ∧ Below w.heap.size w w' := by
  have k0 := Has.new w #[.int .i64 i, .string t, .string b] 24
  have b0 : Below w.heap.size w (w.alloc (.cells #[.int .i64 i, .string t, .string b] 24)) := (Below.refl _ _).alloc (Nat.le_refl _) _
  have x0 := k0.cell 0
  have v0 := (below_cell b0 hVl).trans hV
  have HB := Lib.hid b0
  clear k0 b0 hV
  go_enter Try.func8, Try.ntmps8
  go_wp2_with fail
  go_ret
  exact ⟨by first | rfl | (congr 1) | (simp), HB.out⟩
set_option maxRecDepth 100000 in
theorem eq_any (i id : Int) (t b : ByteArray) (V : Nat) (w : World) (hV : w.cell? ⟨V, 0, none⟩ = some (.int .i64 id)) (hVl : V < w.heap.size) :
    Calls Try.prog 14 #[.agg #[.int .i64 i, .string t, .string b], .pointer (some ⟨V, 0, none⟩)] w fun e w' => e = .returned (.bool (i == id)) ∧ Below w.heap.size w w' := by
  have k0 := Has.new w #[.int .i64 i, .string t, .string b] 24
  have b0 : Below w.heap.size w (w.alloc (.cells #[.int .i64 i, .string t, .string b] 24)) := (Below.refl _ _).alloc (Nat.le_refl _) _
  have x0 := k0.cell 0
  have v0 := (below_cell b0 hVl).trans hV
  have HB := Lib.hid b0
  clear k0 b0 hV
  go_enter Try.func14, Try.ntmps14
  go_wp2_with fail
  go_ret
  exact ⟨by first | rfl | (congr 1) | (simp), HB.out⟩
set_option maxRecDepth 100000 in
set_option maxHeartbeats 4000000 in
theorem IndexGe_any (v : Value) (L : List EnM) (id : Int) (V : Nat) (w : World) (h : EntsAt w v L) (hV : w.cell? ⟨V, 0, none⟩ = some (.int .i64 id)) (hVl : V < w.heap.size) (hl : L.length ≤ 100000) :
    Calls Try.prog 7 #[v, .func (.func 8) #[] #[.pointer (some ⟨V, 0, none⟩)]] w fun e w' => (∃ k : Int, e = .returned (.int .i64 k) ∧ ((k = -1 ∧ ∀ x ∈ L, (decide (id ≤ x.1)) = false) ∨ ∃ n, ∃ h : n < L.length, k = (n : Int) ∧ (decide (id ≤ L[n].1)) = true ∧ ∀ j (hj : j < n), (decide (id ≤ (L[j]).1)) = false)) ∧ Below w.heap.size w w' := by
  obtain ⟨a, cap, rfl, hla⟩ := h.two
  have H := Lib.hid h
  have HVV := Lib.hid hV
  clear h hV
  go_enter Try.func7, Try.ntmps7
  go_wp2_with fail
  go_loopw [8] (fun qv wr => ∃ i : Nat, qv = .int .i64 ((i : Nat) : Int) ∧ i ≤ L.length ∧ (∀ j (hj : j < L.length), j < i → (decide (id ≤ L[j].1)) = false) ∧ Below w.heap.size w wr) (fun qv _ => L.length - (intOf qv).toNat)
  case atStart => exact ⟨0, rfl, Nat.zero_le _, fun j _ hj => absurd hj (by omega), Below.refl _ _⟩
  case round =>
    obtain ⟨i, rfl, hi, hno, hbr⟩ := hrel
    have HBR := Lib.hid hbr
    have HNO := Lib.hid hno
    clear hbr hno
    by_cases hlt : i < L.length
    · obtain ⟨b, off, ha⟩ := hla (by omega)
      subst ha
      obtain ⟨e1, e2, e3, e4⟩ := (H.out.below HBR.out).cells hlt
      obtain ⟨en, hen⟩ : ∃ en, en = L[i] := ⟨_, rfl⟩
      rw [← hen] at e2 e3 e4
      obtain ⟨ei, et, eb⟩ := en
      have HEN := Lib.hid hen
      have HC := Lib.hid (ge_any ei id et eb V wr ((below_cell HBR.out hVl).trans HVV.out) (Nat.lt_of_lt_of_le hVl HBR.out.size))
      clear hen
      go_wp2_with fail
      refine HC.out.mono ?_
      rintro e w2 ⟨rfl, hb2⟩
      have HB2 := Lib.hid (below_up HBR.out hb2 HBR.out.size)
      clear hb2 e1 e2 e3 e4
      obtain ⟨pb, hpb⟩ : ∃ pb : Bool, pb = (decide (id ≤ ei)) := ⟨_, rfl⟩
      rw [← hpb]
      have HPB := Lib.hid hpb
      clear hpb
      cases pb with
      | true =>
        go_wp2_with fail
        go_ret
        refine ⟨⟨i, rfl, .inr ⟨i, hlt, rfl, ?_, fun j hj => HNO.out j (by omega) hj⟩⟩, HB2.out⟩
        rw [← HEN.out]
        exact HPB.out.symm
      | false =>
        go_wp2_with fail
        go_roundw
        case rel =>
          refine ⟨i + 1, by go_num, hlt, fun j hj hji => ?_, HB2.out⟩
          by_cases g : j = i
          · subst g
            rw [← HEN.out]
            exact HPB.out.symm
          · exact HNO.out j hj (by omega)
        case measure => simp [intOf]; omega
    · obtain rfl : i = L.length := by omega
      go_wp2_with fail
      go_ret
      refine ⟨⟨-1, rfl, .inl ⟨rfl, fun x hx => ?_⟩⟩, HBR.out⟩
      obtain ⟨j, hj, rfl⟩ := List.mem_iff_getElem.1 hx
      exact HNO.out j hj hj
set_option maxRecDepth 100000 in
set_option maxHeartbeats 4000000 in
theorem IndexEq_any (v : Value) (L : List EnM) (id : Int) (V : Nat) (w : World) (h : EntsAt w v L) (hV : w.cell? ⟨V, 0, none⟩ = some (.int .i64 id)) (hVl : V < w.heap.size) (hl : L.length ≤ 100000) :
    Calls Try.prog 7 #[v, .func (.func 14) #[] #[.pointer (some ⟨V, 0, none⟩)]] w fun e w' => (∃ k : Int, e = .returned (.int .i64 k) ∧ ((k = -1 ∧ ∀ x ∈ L, (x.1 == id) = false) ∨ ∃ n, ∃ h : n < L.length, k = (n : Int) ∧ (L[n].1 == id) = true ∧ ∀ j (hj : j < n), ((L[j]).1 == id) = false)) ∧ Below w.heap.size w w' := by
  obtain ⟨a, cap, rfl, hla⟩ := h.two
  have H := Lib.hid h
  have HVV := Lib.hid hV
  clear h hV
  go_enter Try.func7, Try.ntmps7
  go_wp2_with fail
  go_loopw [8] (fun qv wr => ∃ i : Nat, qv = .int .i64 ((i : Nat) : Int) ∧ i ≤ L.length ∧ (∀ j (hj : j < L.length), j < i → (L[j].1 == id) = false) ∧ Below w.heap.size w wr) (fun qv _ => L.length - (intOf qv).toNat)
  case atStart => exact ⟨0, rfl, Nat.zero_le _, fun j _ hj => absurd hj (by omega), Below.refl _ _⟩
  case round =>
    obtain ⟨i, rfl, hi, hno, hbr⟩ := hrel
    have HBR := Lib.hid hbr
    have HNO := Lib.hid hno
    clear hbr hno
    by_cases hlt : i < L.length
    · obtain ⟨b, off, ha⟩ := hla (by omega)
      subst ha
      obtain ⟨e1, e2, e3, e4⟩ := (H.out.below HBR.out).cells hlt
      obtain ⟨en, hen⟩ : ∃ en, en = L[i] := ⟨_, rfl⟩
      rw [← hen] at e2 e3 e4
      obtain ⟨ei, et, eb⟩ := en
      have HEN := Lib.hid hen
      have HC := Lib.hid (eq_any ei id et eb V wr ((below_cell HBR.out hVl).trans HVV.out) (Nat.lt_of_lt_of_le hVl HBR.out.size))
      clear hen
      go_wp2_with fail
      refine HC.out.mono ?_
      rintro e w2 ⟨rfl, hb2⟩
      have HB2 := Lib.hid (below_up HBR.out hb2 HBR.out.size)
      clear hb2 e1 e2 e3 e4
      obtain ⟨pb, hpb⟩ : ∃ pb : Bool, pb = (ei == id) := ⟨_, rfl⟩
      rw [← hpb]
      have HPB := Lib.hid hpb
      clear hpb
      cases pb with
      | true =>
        go_wp2_with fail
        go_ret
        refine ⟨⟨i, rfl, .inr ⟨i, hlt, rfl, ?_, fun j hj => HNO.out j (by omega) hj⟩⟩, HB2.out⟩
        rw [← HEN.out]
        exact HPB.out.symm
      | false =>
        go_wp2_with fail
        go_roundw
        case rel =>
          refine ⟨i + 1, by go_num, hlt, fun j hj hji => ?_, HB2.out⟩
          by_cases g : j = i
          · subst g
            rw [← HEN.out]
            exact HPB.out.symm
          · exact HNO.out j hj (by omega)
        case measure => simp [intOf]; omega
    · obtain rfl : i = L.length := by omega
      go_wp2_with fail
      go_ret
      refine ⟨⟨-1, rfl, .inl ⟨rfl, fun x hx => ?_⟩⟩, HBR.out⟩
      obtain ⟨j, hj, rfl⟩ := List.mem_iff_getElem.1 hx
      exact HNO.out j hj hj

def encE (e : EnM) : List Value := [.int .i64 e.1, .string e.2.1, .string e.2.2]
theorem encE_len (L : List EnM) : (L.flatMap encE).length = L.length * 3 := by
  induction L with
  | nil => rfl
  | cons x r ih => rw [List.flatMap_cons, List.length_append, ih, List.length_cons]; simp [encE]; omega
theorem encE_one (L : List EnM) : ∀ u ∈ L.flatMap encE, u.oneCell' = true := by
  intro u hu
  obtain ⟨x, _, hx⟩ := List.mem_flatMap.1 hu
  simp only [encE, List.mem_cons, List.not_mem_nil, or_false] at hx
  rcases hx with rfl | rfl | rfl <;> rfl
theorem EntsAt.of_own {w : World} {B : Nat} {v : Value} {L : List EnM} (h : w.ownsRow B 24 3 v L.length (L.flatMap encE)) : EntsAt w v L := slice_of_owns encE h (fun _ _ => rfl) (fun _ _ => rfl)
theorem EntsAt.rows {w : World} {v : Value} {L : List EnM} (h : EntsAt w v L) : RowsAt 3 w v (L.map encE) := by
  rcases h with ⟨a, cap, rfl, rfl⟩ | ⟨b, off, cap, rfl, hc, hb, hel⟩
  · exact .inl ⟨a, cap, rfl, rfl⟩
  · refine .inr ⟨b, off, cap, by rw [List.length_map], by rw [List.length_map]; exact hc, hb, fun i hi => ?_⟩
    obtain ⟨cs, h1, h2⟩ := hel i (by simpa using hi)
    refine ⟨cs, h1, ?_⟩
    rw [List.getElem_map]
    exact h2
set_option maxRecDepth 100000 in
set_option maxHeartbeats 4000000 in
theorem cloneE (v : Value) (L : List EnM) (w : World) (h : EntsAt w v L) (hl : L.length ≤ 100000) :
    Calls Try.prog 9 #[v] w fun e w' => (∃ v', e = .returned v' ∧ w'.ownsRow w.heap.size 24 3 v' L.length (L.flatMap encE)) ∧ Below w.heap.size w w' := by
  have q22 : ∀ (w : World) (a : Option Addr) (n c n' c' : Nat), (binOp .eql 22 (.slice a n c) (.slice none n' c')).run Try.prog w = .ok (.bool a.isNone) w := fun w a n c n' c' => Lib.run_eql_slice_nil w _ _ a n c n' c' Try.underlying22
  have hown := World.ownsRow_lit (base := w.heap.size) (e := 24) (size := 3) w #[] 0 (Nat.le_refl _) (by unfold maxLen; omega) rfl
  have hb3 := (Below.refl w.heap.size w).alloc (Nat.le_refl _) (.cells #[] 24)
  have hrow := h.rows.below hb3
  rcases h with ⟨a, c, rfl, rfl⟩ | ⟨b, off, c, rfl, hc, hb, hel⟩
  · cases a with
    | none =>
      clear hown hb3 hrow
      go_enter Try.func9, Try.ntmps9
      go_wp2_with fail
      go_ret
      exact ⟨⟨_, rfl, ⟨rfl, .inl ⟨rfl, rfl⟩⟩⟩, Below.refl _ _⟩
    | some ad =>
      have HO := Lib.hid hown
      have HB := Lib.hid hb3
      clear hown hb3 hrow
      go_enter Try.func9, Try.ntmps9
      go_wp2_with (at_builtin; go_must (refine append_alla rfl _ _ 22 rfl w.heap.size 24 (.agg #[.int .i64 0, .string ⟨#[]⟩, .string ⟨#[]⟩]) 3 40 Try.underlying22 infoEn rfl (by decide) w (w.alloc (.cells #[] 24)) (.slice (some ⟨w.heap.size, 0, none⟩) 0 0) 0 [] rfl HO.out ad 0 c [] rfl rfl (fun j u hj => by cases hj) (fun u hu => by cases hu) (by omega) (by omega) HB.out.size HB.out ?_); intro v' w6 ho hb6)
      go_ret
      exact ⟨⟨_, rfl, ho⟩, hb6⟩
  · have HN := Lib.hid (show ∀ j u, (L.flatMap encE)[j]? = some u → (w.alloc (.cells #[] 24)).cell? ((⟨b, off, none⟩ : Addr).add j) = some u from fun j u hj => by
      by_cases h0 : L.length = 0
      · have : L = [] := List.eq_nil_of_length_eq_zero h0
        subst this
        cases hj
      · obtain ⟨b', off', cap', hv, hcc, hb', hel'⟩ := SliceAt.at hrow (by simp; omega)
        simp only [Value.slice.injEq, Option.some.injEq, Addr.mk.injEq] at hv
        obtain ⟨⟨rfl, rfl, _⟩, _, _⟩ := hv
        exact RowsAt.cell (c := 0) (n := 0) hel' (by decide) j u (by rw [List.flatMap_map]; exact hj))
    have HO := Lib.hid hown
    have HB := Lib.hid hb3
    clear hown hb3 hel hrow
    go_enter Try.func9, Try.ntmps9
    go_wp2_with (at_builtin; go_must (refine append_alla rfl _ _ 22 rfl w.heap.size 24 (.agg #[.int .i64 0, .string ⟨#[]⟩, .string ⟨#[]⟩]) 3 40 Try.underlying22 infoEn rfl (by decide) w (w.alloc (.cells #[] 24)) (.slice (some ⟨w.heap.size, 0, none⟩) 0 0) 0 [] rfl HO.out ⟨b, off, none⟩ L.length c (L.flatMap encE) rfl (encE_len L) HN.out (encE_one L) (by omega) (by omega) HB.out.size HB.out ?_); intro v' w6 ho hb6)
    go_ret
    refine ⟨⟨_, rfl, ?_⟩, hb6⟩
    simpa using ho
end Go.Proofs.Ytfjcbclakgidkaa
