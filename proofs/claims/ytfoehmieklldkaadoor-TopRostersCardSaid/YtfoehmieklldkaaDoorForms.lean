/- The walks of staff's checks of forms and numbers. -/
import Derived.Test.YtfoehmieklldkaaDoorChecks
import Derived.Test.YtfoehmieklldkaaDoorHeld
import Derived.Deep.CutBlock
namespace Go.Proofs.YtfoehmieklldkaaDoor
open Go.RowKit

def formR (_ : World) (cs : List Value) (x : Int × Int) : Prop := cs = [.int .i64 x.1, .int .i64 x.2]
theorem formR_stable : Stable formR := fun _ _ _ _ h _ => h
theorem form_cells {w : World} {b off : Nat} {l : List (Int × Int)} (h : ∀ i (h : i < l.length), ∃ cs, ElemAt w b off 2 i cs ∧ formR w cs l[i]) (i : Nat) (hi : i < l.length) :
    w.cell? ⟨b, off + i * 2, none⟩ = some (.int .i64 l[i].1) ∧ w.cell? ⟨b, off + i * 2 + 1, none⟩ = some (.int .i64 l[i].2) := by
  obtain ⟨cs, ⟨_, hc⟩, hr⟩ := h i hi
  cases hr
  exact ⟨by simpa using hc 0 (by simp), by simpa using hc 1 (by simp)⟩

def cmpI (a b : Int) : Int := if a < b then -1 else if b < a then 1 else 0
theorem nan_any (a : Int) (w : World) : Calls Tryd.prog 75 #[.int .i64 a] w fun e w' => e = .returned (.bool false) ∧ w = w' := by
  go_enter Tryd.func75, Tryd.ntmps75
  go_wp2
  go_ret
  exact ⟨by simp, rfl⟩
theorem cmp_any (a b : Int) (w : World) : Calls Tryd.prog 55 #[.int .i64 a, .int .i64 b] w fun e w' => e = .returned (.int .i64 (cmpI a b)) ∧ w = w' := by
  go_enter Tryd.func55, Tryd.ntmps55
  go_wp2_with (go_at_call 75; refine (nan_any _ _).mono ?_; rintro e w' ⟨rfl, rfl⟩)
  all_goals go_ret
  all_goals (refine ⟨ret_int ?_, rfl⟩; unfold cmpI; (repeat split) <;> omega)

set_option maxRecDepth 100000 in
theorem orInt_any (v : Value) (es : List Int) (w : World) (h : SliceAt 1 intR w v es) (hl : es.length ≤ 1000) :
    Calls Tryd.prog 54 #[v] w fun e w' => e = .returned (.int .i64 (orI es)) ∧ w = w' := by
  obtain ⟨a, cap, rfl⟩ := h.len
  have H := Lib.hid h
  clear h
  go_enter Tryd.func54, Tryd.ntmps54
  go_wp2_with fail
  go_loop [8] (fun iv => ∃ i : Nat, i ≤ es.length ∧ iv = .int .i64 i ∧ orI (es.drop i) = orI es) (fun iv => es.length - (intOf iv).toNat)
  case atStart => exact ⟨0, Nat.zero_le _, rfl, rfl⟩
  case round =>
    obtain ⟨i, hi, rfl, he⟩ := hrel
    have HE := Lib.hid he
    clear he
    by_cases hlt : i < es.length
    · obtain ⟨b, off, cap', hv, hcap, hb, hel⟩ := H.out.at (by omega)
      cases hv
      have c0 := ints_cell hel i es[i] (List.getElem?_eq_getElem hlt)
      have hd : es.drop i = es[i] :: es.drop (i + 1) := List.drop_eq_getElem_cons hlt
      have he := HE.out
      rw [hd, orI_cons] at he
      generalize es[i] = x at *
      by_cases hx : x = 0
      · subst hx
        rw [if_pos rfl] at he
        have HE2 := Lib.hid he
        clear he hd hel
        go_wp2
        go_round
        case rel => exact ⟨i + 1, by omega, by go_num, HE2.out⟩
        case measure => simp [intOf]; omega
      · rw [if_neg hx] at he
        have hb0 : (x == 0) = false := by simpa using hx
        have hb1 : (x != 0) = true := by simpa using hx
        have HE2 := Lib.hid he
        clear he hd hel hx
        go_wp2
        go_ret
        exact ⟨ret_int HE2.out, rfl⟩
    · obtain rfl : i = es.length := by omega
      have he := HE.out
      rw [List.drop_length] at he
      have HE2 := Lib.hid he
      clear he
      go_wp2
      go_ret
      exact ⟨ret_int HE2.out, rfl⟩

/-- whether all numbers are from 0 to 'most' -/
def numsE (most : Int) : List Int → Int
  | [] => 0
  | n :: r => if 0 ≤ n ∧ n ≤ most then numsE most r else 2
set_option maxRecDepth 100000 in
theorem checkNumbers_any (v : Value) (l : List Int) (most : Int) (w : World) (h : SliceAt 1 intR w v l) (hl : l.length ≤ 140737488355328) :
    Calls Tryd.prog 63 #[v, .int .i64 most] w fun e w' => e = .returned (.int .i64 (numsE most l)) ∧ w = w' := by
  obtain ⟨a, cap, rfl⟩ := h.len
  have H := Lib.hid h
  clear h
  go_enter Tryd.func63, Tryd.ntmps63
  go_wp2_with fail
  go_loop [6, 9] (fun _ iv => ∃ i : Nat, i ≤ l.length ∧ iv = .int .i64 i ∧ numsE most (l.drop i) = numsE most l) (fun _ iv => l.length - (intOf iv).toNat)
  case atStart => exact ⟨0, Nat.zero_le _, rfl, rfl⟩
  case round =>
    obtain ⟨i, hi, rfl, he⟩ := hrel
    have HE := Lib.hid he
    clear he
    by_cases hlt : i < l.length
    · obtain ⟨b, off, cap', hv, hcap, hb, hel⟩ := H.out.at (by omega)
      cases hv
      have c0 := ints_cell hel i l[i] (List.getElem?_eq_getElem hlt)
      have hd : l.drop i = l[i] :: l.drop (i + 1) := List.drop_eq_getElem_cons hlt
      have he := HE.out
      rw [hd] at he
      simp only [numsE] at he
      generalize l[i] = x at *
      by_cases hx : 0 ≤ x ∧ x ≤ most
      · rw [if_pos hx] at he
        have HE2 := Lib.hid he
        obtain ⟨hx1, hx2⟩ := hx
        clear he hd hel
        go_wp2_with (go_at_call 39; refine (within_any _ _ _ _).mono ?_; rintro e w' ⟨rfl, rfl⟩)
        go_round
        case rel => exact ⟨i + 1, by omega, by go_num, HE2.out⟩
        case measure => simp [intOf]; omega
      · rw [if_neg hx] at he
        have HE2 := Lib.hid he
        have hb0 : (decide (0 ≤ x) && decide (x ≤ most)) = false := by simpa using hx
        clear he hd hel hx
        go_wp2_with fail
        refine (within_any _ _ _ _).mono ?_
        rintro e w' ⟨rfl, rfl⟩
        rw [hb0]
        go_wp2
        go_ret
        exact ⟨ret_int HE2.out, rfl⟩
    · obtain rfl : i = l.length := by omega
      have he := HE.out
      rw [List.drop_length] at he
      have HE2 := Lib.hid he
      clear he
      go_wp2
      go_ret
      exact ⟨ret_int HE2.out, rfl⟩

def demandE (l : List Int) (most : Int) : Int := if 400 < l.length then 4 else numsE most l
set_option maxRecDepth 100000 in
theorem checkDemand_any (v : Value) (l : List Int) (most : Int) (w : World) (h : SliceAt 1 intR w v l) :
    Calls Tryd.prog 36 #[v, .int .i64 most] w fun e w' => e = .returned (.int .i64 (demandE l most)) ∧ w = w' := by
  obtain ⟨a, cap, rfl⟩ := h.len
  have H := Lib.hid h
  clear h
  unfold demandE
  by_cases hl : 400 < l.length
  · have hl' : (400 : Int) < (l.length : Int) := by omega
    rw [if_pos hl]
    go_enter Tryd.func36, Tryd.ntmps36
    go_wp2_with fail
    go_ret
    exact ⟨rfl, rfl⟩
  · have hl' : ¬ (400 : Int) < (l.length : Int) := by omega
    rw [if_neg hl]
    go_enter Tryd.func36, Tryd.ntmps36
    go_wp2_with fail
    refine (checkNumbers_any _ l most _ H.out (by omega)).mono ?_
    rintro e w' ⟨rfl, rfl⟩
    go_wp2_with fail
    go_ret
    exact ⟨rfl, rfl⟩

def planE (n : Nat) (p : List Int) : Int := if p.length = n then numsE 60 p else 1
set_option maxRecDepth 100000 in
theorem checkPlan_any (a : Option Addr) (n cap : Nat) (v : Value) (p : List Int) (w : World) (h : SliceAt 1 intR w v p) (hn : n ≤ 140737488355328) :
    Calls Tryd.prog 38 #[.slice a n cap, v] w fun e w' => e = .returned (.int .i64 (planE n p)) ∧ w = w' := by
  obtain ⟨a2, cap2, rfl⟩ := h.len
  have H := Lib.hid h
  clear h
  unfold planE
  by_cases hl : p.length = n
  · have hl' : ((p.length : Int) != (n : Int)) = false := by simp; omega
    rw [if_pos hl]
    have HL := Lib.hid hl
    clear hl
    go_enter Tryd.func38, Tryd.ntmps38
    go_wp2_with fail
    refine (checkNumbers_any _ p 60 _ H.out (by have := HL.out; omega)).mono ?_
    rintro e w' ⟨rfl, rfl⟩
    go_wp2_with fail
    go_ret
    exact ⟨rfl, rfl⟩
  · have hl' : ((p.length : Int) != (n : Int)) = true := by simp; omega
    rw [if_neg hl]
    clear hl
    go_enter Tryd.func38, Tryd.ntmps38
    go_wp2_with fail
    go_ret
    exact ⟨rfl, rfl⟩

end Go.Proofs.YtfoehmieklldkaaDoor
