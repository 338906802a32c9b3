/- The walks of staff's checks of loads and promises; cmp.Or. -/
import Derived.Test.YtfoehmieklldkaaDoorMean
namespace Go.Proofs.YtfoehmieklldkaaDoor
open Go.RowKit

theorem within_any (n lo hi : Int) (w : World) :
    Calls Tryd.prog 39 #[.int .i64 n, .int .i64 lo, .int .i64 hi] w fun e w' => e = .returned (.bool (decide (lo ≤ n) && decide (n ≤ hi))) ∧ w = w' := by
  go_enter Tryd.func39, Tryd.ntmps39
  go_wp2
  all_goals go_ret
  all_goals (refine ⟨ret_bool ?_, rfl⟩; simp; try omega)

/-- the first that is not 0 -/
def orI : List Int → Int
  | [] => 0
  | e :: r => if e = 0 then orI r else e
theorem orI_cons (e : Int) (r : List Int) : orI (e :: r) = if e = 0 then orI r else e := rfl
set_option maxRecDepth 100000 in
theorem or_any (v : Value) (es : List Int) (w : World) (h : SliceAt 1 intR w v es) (hl : es.length ≤ 1000) :
    Calls Tryd.prog 30 #[v] w fun e w' => e = .returned (.int .i64 (orI es)) ∧ w = w' := by
  obtain ⟨a, cap, rfl⟩ := h.len
  have H := Lib.hid h
  clear h
  go_enter Tryd.func30, Tryd.ntmps30
  go_wp2_with fail
  go_loop [8] (fun iv => ∃ i : Nat, i ≤ es.length ∧ iv = .int .i64 i ∧ orI (es.drop i) = orI es) (fun iv => es.length - (intOf iv).toNat)
  case atStart => exact ⟨0, Nat.zero_le _, rfl, rfl⟩
  case round =>
    obtain ⟨i, hi, rfl, he⟩ := hrel
    have HE := Lib.hid he
    clear he
    by_cases hlt : i < es.length
    · obtain ⟨b, off, cap', hv, hcap, hb, hel⟩ := H.out.at (by omega)
      cases hv
      have c0 := ints_cell hel i es[i] (List.getElem?_eq_getElem hlt)
      have hd : es.drop i = es[i] :: es.drop (i + 1) := List.drop_eq_getElem_cons hlt
      have he := HE.out
      rw [hd, orI_cons] at he
      generalize es[i] = x at *
      by_cases hx : x = 0
      · subst hx
        rw [if_pos rfl] at he
        have HE2 := Lib.hid he
        clear he hd hel
        go_wp2
        go_round
        case rel => exact ⟨i + 1, by omega, by go_num, HE2.out⟩
        case measure => simp [intOf]; omega
      · rw [if_neg hx] at he
        have hb0 : (x == 0) = false := by simpa using hx
        have hb1 : (x != 0) = true := by simpa using hx
        have HE2 := Lib.hid he
        clear he hd hel hx
        go_wp2
        go_ret
        exact ⟨ret_int HE2.out, rfl⟩
    · obtain rfl : i = es.length := by omega
      have he := HE.out
      rw [List.drop_length] at he
      have HE2 := Lib.hid he
      clear he
      go_wp2
      go_ret
      exact ⟨ret_int HE2.out, rfl⟩

def loadE (C L S : Int) : Int := if (0 ≤ C ∧ C ≤ 100000) ∧ (1 ≤ L ∧ L ≤ 1440) ∧ (1 ≤ S ∧ S ≤ 10080) then 0 else 2
def promE (sh f wt pt : Int) : Int := if (0 ≤ sh ∧ sh ≤ f) ∧ (1 ≤ f ∧ f ≤ 1000000) ∧ (0 ≤ wt ∧ wt ≤ 1000000) ∧ (1 ≤ pt ∧ pt ≤ 1000000) then 0 else 2
def peoE (n : Int) : Int := if 0 ≤ n ∧ n ≤ 60 then 0 else 2

set_option maxRecDepth 100000 in
theorem checkLoad_any (C L S : Int) (w : World) :
    Calls Tryd.prog 31 #[.agg #[.int .i64 C, .int .i64 L, .int .i64 S]] w fun e w' => e = .returned (.int .i64 (loadE C L S)) ∧ Below w.heap.size w w' := by
  go_enter Tryd.func31, Tryd.ntmps31
  go_wp2_with (go_at_call 39; refine (within_any _ _ _ _).mono ?_; rintro e w' ⟨rfl, rfl⟩)
  all_goals go_ret
  all_goals (refine ⟨ret_int ?_, (Below.refl _ _).alloc (Nat.le_refl _) _⟩; simp_all [loadE] <;> omega)

set_option maxRecDepth 100000 in
theorem checkPeople_any (n : Int) (w : World) :
    Calls Tryd.prog 34 #[.int .i64 n] w fun e w' => e = .returned (.int .i64 (peoE n)) ∧ w = w' := by
  go_enter Tryd.func34, Tryd.ntmps34
  go_wp2_with (go_at_call 39; refine (within_any _ _ _ _).mono ?_; rintro e w' ⟨rfl, rfl⟩)
  all_goals go_ret
  all_goals (refine ⟨ret_int ?_, rfl⟩; simp_all [peoE] <;> omega)

set_option maxRecDepth 100000 in
theorem checkPromise_any (sh f wt pt : Int) (w : World) :
    Calls Tryd.prog 32 #[.agg #[.int .i64 sh, .int .i64 f, .int .i64 wt, .int .i64 pt]] w fun e w' => e = .returned (.int .i64 (promE sh f wt pt)) ∧ Below w.heap.size w w' := by
  go_enter Tryd.func32, Tryd.ntmps32
  go_wp2_with (go_at_call 39; refine (within_any _ _ _ _).mono ?_; rintro e w' ⟨rfl, rfl⟩)
  all_goals go_ret
  all_goals (refine ⟨ret_int ?_, (Below.refl _ _).alloc (Nat.le_refl _) _⟩; simp_all [promE] <;> omega)

end Go.Proofs.YtfoehmieklldkaaDoor
