/- The walks of cal's zones: within, moment, floor, cmp.Or, CheckZone, offsetAt. -/
import Derived.Test.YtllcgcnebofdoaaGreatDoorRows
import Derived.Test.YtllcgcnebofdoaaGreatDoorBase
import Derived.Test.YtllcgcnebofdoaaGreatDoorZoneLaw
import Derived.BigQuiet
import Derived.Deep.QuietTactic
import Derived.Deep.DeepCutAuto
import Derived.Deep.CutBlock
import Derived.Deep.LoopGhost
import Derived.Deep.RegionHeld3
import Derived.Laws.ResultCell
namespace Go.Proofs.YtllcgcnebofdoaaGreatDoor
open Go.RowKit

theorem below_up {B : Nat} {a w w' : World} (h : Below B a w) (k : Below w.heap.size w w') (hB : B ≤ w.heap.size) : Below B a w' := h.trans (k.mono hB)
theorem below_up' {a w w' : World} (h : Below a.heap.size a w) (k : Below w.heap.size w w') : Below a.heap.size a w' := below_up h k h.size
theorem box1 (w : World) (cs : Array Value) (t : TypeId) : Has (w.alloc (.cells cs t)) w.heap.size cs t ∧ Below w.heap.size w (w.alloc (.cells cs t)) :=
  ⟨Has.new _ _ _, (Below.refl _ _).alloc (Nat.le_refl _) _⟩
theorem ints2_at (w : World) (a b : Int) (t : TypeId) : SliceAt 1 intR (w.alloc (.cells #[.int .i64 a, .int .i64 b] t)) (.slice (some ⟨w.heap.size, 0, none⟩) 2 2) [a, b] := by
  have hx := Has.new w #[.int .i64 a, .int .i64 b] t
  refine .inr ⟨w.heap.size, 0, 2, rfl, by simp, by simp, fun i hi => ?_⟩
  match i, hi with
  | 0, _ => exact ⟨[.int .i64 a], ⟨rfl, fun j hj => by
      have hj0 : j = 0 := by simpa using hj
      subst hj0
      exact hx.cell 0⟩, rfl⟩
  | 1, _ => exact ⟨[.int .i64 b], ⟨rfl, fun j hj => by
      have hj0 : j = 0 := by simpa using hj
      subst hj0
      exact hx.cell 1⟩, rfl⟩

theorem within_any (n lo hi : Int) (w : World) :
    Calls Tryz.prog 32 #[.int .i64 n, .int .i64 lo, .int .i64 hi] w fun e w' => e = .returned (.bool (decide (lo ≤ n) && decide (n ≤ hi))) ∧ w = w' := by
  go_enter Tryz.func32, Tryz.ntmps32
  go_wp2
  all_goals go_ret
  all_goals (refine ⟨ret_bool ?_, rfl⟩; simp; try omega)

def momI (m : Int) : Int := if 0 ≤ m ∧ m ≤ 3000000 then 0 else 2
theorem moment_any (m : Int) (w : World) :
    Calls Tryz.prog 119 #[.int .i64 m] w fun e w' => e = .returned (.int .i64 (momI m)) ∧ w = w' := by
  go_enter Tryz.func119, Tryz.ntmps119
  go_wp2_with (go_at_call 32; refine (within_any _ _ _ _).mono ?_; rintro e w' ⟨rfl, rfl⟩)
  all_goals go_ret
  all_goals (refine ⟨ret_int ?_, rfl⟩; simp_all [momI] <;> omega)
theorem tdiv_1440 (a : Int) : (a.tmod 1440 < 0 → a.tdiv 1440 - 1 = a / 1440) ∧ (¬ a.tmod 1440 < 0 → a.tdiv 1440 = a / 1440) := by
  rcases Int.lt_or_le a 0 with h | h
  · obtain ⟨b, rfl⟩ : ∃ b : Int, a = -b := ⟨-a, by omega⟩
    rw [Int.neg_tdiv, Int.neg_tmod, Int.tdiv_eq_ediv_of_nonneg (by omega), Int.tmod_eq_emod_of_nonneg (by omega)]
    omega
  · rw [Int.tdiv_eq_ediv_of_nonneg h, Int.tmod_eq_emod_of_nonneg h]
    omega
theorem floor_any (a : Int) (h1 : -1000000000 ≤ a) (h2 : a ≤ 1000000000) (w : World) :
    Calls Tryz.prog 150 #[.int .i64 a, .int .i64 1440] w fun e w' => e = .returned (.int .i64 (a / 1440)) ∧ w = w' := by
  obtain ⟨g1, g2⟩ := tdiv_1440 a
  have b1 : -1000000001 ≤ a.tdiv 1440 ∧ a.tdiv 1440 ≤ 1000000001 := by
    by_cases h : a.tmod 1440 < 0
    · have := g1 h; omega
    · have := g2 h; omega
  obtain ⟨b1, b2⟩ := b1
  by_cases h : a.tmod 1440 < 0
  · have G := Lib.hid (g1 h)
    have hd : decide (a.tmod 1440 < 0) = true := by simpa using h
    clear g1 g2
    go_enter Tryz.func150, Tryz.ntmps150
    go_wp2
    go_ret
    exact ⟨ret_int G.out, rfl⟩
  · have G := Lib.hid (g2 h)
    have hd : decide (a.tmod 1440 < 0) = false := by simpa using h
    clear g1 g2
    go_enter Tryz.func150, Tryz.ntmps150
    go_wp2
    go_ret
    exact ⟨ret_int G.out, rfl⟩

/-- the first that is not 0 -/
def orI : List Int → Int
  | [] => 0
  | e :: r => if e = 0 then orI r else e
theorem orI_cons (e : Int) (r : List Int) : orI (e :: r) = if e = 0 then orI r else e := rfl
theorem orI2 (a b : Int) : orI [a, b] = if a = 0 then b else a := by
  simp only [orI]
  split
  · split <;> simp_all
  · rfl
set_option maxRecDepth 100000 in
theorem or_any (v : Value) (es : List Int) (w : World) (h : SliceAt 1 intR w v es) (hl : es.length ≤ 1000) :
    Calls Tryz.prog 36 #[v] w fun e w' => e = .returned (.int .i64 (orI es)) ∧ w = w' := by
  obtain ⟨a, cap, rfl⟩ := h.len
  have H := Lib.hid h
  clear h
  go_enter Tryz.func36, Tryz.ntmps36
  go_wp2_with fail
  go_loop [8] (fun iv => ∃ i : Nat, i ≤ es.length ∧ iv = .int .i64 i ∧ orI (es.drop i) = orI es) (fun iv => es.length - (intOf iv).toNat)
  case atStart => exact ⟨0, Nat.zero_le _, rfl, rfl⟩
  case round =>
    obtain ⟨i, hi, rfl, he⟩ := hrel
    have HE := Lib.hid he
    clear he
    by_cases hlt : i < es.length
    · obtain ⟨b, off, cap', hv, hcap, hb, hel⟩ := H.out.at (by omega)
      cases hv
      have c0 := ints_cell hel i es[i] (List.getElem?_eq_getElem hlt)
      have hd : es.drop i = es[i] :: es.drop (i + 1) := List.drop_eq_getElem_cons hlt
      have he := HE.out
      rw [hd, orI_cons] at he
      generalize es[i] = x at *
      by_cases hx : x = 0
      · subst hx
        rw [if_pos rfl] at he
        have HE2 := Lib.hid he
        clear he hd hel
        go_wp2
        go_round
        case rel => exact ⟨i + 1, by omega, by go_num, HE2.out⟩
        case measure => simp [intOf]; omega
      · rw [if_neg hx] at he
        have hb0 : (x == 0) = false := by simpa using hx
        have hb1 : (x != 0) = true := by simpa using hx
        have HE2 := Lib.hid he
        clear he hd hel hx
        go_wp2
        go_ret
        exact ⟨ret_int HE2.out, rfl⟩
    · obtain rfl : i = es.length := by omega
      have he := HE.out
      rw [List.drop_length] at he
      have HE2 := Lib.hid he
      clear he
      go_wp2
      go_ret
      exact ⟨ret_int HE2.out, rfl⟩

/-! ### changes of a zone -/
def pairR (_ : World) (cs : List Value) (x : Int × Int) : Prop := cs = [.int .i64 x.1, .int .i64 x.2]
theorem pairR_stable : Stable pairR := fun _ _ _ _ h _ => h
theorem pair_cells {w : World} {b off : Nat} {l : List (Int × Int)} (h : ∀ i (h : i < l.length), ∃ cs, ElemAt w b off 2 i cs ∧ pairR w cs l[i]) (i : Nat) (hi : i < l.length) :
    w.cell? ⟨b, off + i * 2, none⟩ = some (.int .i64 l[i].1) ∧ w.cell? ⟨b, off + i * 2 + 1, none⟩ = some (.int .i64 l[i].2) := by
  obtain ⟨cs, ⟨_, hc⟩, hr⟩ := h i hi
  cases hr
  exact ⟨by simpa using hc 0 (by simp), by simpa using hc 1 (by simp)⟩
/-- the changes of a zone in memory -/
def Changes (w : World) (v : Value) (cs : List (Int × Int)) : Prop := SliceAt 2 pairR w v cs
theorem Changes.below {w w' : World} {v : Value} {cs : List (Int × Int)} (h : Changes w v cs) (hb : Below w.heap.size w w') : Changes w' v cs := SliceAt.stable pairR_stable h hb
theorem Changes.at {w : World} {v : Value} {cs : List (Int × Int)} (h : Changes w v cs) (hl : 0 < cs.length) : ∃ b off cap, v = .slice (some ⟨b, off, none⟩) cs.length cap ∧ b < w.heap.size ∧
    ∀ i (hi : i < cs.length), w.cell? ⟨b, off + i * 2, none⟩ = some (.int .i64 cs[i].1) ∧ w.cell? ⟨b, off + i * 2 + 1, none⟩ = some (.int .i64 cs[i].2) := by
  obtain ⟨b, off, cap, hv, hc, hb, hel⟩ := SliceAt.at h hl
  exact ⟨b, off, cap, hv, hb, fun i hi => pair_cells hel i hi⟩

end Go.Proofs.YtllcgcnebofdoaaGreatDoor
