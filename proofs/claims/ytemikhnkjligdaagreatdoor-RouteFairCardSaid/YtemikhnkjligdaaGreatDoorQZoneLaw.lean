/- Plain laws of zones: the stretches of a zone, the offset at a moment, the moments that show a local time; the text of a moment. No program in sight. -/
import Derived.Test.YtemikhnkjligdaaGreatDoorQNum
import Derived.Test.YtemikhnkjligdaaGreatDoorRows
import Derived.Test.YtemikhnkjligdaaGreatDoorQBase
import Derived.BigQuiet
import Derived.Deep.QuietTactic
import Derived.Deep.DeepCutAuto
import Derived.Deep.CutBlock
import Derived.Deep.LoopGhost
import Derived.Deep.RegionHeld3
import Derived.Laws.ResultCell
namespace Go.Proofs.YtemikhnkjligdaaGreatDoor

/-- a stretch of moments with one offset -/
structure Pt where
  f : Int
  t : Int
  o : Int
/-- the stretches of a zone from f on, with the offset o there, behind which the changes come -/
def prts (f o : Int) : List (Int × Int) → List Pt
  | [] => [⟨f, 3000001, o⟩]
  | (a, p) :: r => ⟨f, a, o⟩ :: prts a p r
/-- the last stretch ends at a -/
def endAt (a : Int) : List Pt → List Pt
  | [] => []
  | [p] => [⟨p.f, a, p.o⟩]
  | p :: q :: r => p :: endAt a (q :: r)
theorem prts_ne (f o : Int) (cs : List (Int × Int)) : prts f o cs ≠ [] := by
  cases cs with
  | nil => simp [prts]
  | cons c r => obtain ⟨a, p⟩ := c; simp [prts]
theorem prts_snoc (a p : Int) : ∀ (cs : List (Int × Int)) (f o : Int), prts f o (cs ++ [(a, p)]) = endAt a (prts f o cs) ++ [⟨a, 3000001, p⟩]
  | [], f, o => rfl
  | (b, q) :: r, f, o => by
    have ih := prts_snoc a p r b q
    simp only [List.cons_append, prts]
    rw [ih]
    cases h : prts b q r with
    | nil => exact absurd h (prts_ne _ _ _)
    | cons x y => rfl
theorem prts_length : ∀ (cs : List (Int × Int)) (f o : Int), (prts f o cs).length = cs.length + 1
  | [], _, _ => rfl
  | (b, q) :: r, f, o => by simp [prts, prts_length r b q]
theorem endAt_set (a : Int) : ∀ (l : List Pt) (h : l ≠ []), endAt a l = l.set (l.length - 1) ⟨(l.getLast h).f, a, (l.getLast h).o⟩
  | [], h => absurd rfl h
  | [p], _ => rfl
  | p :: q :: r, _ => by
    have ih := endAt_set a (q :: r) (by simp)
    simp only [endAt]
    rw [ih]
    simp

/-- what CheckZone finds: behind a change at 'at_' to 'off' -/
def zgo : Int → Int → List (Int × Int) → Int
  | _, _, [] => 0
  | at_, off, (a, o) :: r => if ¬ (1 ≤ a ∧ a ≤ 3000000) ∨ ¬ (-1440 ≤ o ∧ o ≤ 1440) then 2 else if a ≤ at_ then 5 else if o = off then 1 else zgo a o r
def zcode (off : Int) (cs : List (Int × Int)) : Int := if ¬ (-1440 ≤ off ∧ off ≤ 1440) then 2 else if 60 < cs.length then 4 else zgo 0 off cs

def ZOk : Int → Int → List (Int × Int) → Prop
  | _, _, [] => True
  | at_, off, (a, o) :: r => (1 ≤ a ∧ a ≤ 3000000) ∧ (-1440 ≤ o ∧ o ≤ 1440) ∧ at_ < a ∧ o ≠ off ∧ ZOk a o r
theorem zgo_ok : ∀ (cs : List (Int × Int)) (at_ off : Int), zgo at_ off cs = 0 → ZOk at_ off cs
  | [], _, _, _ => True.intro
  | (a, o) :: r, at_, off, h => by
    simp only [zgo] at h
    split at h
    · cases h
    · rename_i h1
      split at h
      · cases h
      · split at h
        · cases h
        · rename_i h2 h3
          have h1' : (1 ≤ a ∧ a ≤ 3000000) ∧ (-1440 ≤ o ∧ o ≤ 1440) := by
            constructor
            · exact Classical.byContradiction fun g => h1 (.inl g)
            · exact Classical.byContradiction fun g => h1 (.inr g)
          exact ⟨h1'.1, h1'.2, by omega, h3, zgo_ok r a o h⟩
structure ZoneOk (off : Int) (cs : List (Int × Int)) : Prop where
  o1 : -1440 ≤ off
  o2 : off ≤ 1440
  len : cs.length ≤ 60
  ok : ZOk 0 off cs
theorem zcode_ok {off : Int} {cs : List (Int × Int)} (h : zcode off cs = 0) : ZoneOk off cs := by
  unfold zcode at h
  split at h
  · cases h
  · split at h
    · cases h
    · rename_i h1 h2
      exact ⟨by omega, by omega, by omega, zgo_ok _ _ _ h⟩

/-- the offset that is in force at m -/
def offAt (m : Int) : Int → List (Int × Int) → Int
  | o, [] => o
  | o, (a, p) :: r => offAt m (if a ≤ m then p else o) r
theorem offAt_before (m : Int) : ∀ (cs : List (Int × Int)) (at_ off o : Int), ZOk at_ off cs → m ≤ at_ → offAt m o cs = o
  | [], _, _, _, _, _ => rfl
  | (a, p) :: r, at_, off, o, h, hm => by
    obtain ⟨_, _, h3, _, h5⟩ := h
    simp only [offAt]
    rw [if_neg (by omega)]
    exact offAt_before m r a p o h5 (by omega)
theorem offAt_bd (m : Int) : ∀ (cs : List (Int × Int)) (at_ off o : Int), ZOk at_ off cs → -1440 ≤ o → o ≤ 1440 → -1440 ≤ offAt m o cs ∧ offAt m o cs ≤ 1440
  | [], _, _, _, _, h1, h2 => ⟨h1, h2⟩
  | (a, p) :: r, at_, off, o, h, h1, h2 => by
    obtain ⟨_, h4, _, _, h5⟩ := h
    simp only [offAt]
    split
    · exact offAt_bd m r a p p h5 h4.1 h4.2
    · exact offAt_bd m r a p o h5 h1 h2
theorem offAt_snoc (m : Int) (a p : Int) : ∀ (cs : List (Int × Int)) (o : Int), offAt m o (cs ++ [(a, p)]) = if a ≤ m then p else offAt m o cs
  | [], o => rfl
  | (b, q) :: r, o => by
    simp only [List.cons_append, offAt]
    exact offAt_snoc m a p r _

/-- the moments of stretches that show the local time T -/
def shownAt (T : Int) : List Pt → List Int
  | [] => []
  | p :: r => if p.f ≤ T - p.o ∧ T - p.o < p.t then (T - p.o) :: shownAt T r else shownAt T r
theorem shownAt_snoc (T : Int) (p : Pt) : ∀ l : List Pt, shownAt T (l ++ [p]) = if p.f ≤ T - p.o ∧ T - p.o < p.t then shownAt T l ++ [T - p.o] else shownAt T l
  | [] => by simp [shownAt]
  | q :: r => by
    simp only [List.cons_append, shownAt]
    rw [shownAt_snoc T p r]
    split <;> split <;> rfl
theorem shownAt_length (T : Int) : ∀ l : List Pt, (shownAt T l).length ≤ l.length
  | [] => Nat.le_refl _
  | q :: r => by
    have ih := shownAt_length T r
    simp only [shownAt]
    split <;> simp <;> omega
theorem shown_mem (m : Int) (hm2 : m ≤ 3000000) : ∀ (cs : List (Int × Int)) (f off : Int), ZOk f off cs → f ≤ m → m ∈ shownAt (m + offAt m off cs) (prts f off cs)
  | [], f, off, _, hm => by
    simp only [offAt, prts, shownAt]
    rw [if_pos (by constructor <;> omega)]
    exact List.mem_cons.2 (.inl (by omega))
  | (a, p) :: r, f, off, h, hm => by
    obtain ⟨h1, h2, h3, h4, h5⟩ := h
    simp only [offAt, prts, shownAt]
    by_cases ha : a ≤ m
    · rw [if_pos ha]
      have ih := shown_mem m hm2 r a p h5 ha
      split
      · exact List.mem_cons_of_mem _ ih
      · exact ih
    · rw [if_neg ha, offAt_before m r a p off h5 (by omega), if_pos (by constructor <;> omega)]
      exact List.mem_cons.2 (.inl (by omega))
theorem shown_ge (T : Int) : ∀ (cs : List (Int × Int)) (f off : Int), ZOk f off cs → ∀ x ∈ shownAt T (prts f off cs), f ≤ x
  | [], f, off, _, x, hx => by
    simp only [prts, shownAt] at hx
    split at hx
    · rw [List.mem_singleton] at hx; omega
    · cases hx
  | (a, p) :: r, f, off, h, x, hx => by
    obtain ⟨h1, h2, h3, h4, h5⟩ := h
    have ih := shown_ge T r a p h5
    simp only [prts, shownAt] at hx
    split at hx
    · rw [List.mem_cons] at hx
      rcases hx with rfl | hx
      · omega
      · have := ih x hx; omega
    · have := ih x hx; omega
theorem shown_rise (T : Int) : ∀ (cs : List (Int × Int)) (f off : Int), ZOk f off cs → (shownAt T (prts f off cs)).Pairwise (· < ·)
  | [], f, off, _ => by
    simp only [prts, shownAt]
    split <;> simp
  | (a, p) :: r, f, off, h => by
    obtain ⟨h1, h2, h3, h4, h5⟩ := h
    have ih := shown_rise T r a p h5
    simp only [prts, shownAt]
    split
    · rw [List.pairwise_cons]
      refine ⟨fun x hx => ?_, ih⟩
      have := shown_ge T r a p h5 x hx
      omega
    · exact ih
/-- WHERE m STANDS among the moments that show its local time: there, and there alone. -/
theorem shown_at {off : Int} {cs : List (Int × Int)} (hz : ZoneOk off cs) (m : Int) (h0 : 0 ≤ m) (h1 : m ≤ 3000000) :
    ∃ k, k < 61 ∧ ∃ hk : k < (shownAt (m + offAt m off cs) (prts 0 off cs)).length, (shownAt (m + offAt m off cs) (prts 0 off cs))[k] = m ∧ ∀ j (hj : j < (shownAt (m + offAt m off cs) (prts 0 off cs)).length), (shownAt (m + offAt m off cs) (prts 0 off cs))[j] = m → j = k := by
  have hm := shown_mem m h1 cs 0 off hz.ok h0
  have hr := shown_rise (m + offAt m off cs) cs 0 off hz.ok
  have hl := shownAt_length (m + offAt m off cs) (prts 0 off cs)
  rw [prts_length] at hl
  have hlen := hz.len
  obtain ⟨k, hk, e⟩ := List.getElem_of_mem hm
  refine ⟨k, by omega, hk, e, fun j hj ej => ?_⟩
  rw [List.pairwise_iff_getElem] at hr
  rcases Nat.lt_trichotomy j k with c | c | c
  · have := hr j k hj hk c; omega
  · exact c
  · have := hr k j hk hj c; omega

/-! ### the text of a moment -/
def clockL (h mi : Nat) : List UInt8 := twoL h ++ 58 :: twoL mi
def baseL (day : Int) (mi : Nat) : List UInt8 := Lib.itoa day ++ 46 :: clockL (mi / 60) (mi % 60)
def tailL (k : Nat) : List UInt8 := if k = 0 then [] else 47 :: Lib.itoa ((k + 1 : Nat) : Int)
theorem base_no {day : Int} {mi : Nat} (h : mi < 1440) : (47 : UInt8) ∉ baseL day mi := by
  unfold baseL clockL
  intro hc
  rw [List.mem_append, List.mem_cons, List.mem_append, List.mem_cons] at hc
  rcases hc with hc | hc | hc | hc | hc
  · exact itoa_not day 47 (by decide) (.inl (by decide)) hc
  · exact absurd hc (by decide)
  · have := twoL_mem _ (by omega) _ hc; simp at this
  · exact absurd hc (by decide)
  · have := twoL_mem _ (by omega) _ hc; simp at this
theorem cut_slash (day : Int) (mi k : Nat) (h : mi < 1440) : Lib.cut (baseL day mi ++ tailL k) [47] = if k = 0 then (baseL day mi, [], false) else (baseL day mi, Lib.itoa ((k + 1 : Nat) : Int), true) := by
  unfold tailL
  split
  · rw [List.append_nil, cut_none _ _ (base_no h)]
  · rw [cut_at _ _ _ (base_no h)]
theorem cut_dot (day : Int) (mi : Nat) : Lib.cut (baseL day mi) [46] = (Lib.itoa day, clockL (mi / 60) (mi % 60), true) := cut_at _ _ _ (itoa_not day 46 (by decide) (.inl (by decide)))
theorem cut_colon (h mi : Nat) (hh : h < 100) : Lib.cut (clockL h mi) [58] = (twoL h, twoL mi, true) := cut_at _ _ _ (fun hc => by have := twoL_mem _ hh _ hc; simp at this)

end Go.Proofs.YtemikhnkjligdaaGreatDoor

/- The walks of cal's zones: within, moment, floor, cmp.Or, CheckZone, offsetAt. -/
namespace Go.Proofs.YtemikhnkjligdaaGreatDoor
open Go.RowKit

theorem below_up {B : Nat} {a w w' : World} (h : Below B a w) (k : Below w.heap.size w w') (hB : B ≤ w.heap.size) : Below B a w' := h.trans (k.mono hB)
theorem below_up' {a w w' : World} (h : Below a.heap.size a w) (k : Below w.heap.size w w') : Below a.heap.size a w' := below_up h k h.size
theorem box1 (w : World) (cs : Array Value) (t : TypeId) : Has (w.alloc (.cells cs t)) w.heap.size cs t ∧ Below w.heap.size w (w.alloc (.cells cs t)) :=
  ⟨Has.new _ _ _, (Below.refl _ _).alloc (Nat.le_refl _) _⟩
theorem ints2_at (w : World) (a b : Int) (t : TypeId) : SliceAt 1 intR (w.alloc (.cells #[.int .i64 a, .int .i64 b] t)) (.slice (some ⟨w.heap.size, 0, none⟩) 2 2) [a, b] := by
  have hx := Has.new w #[.int .i64 a, .int .i64 b] t
  refine .inr ⟨w.heap.size, 0, 2, rfl, by simp, by simp, fun i hi => ?_⟩
  match i, hi with
  | 0, _ => exact ⟨[.int .i64 a], ⟨rfl, fun j hj => by
      have hj0 : j = 0 := by simpa using hj
      subst hj0
      exact hx.cell 0⟩, rfl⟩
  | 1, _ => exact ⟨[.int .i64 b], ⟨rfl, fun j hj => by
      have hj0 : j = 0 := by simpa using hj
      subst hj0
      exact hx.cell 1⟩, rfl⟩

theorem within_any (n lo hi : Int) (w : World) :
    Calls Tryz.prog 48 #[.int .i64 n, .int .i64 lo, .int .i64 hi] w fun e w' => e = .returned (.bool (decide (lo ≤ n) && decide (n ≤ hi))) ∧ w = w' := by
  go_enter Tryz.func48, Tryz.ntmps48
  go_wp2
  all_goals go_ret
  all_goals (refine ⟨ret_bool ?_, rfl⟩; simp; try omega)

def momI (m : Int) : Int := if 0 ≤ m ∧ m ≤ 3000000 then 0 else 2
theorem moment_any (m : Int) (w : World) :
    Calls Tryz.prog 69 #[.int .i64 m] w fun e w' => e = .returned (.int .i64 (momI m)) ∧ w = w' := by
  go_enter Tryz.func69, Tryz.ntmps69
  go_wp2_with (go_at_call 48; refine (within_any _ _ _ _).mono ?_; rintro e w' ⟨rfl, rfl⟩)
  all_goals go_ret
  all_goals (refine ⟨ret_int ?_, rfl⟩; simp_all [momI] <;> omega)
theorem tdiv_1440 (a : Int) : (a.tmod 1440 < 0 → a.tdiv 1440 - 1 = a / 1440) ∧ (¬ a.tmod 1440 < 0 → a.tdiv 1440 = a / 1440) := by
  rcases Int.lt_or_le a 0 with h | h
  · obtain ⟨b, rfl⟩ : ∃ b : Int, a = -b := ⟨-a, by omega⟩
    rw [Int.neg_tdiv, Int.neg_tmod, Int.tdiv_eq_ediv_of_nonneg (by omega), Int.tmod_eq_emod_of_nonneg (by omega)]
    omega
  · rw [Int.tdiv_eq_ediv_of_nonneg h, Int.tmod_eq_emod_of_nonneg h]
    omega
theorem floor_any (a : Int) (h1 : -1000000000 ≤ a) (h2 : a ≤ 1000000000) (w : World) :
    Calls Tryz.prog 127 #[.int .i64 a, .int .i64 1440] w fun e w' => e = .returned (.int .i64 (a / 1440)) ∧ w = w' := by
  obtain ⟨g1, g2⟩ := tdiv_1440 a
  have b1 : -1000000001 ≤ a.tdiv 1440 ∧ a.tdiv 1440 ≤ 1000000001 := by
    by_cases h : a.tmod 1440 < 0
    · have := g1 h; omega
    · have := g2 h; omega
  obtain ⟨b1, b2⟩ := b1
  by_cases h : a.tmod 1440 < 0
  · have G := Lib.hid (g1 h)
    have hd : decide (a.tmod 1440 < 0) = true := by simpa using h
    clear g1 g2
    go_enter Tryz.func127, Tryz.ntmps127
    go_wp2
    go_ret
    exact ⟨ret_int G.out, rfl⟩
  · have G := Lib.hid (g2 h)
    have hd : decide (a.tmod 1440 < 0) = false := by simpa using h
    clear g1 g2
    go_enter Tryz.func127, Tryz.ntmps127
    go_wp2
    go_ret
    exact ⟨ret_int G.out, rfl⟩

/-- the first that is not 0 -/
def orI : List Int → Int
  | [] => 0
  | e :: r => if e = 0 then orI r else e
theorem orI_cons (e : Int) (r : List Int) : orI (e :: r) = if e = 0 then orI r else e := rfl
theorem orI2 (a b : Int) : orI [a, b] = if a = 0 then b else a := by
  simp only [orI]
  split
  · split <;> simp_all
  · rfl
set_option maxRecDepth 100000 in
theorem or_any (v : Value) (es : List Int) (w : World) (h : SliceAt 1 intR w v es) (hl : es.length ≤ 1000) :
    Calls Tryz.prog 11 #[v] w fun e w' => e = .returned (.int .i64 (orI es)) ∧ w = w' := by
  obtain ⟨a, cap, rfl⟩ := h.len
  have H := Lib.hid h
  clear h
  go_enter Tryz.func11, Tryz.ntmps11
  go_wp2_with fail
  go_loop [8] (fun iv => ∃ i : Nat, i ≤ es.length ∧ iv = .int .i64 i ∧ orI (es.drop i) = orI es) (fun iv => es.length - (intOf iv).toNat)
  case atStart => exact ⟨0, Nat.zero_le _, rfl, rfl⟩
  case round =>
    obtain ⟨i, hi, rfl, he⟩ := hrel
    have HE := Lib.hid he
    clear he
    by_cases hlt : i < es.length
    · obtain ⟨b, off, cap', hv, hcap, hb, hel⟩ := H.out.at (by omega)
      cases hv
      have c0 := ints_cell hel i es[i] (List.getElem?_eq_getElem hlt)
      have hd : es.drop i = es[i] :: es.drop (i + 1) := List.drop_eq_getElem_cons hlt
      have he := HE.out
      rw [hd, orI_cons] at he
      generalize es[i] = x at *
      by_cases hx : x = 0
      · subst hx
        rw [if_pos rfl] at he
        have HE2 := Lib.hid he
        clear he hd hel
        go_wp2
        go_round
        case rel => exact ⟨i + 1, by omega, by go_num, HE2.out⟩
        case measure => simp [intOf]; omega
      · rw [if_neg hx] at he
        have hb0 : (x == 0) = false := by simpa using hx
        have hb1 : (x != 0) = true := by simpa using hx
        have HE2 := Lib.hid he
        clear he hd hel hx
        go_wp2
        go_ret
        exact ⟨ret_int HE2.out, rfl⟩
    · obtain rfl : i = es.length := by omega
      have he := HE.out
      rw [List.drop_length] at he
      have HE2 := Lib.hid he
      clear he
      go_wp2
      go_ret
      exact ⟨ret_int HE2.out, rfl⟩

/-! ### changes of a zone -/
def pairR (_ : World) (cs : List Value) (x : Int × Int) : Prop := cs = [.int .i64 x.1, .int .i64 x.2]
theorem pairR_stable : Stable pairR := fun _ _ _ _ h _ => h
theorem pair_cells {w : World} {b off : Nat} {l : List (Int × Int)} (h : ∀ i (h : i < l.length), ∃ cs, ElemAt w b off 2 i cs ∧ pairR w cs l[i]) (i : Nat) (hi : i < l.length) :
    w.cell? ⟨b, off + i * 2, none⟩ = some (.int .i64 l[i].1) ∧ w.cell? ⟨b, off + i * 2 + 1, none⟩ = some (.int .i64 l[i].2) := by
  obtain ⟨cs, ⟨_, hc⟩, hr⟩ := h i hi
  cases hr
  exact ⟨by simpa using hc 0 (by simp), by simpa using hc 1 (by simp)⟩
/-- the changes of a zone in memory -/
def Changes (w : World) (v : Value) (cs : List (Int × Int)) : Prop := SliceAt 2 pairR w v cs
theorem Changes.below {w w' : World} {v : Value} {cs : List (Int × Int)} (h : Changes w v cs) (hb : Below w.heap.size w w') : Changes w' v cs := SliceAt.stable pairR_stable h hb
theorem Changes.at {w : World} {v : Value} {cs : List (Int × Int)} (h : Changes w v cs) (hl : 0 < cs.length) : ∃ b off cap, v = .slice (some ⟨b, off, none⟩) cs.length cap ∧ b < w.heap.size ∧
    ∀ i (hi : i < cs.length), w.cell? ⟨b, off + i * 2, none⟩ = some (.int .i64 cs[i].1) ∧ w.cell? ⟨b, off + i * 2 + 1, none⟩ = some (.int .i64 cs[i].2) := by
  obtain ⟨b, off, cap, hv, hc, hb, hel⟩ := SliceAt.at h hl
  exact ⟨b, off, cap, hv, hb, fun i hi => pair_cells hel i hi⟩

end Go.Proofs.YtemikhnkjligdaaGreatDoor
