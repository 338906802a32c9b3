/- Plain laws of zones: the stretches of a zone, the offset at a moment, the moments that show a local time; the text of a moment. No program in sight. -/
import Derived.Test.YtllcgcnebofdoaaGreatDoorNum
namespace Go.Proofs.YtllcgcnebofdoaaGreatDoor

/-- a stretch of moments with one offset -/
structure Pt where
  f : Int
  t : Int
  o : Int
/-- the stretches of a zone from f on, with the offset o there, behind which the changes come -/
def prts (f o : Int) : List (Int × Int) → List Pt
  | [] => [⟨f, 3000001, o⟩]
  | (a, p) :: r => ⟨f, a, o⟩ :: prts a p r
/-- the last stretch ends at a -/
def endAt (a : Int) : List Pt → List Pt
  | [] => []
  | [p] => [⟨p.f, a, p.o⟩]
  | p :: q :: r => p :: endAt a (q :: r)
theorem prts_ne (f o : Int) (cs : List (Int × Int)) : prts f o cs ≠ [] := by
  cases cs with
  | nil => simp [prts]
  | cons c r => obtain ⟨a, p⟩ := c; simp [prts]
theorem prts_snoc (a p : Int) : ∀ (cs : List (Int × Int)) (f o : Int), prts f o (cs ++ [(a, p)]) = endAt a (prts f o cs) ++ [⟨a, 3000001, p⟩]
  | [], f, o => rfl
  | (b, q) :: r, f, o => by
    have ih := prts_snoc a p r b q
    simp only [List.cons_append, prts]
    rw [ih]
    cases h : prts b q r with
    | nil => exact absurd h (prts_ne _ _ _)
    | cons x y => rfl
theorem prts_length : ∀ (cs : List (Int × Int)) (f o : Int), (prts f o cs).length = cs.length + 1
  | [], _, _ => rfl
  | (b, q) :: r, f, o => by simp [prts, prts_length r b q]
theorem endAt_set (a : Int) : ∀ (l : List Pt) (h : l ≠ []), endAt a l = l.set (l.length - 1) ⟨(l.getLast h).f, a, (l.getLast h).o⟩
  | [], h => absurd rfl h
  | [p], _ => rfl
  | p :: q :: r, _ => by
    have ih := endAt_set a (q :: r) (by simp)
    simp only [endAt]
    rw [ih]
    simp

/-- what CheckZone finds: behind a change at 'at_' to 'off' -/
def zgo : Int → Int → List (Int × Int) → Int
  | _, _, [] => 0
  | at_, off, (a, o) :: r => if ¬ (1 ≤ a ∧ a ≤ 3000000) ∨ ¬ (-1440 ≤ o ∧ o ≤ 1440) then 2 else if a ≤ at_ then 5 else if o = off then 1 else zgo a o r
def zcode (off : Int) (cs : List (Int × Int)) : Int := if ¬ (-1440 ≤ off ∧ off ≤ 1440) then 2 else if 60 < cs.length then 4 else zgo 0 off cs

def ZOk : Int → Int → List (Int × Int) → Prop
  | _, _, [] => True
  | at_, off, (a, o) :: r => (1 ≤ a ∧ a ≤ 3000000) ∧ (-1440 ≤ o ∧ o ≤ 1440) ∧ at_ < a ∧ o ≠ off ∧ ZOk a o r
theorem zgo_ok : ∀ (cs : List (Int × Int)) (at_ off : Int), zgo at_ off cs = 0 → ZOk at_ off cs
  | [], _, _, _ => True.intro
  | (a, o) :: r, at_, off, h => by
    simp only [zgo] at h
    split at h
    · cases h
    · rename_i h1
      split at h
      · cases h
      · split at h
        · cases h
        · rename_i h2 h3
          have h1' : (1 ≤ a ∧ a ≤ 3000000) ∧ (-1440 ≤ o ∧ o ≤ 1440) := by
            constructor
            · exact Classical.byContradiction fun g => h1 (.inl g)
            · exact Classical.byContradiction fun g => h1 (.inr g)
          exact ⟨h1'.1, h1'.2, by omega, h3, zgo_ok r a o h⟩
structure ZoneOk (off : Int) (cs : List (Int × Int)) : Prop where
  o1 : -1440 ≤ off
  o2 : off ≤ 1440
  len : cs.length ≤ 60
  ok : ZOk 0 off cs
theorem zcode_ok {off : Int} {cs : List (Int × Int)} (h : zcode off cs = 0) : ZoneOk off cs := by
  unfold zcode at h
  split at h
  · cases h
  · split at h
    · cases h
    · rename_i h1 h2
      exact ⟨by omega, by omega, by omega, zgo_ok _ _ _ h⟩

/-- the offset that is in force at m -/
def offAt (m : Int) : Int → List (Int × Int) → Int
  | o, [] => o
  | o, (a, p) :: r => offAt m (if a ≤ m then p else o) r
theorem offAt_before (m : Int) : ∀ (cs : List (Int × Int)) (at_ off o : Int), ZOk at_ off cs → m ≤ at_ → offAt m o cs = o
  | [], _, _, _, _, _ => rfl
  | (a, p) :: r, at_, off, o, h, hm => by
    obtain ⟨_, _, h3, _, h5⟩ := h
    simp only [offAt]
    rw [if_neg (by omega)]
    exact offAt_before m r a p o h5 (by omega)
theorem offAt_bd (m : Int) : ∀ (cs : List (Int × Int)) (at_ off o : Int), ZOk at_ off cs → -1440 ≤ o → o ≤ 1440 → -1440 ≤ offAt m o cs ∧ offAt m o cs ≤ 1440
  | [], _, _, _, _, h1, h2 => ⟨h1, h2⟩
  | (a, p) :: r, at_, off, o, h, h1, h2 => by
    obtain ⟨_, h4, _, _, h5⟩ := h
    simp only [offAt]
    split
    · exact offAt_bd m r a p p h5 h4.1 h4.2
    · exact offAt_bd m r a p o h5 h1 h2
theorem offAt_snoc (m : Int) (a p : Int) : ∀ (cs : List (Int × Int)) (o : Int), offAt m o (cs ++ [(a, p)]) = if a ≤ m then p else offAt m o cs
  | [], o => rfl
  | (b, q) :: r, o => by
    simp only [List.cons_append, offAt]
    exact offAt_snoc m a p r _

/-- the moments of stretches that show the local time T -/
def shownAt (T : Int) : List Pt → List Int
  | [] => []
  | p :: r => if p.f ≤ T - p.o ∧ T - p.o < p.t then (T - p.o) :: shownAt T r else shownAt T r
theorem shownAt_snoc (T : Int) (p : Pt) : ∀ l : List Pt, shownAt T (l ++ [p]) = if p.f ≤ T - p.o ∧ T - p.o < p.t then shownAt T l ++ [T - p.o] else shownAt T l
  | [] => by simp [shownAt]
  | q :: r => by
    simp only [List.cons_append, shownAt]
    rw [shownAt_snoc T p r]
    split <;> split <;> rfl
theorem shownAt_length (T : Int) : ∀ l : List Pt, (shownAt T l).length ≤ l.length
  | [] => Nat.le_refl _
  | q :: r => by
    have ih := shownAt_length T r
    simp only [shownAt]
    split <;> simp <;> omega
theorem shown_mem (m : Int) (hm2 : m ≤ 3000000) : ∀ (cs : List (Int × Int)) (f off : Int), ZOk f off cs → f ≤ m → m ∈ shownAt (m + offAt m off cs) (prts f off cs)
  | [], f, off, _, hm => by
    simp only [offAt, prts, shownAt]
    rw [if_pos (by constructor <;> omega)]
    exact List.mem_cons.2 (.inl (by omega))
  | (a, p) :: r, f, off, h, hm => by
    obtain ⟨h1, h2, h3, h4, h5⟩ := h
    simp only [offAt, prts, shownAt]
    by_cases ha : a ≤ m
    · rw [if_pos ha]
      have ih := shown_mem m hm2 r a p h5 ha
      split
      · exact List.mem_cons_of_mem _ ih
      · exact ih
    · rw [if_neg ha, offAt_before m r a p off h5 (by omega), if_pos (by constructor <;> omega)]
      exact List.mem_cons.2 (.inl (by omega))
theorem shown_ge (T : Int) : ∀ (cs : List (Int × Int)) (f off : Int), ZOk f off cs → ∀ x ∈ shownAt T (prts f off cs), f ≤ x
  | [], f, off, _, x, hx => by
    simp only [prts, shownAt] at hx
    split at hx
    · rw [List.mem_singleton] at hx; omega
    · cases hx
  | (a, p) :: r, f, off, h, x, hx => by
    obtain ⟨h1, h2, h3, h4, h5⟩ := h
    have ih := shown_ge T r a p h5
    simp only [prts, shownAt] at hx
    split at hx
    · rw [List.mem_cons] at hx
      rcases hx with rfl | hx
      · omega
      · have := ih x hx; omega
    · have := ih x hx; omega
theorem shown_rise (T : Int) : ∀ (cs : List (Int × Int)) (f off : Int), ZOk f off cs → (shownAt T (prts f off cs)).Pairwise (· < ·)
  | [], f, off, _ => by
    simp only [prts, shownAt]
    split <;> simp
  | (a, p) :: r, f, off, h => by
    obtain ⟨h1, h2, h3, h4, h5⟩ := h
    have ih := shown_rise T r a p h5
    simp only [prts, shownAt]
    split
    · rw [List.pairwise_cons]
      refine ⟨fun x hx => ?_, ih⟩
      have := shown_ge T r a p h5 x hx
      omega
    · exact ih
/-- WHERE m STANDS among the moments that show its local time: there, and there alone. -/
theorem shown_at {off : Int} {cs : List (Int × Int)} (hz : ZoneOk off cs) (m : Int) (h0 : 0 ≤ m) (h1 : m ≤ 3000000) :
    ∃ k, k < 61 ∧ ∃ hk : k < (shownAt (m + offAt m off cs) (prts 0 off cs)).length, (shownAt (m + offAt m off cs) (prts 0 off cs))[k] = m ∧ ∀ j (hj : j < (shownAt (m + offAt m off cs) (prts 0 off cs)).length), (shownAt (m + offAt m off cs) (prts 0 off cs))[j] = m → j = k := by
  have hm := shown_mem m h1 cs 0 off hz.ok h0
  have hr := shown_rise (m + offAt m off cs) cs 0 off hz.ok
  have hl := shownAt_length (m + offAt m off cs) (prts 0 off cs)
  rw [prts_length] at hl
  have hlen := hz.len
  obtain ⟨k, hk, e⟩ := List.getElem_of_mem hm
  refine ⟨k, by omega, hk, e, fun j hj ej => ?_⟩
  rw [List.pairwise_iff_getElem] at hr
  rcases Nat.lt_trichotomy j k with c | c | c
  · have := hr j k hj hk c; omega
  · exact c
  · have := hr k j hk hj c; omega

/-! ### the text of a moment -/
def clockL (h mi : Nat) : List UInt8 := twoL h ++ 58 :: twoL mi
def baseL (day : Int) (mi : Nat) : List UInt8 := Lib.itoa day ++ 46 :: clockL (mi / 60) (mi % 60)
def tailL (k : Nat) : List UInt8 := if k = 0 then [] else 47 :: Lib.itoa ((k + 1 : Nat) : Int)
theorem base_no {day : Int} {mi : Nat} (h : mi < 1440) : (47 : UInt8) ∉ baseL day mi := by
  unfold baseL clockL
  intro hc
  rw [List.mem_append, List.mem_cons, List.mem_append, List.mem_cons] at hc
  rcases hc with hc | hc | hc | hc | hc
  · exact itoa_not day 47 (by decide) (.inl (by decide)) hc
  · exact absurd hc (by decide)
  · have := twoL_mem _ (by omega) _ hc; simp at this
  · exact absurd hc (by decide)
  · have := twoL_mem _ (by omega) _ hc; simp at this
theorem cut_slash (day : Int) (mi k : Nat) (h : mi < 1440) : Lib.cut (baseL day mi ++ tailL k) [47] = if k = 0 then (baseL day mi, [], false) else (baseL day mi, Lib.itoa ((k + 1 : Nat) : Int), true) := by
  unfold tailL
  split
  · rw [List.append_nil, cut_none _ _ (base_no h)]
  · rw [cut_at _ _ _ (base_no h)]
theorem cut_dot (day : Int) (mi : Nat) : Lib.cut (baseL day mi) [46] = (Lib.itoa day, clockL (mi / 60) (mi % 60), true) := cut_at _ _ _ (itoa_not day 46 (by decide) (.inl (by decide)))
theorem cut_colon (h mi : Nat) (hh : h < 100) : Lib.cut (clockL h mi) [58] = (twoL h, twoL mi, true) := cut_at _ _ _ (fun hc => by have := twoL_mem _ hh _ hc; simp at this)

end Go.Proofs.YtllcgcnebofdoaaGreatDoor
