/- Plain laws of decimal numerals and of cutting a text at a byte. No program in sight. -/
import Derived.WalkKit
import Derived.Lib.ItoaNum
import Derived.Lib.Atoi
import Derived.Lib.IndexMore
import Derived.Lib.Strings
import Derived.Test.YtllcgcnebofdoaaGreatDoorRows
import Derived.Test.YtllcgcnebofdoaaGreatDoorQBase
import Derived.BigQuiet
import Derived.Deep.QuietTactic
import Derived.Deep.DeepCutAuto
import Derived.Deep.CutBlock
import Derived.Deep.LoopGhost
import Derived.Deep.RegionHeld3
import Derived.Laws.ResultCell
namespace Go.Proofs.YtllcgcnebofdoaaGreatDoor

theorem decDigits_small {u : Nat} (h : u < 10) : Lib.decDigits u = [UInt8.ofNat (48 + u)] := by rw [Lib.decDigits, dif_pos h]
theorem decDigits_big {u : Nat} (h : ¬ u < 10) : Lib.decDigits u = Lib.decDigits (u / 10) ++ [UInt8.ofNat (48 + u % 10)] := by rw [Lib.decDigits, dif_neg h]
theorem digit_byte {d : Nat} (h : d < 10) : (UInt8.ofNat (48 + d)).toNat = 48 + d := by
  simp [UInt8.toNat_ofNat]; omega
theorem digitVal_byte {d : Nat} (h : d < 10) : Lib.digitVal (UInt8.ofNat (48 + d)) = some d := by
  unfold Lib.digitVal
  rw [digit_byte h, if_pos (by omega)]
  congr 1; omega
theorem decFrom_append : ∀ (l : List UInt8) (acc : Nat) (n : Nat) (r : List UInt8), Lib.decFrom acc l = some n → Lib.decFrom acc (l ++ r) = Lib.decFrom n r
  | [], acc, n, r, h => by
    simp only [Lib.decFrom, Option.some.injEq] at h
    subst h; rfl
  | b :: l, acc, n, r, h => by
    simp only [Lib.decFrom, List.cons_append] at h ⊢
    cases hb : Lib.digitVal b with
    | none => rw [hb] at h; cases h
    | some d => rw [hb] at h; exact decFrom_append l _ n r h
theorem decFrom_digits (u : Nat) : Lib.decFrom 0 (Lib.decDigits u) = some u := by
  induction u using Nat.strongRecOn with
  | _ u ih =>
    by_cases h : u < 10
    · rw [decDigits_small h]
      simp only [Lib.decFrom, digitVal_byte h]
      simp
    · rw [decDigits_big h, decFrom_append _ _ _ _ (ih (u / 10) (by omega))]
      simp only [Lib.decFrom, digitVal_byte (d := u % 10) (by omega)]
      congr 1; omega
theorem decDigits_mem (u : Nat) : ∀ c ∈ Lib.decDigits u, 48 ≤ c.toNat ∧ c.toNat ≤ 57 := by
  induction u using Nat.strongRecOn with
  | _ u ih =>
    intro c hc
    by_cases h : u < 10
    · rw [decDigits_small h, List.mem_singleton] at hc
      subst hc; rw [digit_byte h]; omega
    · rw [decDigits_big h, List.mem_append, List.mem_singleton] at hc
      rcases hc with hc | rfl
      · exact ih (u / 10) (by omega) c hc
      · rw [digit_byte (by omega)]; omega
theorem decDigits_ne (u : Nat) : Lib.decDigits u ≠ [] := by
  by_cases h : u < 10
  · rw [decDigits_small h]; simp
  · rw [decDigits_big h]; simp
theorem decDigits_len (k : Nat) : ∀ u : Nat, u < 10 ^ (k + 1) → (Lib.decDigits u).length ≤ k + 1 := by
  induction k with
  | zero => intro u h; rw [decDigits_small (by simpa using h)]; simp
  | succ k ih =>
    intro u h
    by_cases h1 : u < 10
    · rw [decDigits_small h1]; simp
    · rw [decDigits_big h1, List.length_append, List.length_singleton]
      rw [Nat.pow_succ] at h
      have := ih (u / 10) (by omega)
      omega
theorem decNat_digits (u : Nat) : Lib.decNat (Lib.decDigits u) = some u := by
  unfold Lib.decNat
  rw [if_neg (by simpa using decDigits_ne u), decFrom_digits]
theorem decNat_ne_sign (u : Nat) : ∃ b r, Lib.decDigits u = b :: r ∧ b ≠ 45 ∧ b ≠ 43 := by
  cases h : Lib.decDigits u with
  | nil => exact absurd h (decDigits_ne u)
  | cons b r =>
    have := decDigits_mem u b (by rw [h]; exact List.mem_cons_self)
    refine ⟨b, r, rfl, ?_, ?_⟩ <;> (rintro rfl; simp at this)
/-- WHAT itoa WRITES atoi READS. -/
theorem atoi_itoa (n : Int) : Lib.atoi (Lib.itoa n) = some n := by
  unfold Lib.itoa
  by_cases h : n < 0
  · rw [if_pos h]
    simp only [Lib.atoi, beq_self_eq_true, if_true]
    rw [decNat_digits]
    show some (-((n.natAbs : Nat) : Int)) = some n
    congr 1; omega
  · rw [if_neg h]
    obtain ⟨b, r, e, h1, h2⟩ := decNat_ne_sign n.toNat
    rw [e]
    simp only [Lib.atoi]
    rw [if_neg (by simpa using h1), if_neg (by simpa using h2), ← e, decNat_digits]
    show some ((n.toNat : Nat) : Int) = some n
    congr 1; omega
theorem itoa_mem (n : Int) : ∀ c ∈ Lib.itoa n, c = 45 ∨ (48 ≤ c.toNat ∧ c.toNat ≤ 57) := by
  intro c hc
  unfold Lib.itoa at hc
  split at hc
  · rw [List.mem_cons] at hc
    rcases hc with rfl | hc
    · exact .inl rfl
    · exact .inr (decDigits_mem _ c hc)
  · exact .inr (decDigits_mem _ c hc)
theorem itoa_not (n : Int) (b : UInt8) (h1 : b ≠ 45) (h2 : b.toNat < 48 ∨ 57 < b.toNat) : b ∉ Lib.itoa n := by
  intro h
  rcases itoa_mem n b h with h | h
  · exact h1 h
  · omega
theorem itoa_ne (n : Int) : Lib.itoa n ≠ [] := by
  unfold Lib.itoa
  split
  · simp
  · exact decDigits_ne _
theorem trim_itoa (n : Int) : Lib.trimPrefix (Lib.itoa n) [45] = Lib.decDigits n.natAbs := by
  unfold Lib.itoa Lib.trimPrefix Lib.hasPrefix
  by_cases h : n < 0
  · rw [if_pos h]; simp
  · rw [if_neg h]
    obtain ⟨b, r, e, h1, _⟩ := decNat_ne_sign n.toNat
    have e2 : n.toNat = n.natAbs := by omega
    rw [← e2, e]
    have : ([45] : List UInt8).isPrefixOf (b :: r) = false := by
      show ((45 : UInt8) == b && ([] : List UInt8).isPrefixOf r) = false
      rw [show ((45 : UInt8) == b) = false by simpa using fun e => h1 e.symm]
      rfl
    rw [this]; rfl
theorem itoa_len (n : Int) (k : Nat) (h : n.natAbs < 10 ^ (k + 1)) : (Lib.trimPrefix (Lib.itoa n) [45]).length ≤ k + 1 := by
  rw [trim_itoa]; exact decDigits_len k _ h

/-- two digits -/
def twoL (n : Nat) : List UInt8 := [UInt8.ofNat (48 + n / 10), UInt8.ofNat (48 + n % 10)]
theorem itoa_hundred (n : Nat) (h : n < 100) : Lib.itoa ((100 + n : Nat) : Int) = 49 :: twoL n := by
  unfold Lib.itoa twoL
  rw [if_neg (by omega), Int.toNat_natCast, decDigits_big (by omega), decDigits_big (by omega), decDigits_small (by omega)]
  have e1 : (100 + n) / 10 / 10 = 1 := by omega
  have e2 : (100 + n) / 10 % 10 = n / 10 := by omega
  have e3 : (100 + n) % 10 = n % 10 := by omega
  rw [e1, e2, e3]
  rfl
theorem twoL_mem (n : Nat) (h : n < 100) : ∀ c ∈ twoL n, 48 ≤ c.toNat ∧ c.toNat ≤ 57 := by
  intro c hc
  unfold twoL at hc
  rw [List.mem_cons, List.mem_singleton] at hc
  rcases hc with rfl | rfl
  · rw [digit_byte (by omega)]; omega
  · rw [digit_byte (by omega)]; omega

/-! ### cutting at a byte -/
theorem index_at (b : UInt8) : ∀ (a r : List UInt8), b ∉ a → Lib.index (a ++ b :: r) [b] = a.length
  | [], r, _ => by simp [Lib.index]
  | c :: a, r, h => by
    have hc : b ≠ c := fun e => h (by rw [e]; exact List.mem_cons_self)
    have ih := index_at b a r (fun g => h (List.mem_cons_of_mem _ g))
    show (if ([b] : List UInt8).isPrefixOf (c :: (a ++ b :: r)) then (0 : Int) else if Lib.index (a ++ b :: r) [b] == -1 then -1 else Lib.index (a ++ b :: r) [b] + 1) = _
    rw [if_neg (by simpa using hc), ih, if_neg (by simp)]
    simp
theorem index_none (b : UInt8) : ∀ (s : List UInt8), b ∉ s → Lib.index s [b] = -1
  | [], _ => by simp [Lib.index]
  | c :: s, h => by
    have hc : b ≠ c := fun e => h (by rw [e]; exact List.mem_cons_self)
    have ih := index_none b s (fun g => h (List.mem_cons_of_mem _ g))
    show (if ([b] : List UInt8).isPrefixOf (c :: s) then (0 : Int) else if Lib.index s [b] == -1 then -1 else Lib.index s [b] + 1) = _
    rw [if_neg (by simpa using hc), ih]
    rfl
theorem cut_at (b : UInt8) (a r : List UInt8) (h : b ∉ a) : Lib.cut (a ++ b :: r) [b] = (a, r, true) := by
  unfold Lib.cut
  rw [index_at b a r h, if_pos (by omega)]
  simp
theorem cut_none (b : UInt8) (s : List UInt8) (h : b ∉ s) : Lib.cut s [b] = (s, [], false) := by
  unfold Lib.cut
  rw [index_none b s h, if_neg (by omega)]

end Go.Proofs.YtllcgcnebofdoaaGreatDoor

/- Plain laws of zones: the stretches of a zone, the offset at a moment, the moments that show a local time; the text of a moment. No program in sight. -/
namespace Go.Proofs.YtllcgcnebofdoaaGreatDoor

/-- a stretch of moments with one offset -/
structure Pt where
  f : Int
  t : Int
  o : Int
/-- the stretches of a zone from f on, with the offset o there, behind which the changes come -/
def prts (f o : Int) : List (Int × Int) → List Pt
  | [] => [⟨f, 3000001, o⟩]
  | (a, p) :: r => ⟨f, a, o⟩ :: prts a p r
/-- the last stretch ends at a -/
def endAt (a : Int) : List Pt → List Pt
  | [] => []
  | [p] => [⟨p.f, a, p.o⟩]
  | p :: q :: r => p :: endAt a (q :: r)
theorem prts_ne (f o : Int) (cs : List (Int × Int)) : prts f o cs ≠ [] := by
  cases cs with
  | nil => simp [prts]
  | cons c r => obtain ⟨a, p⟩ := c; simp [prts]
theorem prts_snoc (a p : Int) : ∀ (cs : List (Int × Int)) (f o : Int), prts f o (cs ++ [(a, p)]) = endAt a (prts f o cs) ++ [⟨a, 3000001, p⟩]
  | [], f, o => rfl
  | (b, q) :: r, f, o => by
    have ih := prts_snoc a p r b q
    simp only [List.cons_append, prts]
    rw [ih]
    cases h : prts b q r with
    | nil => exact absurd h (prts_ne _ _ _)
    | cons x y => rfl
theorem prts_length : ∀ (cs : List (Int × Int)) (f o : Int), (prts f o cs).length = cs.length + 1
  | [], _, _ => rfl
  | (b, q) :: r, f, o => by simp [prts, prts_length r b q]
theorem endAt_set (a : Int) : ∀ (l : List Pt) (h : l ≠ []), endAt a l = l.set (l.length - 1) ⟨(l.getLast h).f, a, (l.getLast h).o⟩
  | [], h => absurd rfl h
  | [p], _ => rfl
  | p :: q :: r, _ => by
    have ih := endAt_set a (q :: r) (by simp)
    simp only [endAt]
    rw [ih]
    simp

/-- what CheckZone finds: behind a change at 'at_' to 'off' -/
def zgo : Int → Int → List (Int × Int) → Int
  | _, _, [] => 0
  | at_, off, (a, o) :: r => if ¬ (1 ≤ a ∧ a ≤ 3000000) ∨ ¬ (-1440 ≤ o ∧ o ≤ 1440) then 2 else if a ≤ at_ then 5 else if o = off then 1 else zgo a o r
def zcode (off : Int) (cs : List (Int × Int)) : Int := if ¬ (-1440 ≤ off ∧ off ≤ 1440) then 2 else if 60 < cs.length then 4 else zgo 0 off cs

def ZOk : Int → Int → List (Int × Int) → Prop
  | _, _, [] => True
  | at_, off, (a, o) :: r => (1 ≤ a ∧ a ≤ 3000000) ∧ (-1440 ≤ o ∧ o ≤ 1440) ∧ at_ < a ∧ o ≠ off ∧ ZOk a o r
theorem zgo_ok : ∀ (cs : List (Int × Int)) (at_ off : Int), zgo at_ off cs = 0 → ZOk at_ off cs
  | [], _, _, _ => True.intro
  | (a, o) :: r, at_, off, h => by
    simp only [zgo] at h
    split at h
    · cases h
    · rename_i h1
      split at h
      · cases h
      · split at h
        · cases h
        · rename_i h2 h3
          have h1' : (1 ≤ a ∧ a ≤ 3000000) ∧ (-1440 ≤ o ∧ o ≤ 1440) := by
            constructor
            · exact Classical.byContradiction fun g => h1 (.inl g)
            · exact Classical.byContradiction fun g => h1 (.inr g)
          exact ⟨h1'.1, h1'.2, by omega, h3, zgo_ok r a o h⟩
structure ZoneOk (off : Int) (cs : List (Int × Int)) : Prop where
  o1 : -1440 ≤ off
  o2 : off ≤ 1440
  len : cs.length ≤ 60
  ok : ZOk 0 off cs
theorem zcode_ok {off : Int} {cs : List (Int × Int)} (h : zcode off cs = 0) : ZoneOk off cs := by
  unfold zcode at h
  split at h
  · cases h
  · split at h
    · cases h
    · rename_i h1 h2
      exact ⟨by omega, by omega, by omega, zgo_ok _ _ _ h⟩

/-- the offset that is in force at m -/
def offAt (m : Int) : Int → List (Int × Int) → Int
  | o, [] => o
  | o, (a, p) :: r => offAt m (if a ≤ m then p else o) r
theorem offAt_before (m : Int) : ∀ (cs : List (Int × Int)) (at_ off o : Int), ZOk at_ off cs → m ≤ at_ → offAt m o cs = o
  | [], _, _, _, _, _ => rfl
  | (a, p) :: r, at_, off, o, h, hm => by
    obtain ⟨_, _, h3, _, h5⟩ := h
    simp only [offAt]
    rw [if_neg (by omega)]
    exact offAt_before m r a p o h5 (by omega)
theorem offAt_bd (m : Int) : ∀ (cs : List (Int × Int)) (at_ off o : Int), ZOk at_ off cs → -1440 ≤ o → o ≤ 1440 → -1440 ≤ offAt m o cs ∧ offAt m o cs ≤ 1440
  | [], _, _, _, _, h1, h2 => ⟨h1, h2⟩
  | (a, p) :: r, at_, off, o, h, h1, h2 => by
    obtain ⟨_, h4, _, _, h5⟩ := h
    simp only [offAt]
    split
    · exact offAt_bd m r a p p h5 h4.1 h4.2
    · exact offAt_bd m r a p o h5 h1 h2
theorem offAt_snoc (m : Int) (a p : Int) : ∀ (cs : List (Int × Int)) (o : Int), offAt m o (cs ++ [(a, p)]) = if a ≤ m then p else offAt m o cs
  | [], o => rfl
  | (b, q) :: r, o => by
    simp only [List.cons_append, offAt]
    exact offAt_snoc m a p r _

/-- the moments of stretches that show the local time T -/
def shownAt (T : Int) : List Pt → List Int
  | [] => []
  | p :: r => if p.f ≤ T - p.o ∧ T - p.o < p.t then (T - p.o) :: shownAt T r else shownAt T r
theorem shownAt_snoc (T : Int) (p : Pt) : ∀ l : List Pt, shownAt T (l ++ [p]) = if p.f ≤ T - p.o ∧ T - p.o < p.t then shownAt T l ++ [T - p.o] else shownAt T l
  | [] => by simp [shownAt]
  | q :: r => by
    simp only [List.cons_append, shownAt]
    rw [shownAt_snoc T p r]
    split <;> split <;> rfl
theorem shownAt_length (T : Int) : ∀ l : List Pt, (shownAt T l).length ≤ l.length
  | [] => Nat.le_refl _
  | q :: r => by
    have ih := shownAt_length T r
    simp only [shownAt]
    split <;> simp <;> omega
theorem shown_mem (m : Int) (hm2 : m ≤ 3000000) : ∀ (cs : List (Int × Int)) (f off : Int), ZOk f off cs → f ≤ m → m ∈ shownAt (m + offAt m off cs) (prts f off cs)
  | [], f, off, _, hm => by
    simp only [offAt, prts, shownAt]
    rw [if_pos (by constructor <;> omega)]
    exact List.mem_cons.2 (.inl (by omega))
  | (a, p) :: r, f, off, h, hm => by
    obtain ⟨h1, h2, h3, h4, h5⟩ := h
    simp only [offAt, prts, shownAt]
    by_cases ha : a ≤ m
    · rw [if_pos ha]
      have ih := shown_mem m hm2 r a p h5 ha
      split
      · exact List.mem_cons_of_mem _ ih
      · exact ih
    · rw [if_neg ha, offAt_before m r a p off h5 (by omega), if_pos (by constructor <;> omega)]
      exact List.mem_cons.2 (.inl (by omega))
theorem shown_ge (T : Int) : ∀ (cs : List (Int × Int)) (f off : Int), ZOk f off cs → ∀ x ∈ shownAt T (prts f off cs), f ≤ x
  | [], f, off, _, x, hx => by
    simp only [prts, shownAt] at hx
    split at hx
    · rw [List.mem_singleton] at hx; omega
    · cases hx
  | (a, p) :: r, f, off, h, x, hx => by
    obtain ⟨h1, h2, h3, h4, h5⟩ := h
    have ih := shown_ge T r a p h5
    simp only [prts, shownAt] at hx
    split at hx
    · rw [List.mem_cons] at hx
      rcases hx with rfl | hx
      · omega
      · have := ih x hx; omega
    · have := ih x hx; omega
theorem shown_rise (T : Int) : ∀ (cs : List (Int × Int)) (f off : Int), ZOk f off cs → (shownAt T (prts f off cs)).Pairwise (· < ·)
  | [], f, off, _ => by
    simp only [prts, shownAt]
    split <;> simp
  | (a, p) :: r, f, off, h => by
    obtain ⟨h1, h2, h3, h4, h5⟩ := h
    have ih := shown_rise T r a p h5
    simp only [prts, shownAt]
    split
    · rw [List.pairwise_cons]
      refine ⟨fun x hx => ?_, ih⟩
      have := shown_ge T r a p h5 x hx
      omega
    · exact ih
/-- WHERE m STANDS among the moments that show its local time: there, and there alone. -/
theorem shown_at {off : Int} {cs : List (Int × Int)} (hz : ZoneOk off cs) (m : Int) (h0 : 0 ≤ m) (h1 : m ≤ 3000000) :
    ∃ k, k < 61 ∧ ∃ hk : k < (shownAt (m + offAt m off cs) (prts 0 off cs)).length, (shownAt (m + offAt m off cs) (prts 0 off cs))[k] = m ∧ ∀ j (hj : j < (shownAt (m + offAt m off cs) (prts 0 off cs)).length), (shownAt (m + offAt m off cs) (prts 0 off cs))[j] = m → j = k := by
  have hm := shown_mem m h1 cs 0 off hz.ok h0
  have hr := shown_rise (m + offAt m off cs) cs 0 off hz.ok
  have hl := shownAt_length (m + offAt m off cs) (prts 0 off cs)
  rw [prts_length] at hl
  have hlen := hz.len
  obtain ⟨k, hk, e⟩ := List.getElem_of_mem hm
  refine ⟨k, by omega, hk, e, fun j hj ej => ?_⟩
  rw [List.pairwise_iff_getElem] at hr
  rcases Nat.lt_trichotomy j k with c | c | c
  · have := hr j k hj hk c; omega
  · exact c
  · have := hr k j hk hj c; omega

/-! ### the text of a moment -/
def clockL (h mi : Nat) : List UInt8 := twoL h ++ 58 :: twoL mi
def baseL (day : Int) (mi : Nat) : List UInt8 := Lib.itoa day ++ 46 :: clockL (mi / 60) (mi % 60)
def tailL (k : Nat) : List UInt8 := if k = 0 then [] else 47 :: Lib.itoa ((k + 1 : Nat) : Int)
theorem base_no {day : Int} {mi : Nat} (h : mi < 1440) : (47 : UInt8) ∉ baseL day mi := by
  unfold baseL clockL
  intro hc
  rw [List.mem_append, List.mem_cons, List.mem_append, List.mem_cons] at hc
  rcases hc with hc | hc | hc | hc | hc
  · exact itoa_not day 47 (by decide) (.inl (by decide)) hc
  · exact absurd hc (by decide)
  · have := twoL_mem _ (by omega) _ hc; simp at this
  · exact absurd hc (by decide)
  · have := twoL_mem _ (by omega) _ hc; simp at this
theorem cut_slash (day : Int) (mi k : Nat) (h : mi < 1440) : Lib.cut (baseL day mi ++ tailL k) [47] = if k = 0 then (baseL day mi, [], false) else (baseL day mi, Lib.itoa ((k + 1 : Nat) : Int), true) := by
  unfold tailL
  split
  · rw [List.append_nil, cut_none _ _ (base_no h)]
  · rw [cut_at _ _ _ (base_no h)]
theorem cut_dot (day : Int) (mi : Nat) : Lib.cut (baseL day mi) [46] = (Lib.itoa day, clockL (mi / 60) (mi % 60), true) := cut_at _ _ _ (itoa_not day 46 (by decide) (.inl (by decide)))
theorem cut_colon (h mi : Nat) (hh : h < 100) : Lib.cut (clockL h mi) [58] = (twoL h, twoL mi, true) := cut_at _ _ _ (fun hc => by have := twoL_mem _ hh _ hc; simp at this)

end Go.Proofs.YtllcgcnebofdoaaGreatDoor

/- The walks of cal's zones: within, moment, floor, cmp.Or, CheckZone, offsetAt. -/
namespace Go.Proofs.YtllcgcnebofdoaaGreatDoor
open Go.RowKit

theorem below_up {B : Nat} {a w w' : World} (h : Below B a w) (k : Below w.heap.size w w') (hB : B ≤ w.heap.size) : Below B a w' := h.trans (k.mono hB)
theorem below_up' {a w w' : World} (h : Below a.heap.size a w) (k : Below w.heap.size w w') : Below a.heap.size a w' := below_up h k h.size
theorem box1 (w : World) (cs : Array Value) (t : TypeId) : Has (w.alloc (.cells cs t)) w.heap.size cs t ∧ Below w.heap.size w (w.alloc (.cells cs t)) :=
  ⟨Has.new _ _ _, (Below.refl _ _).alloc (Nat.le_refl _) _⟩
theorem ints2_at (w : World) (a b : Int) (t : TypeId) : SliceAt 1 intR (w.alloc (.cells #[.int .i64 a, .int .i64 b] t)) (.slice (some ⟨w.heap.size, 0, none⟩) 2 2) [a, b] := by
  have hx := Has.new w #[.int .i64 a, .int .i64 b] t
  refine .inr ⟨w.heap.size, 0, 2, rfl, by simp, by simp, fun i hi => ?_⟩
  match i, hi with
  | 0, _ => exact ⟨[.int .i64 a], ⟨rfl, fun j hj => by
      have hj0 : j = 0 := by simpa using hj
      subst hj0
      exact hx.cell 0⟩, rfl⟩
  | 1, _ => exact ⟨[.int .i64 b], ⟨rfl, fun j hj => by
      have hj0 : j = 0 := by simpa using hj
      subst hj0
      exact hx.cell 1⟩, rfl⟩

theorem within_any (n lo hi : Int) (w : World) :
    Calls Tryz.prog 32 #[.int .i64 n, .int .i64 lo, .int .i64 hi] w fun e w' => e = .returned (.bool (decide (lo ≤ n) && decide (n ≤ hi))) ∧ w = w' := by
  go_enter Tryz.func32, Tryz.ntmps32
  go_wp2
  all_goals go_ret
  all_goals (refine ⟨ret_bool ?_, rfl⟩; simp; try omega)

def momI (m : Int) : Int := if 0 ≤ m ∧ m ≤ 3000000 then 0 else 2
theorem moment_any (m : Int) (w : World) :
    Calls Tryz.prog 119 #[.int .i64 m] w fun e w' => e = .returned (.int .i64 (momI m)) ∧ w = w' := by
  go_enter Tryz.func119, Tryz.ntmps119
  go_wp2_with (go_at_call 32; refine (within_any _ _ _ _).mono ?_; rintro e w' ⟨rfl, rfl⟩)
  all_goals go_ret
  all_goals (refine ⟨ret_int ?_, rfl⟩; simp_all [momI] <;> omega)
theorem tdiv_1440 (a : Int) : (a.tmod 1440 < 0 → a.tdiv 1440 - 1 = a / 1440) ∧ (¬ a.tmod 1440 < 0 → a.tdiv 1440 = a / 1440) := by
  rcases Int.lt_or_le a 0 with h | h
  · obtain ⟨b, rfl⟩ : ∃ b : Int, a = -b := ⟨-a, by omega⟩
    rw [Int.neg_tdiv, Int.neg_tmod, Int.tdiv_eq_ediv_of_nonneg (by omega), Int.tmod_eq_emod_of_nonneg (by omega)]
    omega
  · rw [Int.tdiv_eq_ediv_of_nonneg h, Int.tmod_eq_emod_of_nonneg h]
    omega
theorem floor_any (a : Int) (h1 : -1000000000 ≤ a) (h2 : a ≤ 1000000000) (w : World) :
    Calls Tryz.prog 150 #[.int .i64 a, .int .i64 1440] w fun e w' => e = .returned (.int .i64 (a / 1440)) ∧ w = w' := by
  obtain ⟨g1, g2⟩ := tdiv_1440 a
  have b1 : -1000000001 ≤ a.tdiv 1440 ∧ a.tdiv 1440 ≤ 1000000001 := by
    by_cases h : a.tmod 1440 < 0
    · have := g1 h; omega
    · have := g2 h; omega
  obtain ⟨b1, b2⟩ := b1
  by_cases h : a.tmod 1440 < 0
  · have G := Lib.hid (g1 h)
    have hd : decide (a.tmod 1440 < 0) = true := by simpa using h
    clear g1 g2
    go_enter Tryz.func150, Tryz.ntmps150
    go_wp2
    go_ret
    exact ⟨ret_int G.out, rfl⟩
  · have G := Lib.hid (g2 h)
    have hd : decide (a.tmod 1440 < 0) = false := by simpa using h
    clear g1 g2
    go_enter Tryz.func150, Tryz.ntmps150
    go_wp2
    go_ret
    exact ⟨ret_int G.out, rfl⟩

/-- the first that is not 0 -/
def orI : List Int → Int
  | [] => 0
  | e :: r => if e = 0 then orI r else e
theorem orI_cons (e : Int) (r : List Int) : orI (e :: r) = if e = 0 then orI r else e := rfl
theorem orI2 (a b : Int) : orI [a, b] = if a = 0 then b else a := by
  simp only [orI]
  split
  · split <;> simp_all
  · rfl
set_option maxRecDepth 100000 in
theorem or_any (v : Value) (es : List Int) (w : World) (h : SliceAt 1 intR w v es) (hl : es.length ≤ 1000) :
    Calls Tryz.prog 36 #[v] w fun e w' => e = .returned (.int .i64 (orI es)) ∧ w = w' := by
  obtain ⟨a, cap, rfl⟩ := h.len
  have H := Lib.hid h
  clear h
  go_enter Tryz.func36, Tryz.ntmps36
  go_wp2_with fail
  go_loop [8] (fun iv => ∃ i : Nat, i ≤ es.length ∧ iv = .int .i64 i ∧ orI (es.drop i) = orI es) (fun iv => es.length - (intOf iv).toNat)
  case atStart => exact ⟨0, Nat.zero_le _, rfl, rfl⟩
  case round =>
    obtain ⟨i, hi, rfl, he⟩ := hrel
    have HE := Lib.hid he
    clear he
    by_cases hlt : i < es.length
    · obtain ⟨b, off, cap', hv, hcap, hb, hel⟩ := H.out.at (by omega)
      cases hv
      have c0 := ints_cell hel i es[i] (List.getElem?_eq_getElem hlt)
      have hd : es.drop i = es[i] :: es.drop (i + 1) := List.drop_eq_getElem_cons hlt
      have he := HE.out
      rw [hd, orI_cons] at he
      generalize es[i] = x at *
      by_cases hx : x = 0
      · subst hx
        rw [if_pos rfl] at he
        have HE2 := Lib.hid he
        clear he hd hel
        go_wp2
        go_round
        case rel => exact ⟨i + 1, by omega, by go_num, HE2.out⟩
        case measure => simp [intOf]; omega
      · rw [if_neg hx] at he
        have hb0 : (x == 0) = false := by simpa using hx
        have hb1 : (x != 0) = true := by simpa using hx
        have HE2 := Lib.hid he
        clear he hd hel hx
        go_wp2
        go_ret
        exact ⟨ret_int HE2.out, rfl⟩
    · obtain rfl : i = es.length := by omega
      have he := HE.out
      rw [List.drop_length] at he
      have HE2 := Lib.hid he
      clear he
      go_wp2
      go_ret
      exact ⟨ret_int HE2.out, rfl⟩

/-! ### changes of a zone -/
def pairR (_ : World) (cs : List Value) (x : Int × Int) : Prop := cs = [.int .i64 x.1, .int .i64 x.2]
theorem pairR_stable : Stable pairR := fun _ _ _ _ h _ => h
theorem pair_cells {w : World} {b off : Nat} {l : List (Int × Int)} (h : ∀ i (h : i < l.length), ∃ cs, ElemAt w b off 2 i cs ∧ pairR w cs l[i]) (i : Nat) (hi : i < l.length) :
    w.cell? ⟨b, off + i * 2, none⟩ = some (.int .i64 l[i].1) ∧ w.cell? ⟨b, off + i * 2 + 1, none⟩ = some (.int .i64 l[i].2) := by
  obtain ⟨cs, ⟨_, hc⟩, hr⟩ := h i hi
  cases hr
  exact ⟨by simpa using hc 0 (by simp), by simpa using hc 1 (by simp)⟩
/-- the changes of a zone in memory -/
def Changes (w : World) (v : Value) (cs : List (Int × Int)) : Prop := SliceAt 2 pairR w v cs
theorem Changes.below {w w' : World} {v : Value} {cs : List (Int × Int)} (h : Changes w v cs) (hb : Below w.heap.size w w') : Changes w' v cs := SliceAt.stable pairR_stable h hb
theorem Changes.at {w : World} {v : Value} {cs : List (Int × Int)} (h : Changes w v cs) (hl : 0 < cs.length) : ∃ b off cap, v = .slice (some ⟨b, off, none⟩) cs.length cap ∧ b < w.heap.size ∧
    ∀ i (hi : i < cs.length), w.cell? ⟨b, off + i * 2, none⟩ = some (.int .i64 cs[i].1) ∧ w.cell? ⟨b, off + i * 2 + 1, none⟩ = some (.int .i64 cs[i].2) := by
  obtain ⟨b, off, cap, hv, hc, hb, hel⟩ := SliceAt.at h hl
  exact ⟨b, off, cap, hv, hb, fun i hi => pair_cells hel i hi⟩

end Go.Proofs.YtllcgcnebofdoaaGreatDoor
