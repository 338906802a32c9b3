/- Plain laws of decimal numerals and of cutting a text at a byte. No program in sight. -/
import Derived.WalkKit
import Derived.Lib.ItoaNum
import Derived.Lib.Atoi
import Derived.Lib.IndexMore
import Derived.Lib.Strings
import Derived.Lib.SplitLaws
import Derived.Lib.Split
import Derived.Lib.Join
namespace Go.Proofs.YtemikhnkjligdaaGreatDoor

theorem decDigits_small {u : Nat} (h : u < 10) : Lib.decDigits u = [UInt8.ofNat (48 + u)] := by rw [Lib.decDigits, dif_pos h]
theorem decDigits_big {u : Nat} (h : ¬ u < 10) : Lib.decDigits u = Lib.decDigits (u / 10) ++ [UInt8.ofNat (48 + u % 10)] := by rw [Lib.decDigits, dif_neg h]
theorem digit_byte {d : Nat} (h : d < 10) : (UInt8.ofNat (48 + d)).toNat = 48 + d := by
  simp [UInt8.toNat_ofNat]; omega
theorem digitVal_byte {d : Nat} (h : d < 10) : Lib.digitVal (UInt8.ofNat (48 + d)) = some d := by
  unfold Lib.digitVal
  rw [digit_byte h, if_pos (by omega)]
  congr 1; omega
theorem decFrom_append : ∀ (l : List UInt8) (acc : Nat) (n : Nat) (r : List UInt8), Lib.decFrom acc l = some n → Lib.decFrom acc (l ++ r) = Lib.decFrom n r
  | [], acc, n, r, h => by
    simp only [Lib.decFrom, Option.some.injEq] at h
    subst h; rfl
  | b :: l, acc, n, r, h => by
    simp only [Lib.decFrom, List.cons_append] at h ⊢
    cases hb : Lib.digitVal b with
    | none => rw [hb] at h; cases h
    | some d => rw [hb] at h; exact decFrom_append l _ n r h
theorem decFrom_digits (u : Nat) : Lib.decFrom 0 (Lib.decDigits u) = some u := by
  induction u using Nat.strongRecOn with
  | _ u ih =>
    by_cases h : u < 10
    · rw [decDigits_small h]
      simp only [Lib.decFrom, digitVal_byte h]
      simp
    · rw [decDigits_big h, decFrom_append _ _ _ _ (ih (u / 10) (by omega))]
      simp only [Lib.decFrom, digitVal_byte (d := u % 10) (by omega)]
      congr 1; omega
theorem decDigits_mem (u : Nat) : ∀ c ∈ Lib.decDigits u, 48 ≤ c.toNat ∧ c.toNat ≤ 57 := by
  induction u using Nat.strongRecOn with
  | _ u ih =>
    intro c hc
    by_cases h : u < 10
    · rw [decDigits_small h, List.mem_singleton] at hc
      subst hc; rw [digit_byte h]; omega
    · rw [decDigits_big h, List.mem_append, List.mem_singleton] at hc
      rcases hc with hc | rfl
      · exact ih (u / 10) (by omega) c hc
      · rw [digit_byte (by omega)]; omega
theorem decDigits_ne (u : Nat) : Lib.decDigits u ≠ [] := by
  by_cases h : u < 10
  · rw [decDigits_small h]; simp
  · rw [decDigits_big h]; simp
theorem decDigits_len (k : Nat) : ∀ u : Nat, u < 10 ^ (k + 1) → (Lib.decDigits u).length ≤ k + 1 := by
  induction k with
  | zero => intro u h; rw [decDigits_small (by simpa using h)]; simp
  | succ k ih =>
    intro u h
    by_cases h1 : u < 10
    · rw [decDigits_small h1]; simp
    · rw [decDigits_big h1, List.length_append, List.length_singleton]
      rw [Nat.pow_succ] at h
      have := ih (u / 10) (by omega)
      omega
theorem decNat_digits (u : Nat) : Lib.decNat (Lib.decDigits u) = some u := by
  unfold Lib.decNat
  rw [if_neg (by simpa using decDigits_ne u), decFrom_digits]
theorem decNat_ne_sign (u : Nat) : ∃ b r, Lib.decDigits u = b :: r ∧ b ≠ 45 ∧ b ≠ 43 := by
  cases h : Lib.decDigits u with
  | nil => exact absurd h (decDigits_ne u)
  | cons b r =>
    have := decDigits_mem u b (by rw [h]; exact List.mem_cons_self)
    refine ⟨b, r, rfl, ?_, ?_⟩ <;> (rintro rfl; simp at this)
/-- WHAT itoa WRITES atoi READS. -/
theorem atoi_itoa (n : Int) : Lib.atoi (Lib.itoa n) = some n := by
  unfold Lib.itoa
  by_cases h : n < 0
  · rw [if_pos h]
    simp only [Lib.atoi, beq_self_eq_true, if_true]
    rw [decNat_digits]
    show some (-((n.natAbs : Nat) : Int)) = some n
    congr 1; omega
  · rw [if_neg h]
    obtain ⟨b, r, e, h1, h2⟩ := decNat_ne_sign n.toNat
    rw [e]
    simp only [Lib.atoi]
    rw [if_neg (by simpa using h1), if_neg (by simpa using h2), ← e, decNat_digits]
    show some ((n.toNat : Nat) : Int) = some n
    congr 1; omega
theorem itoa_mem (n : Int) : ∀ c ∈ Lib.itoa n, c = 45 ∨ (48 ≤ c.toNat ∧ c.toNat ≤ 57) := by
  intro c hc
  unfold Lib.itoa at hc
  split at hc
  · rw [List.mem_cons] at hc
    rcases hc with rfl | hc
    · exact .inl rfl
    · exact .inr (decDigits_mem _ c hc)
  · exact .inr (decDigits_mem _ c hc)
theorem itoa_not (n : Int) (b : UInt8) (h1 : b ≠ 45) (h2 : b.toNat < 48 ∨ 57 < b.toNat) : b ∉ Lib.itoa n := by
  intro h
  rcases itoa_mem n b h with h | h
  · exact h1 h
  · omega
theorem itoa_ne (n : Int) : Lib.itoa n ≠ [] := by
  unfold Lib.itoa
  split
  · simp
  · exact decDigits_ne _
theorem trim_itoa (n : Int) : Lib.trimPrefix (Lib.itoa n) [45] = Lib.decDigits n.natAbs := by
  unfold Lib.itoa Lib.trimPrefix Lib.hasPrefix
  by_cases h : n < 0
  · rw [if_pos h]; simp
  · rw [if_neg h]
    obtain ⟨b, r, e, h1, _⟩ := decNat_ne_sign n.toNat
    have e2 : n.toNat = n.natAbs := by omega
    rw [← e2, e]
    have : ([45] : List UInt8).isPrefixOf (b :: r) = false := by
      show ((45 : UInt8) == b && ([] : List UInt8).isPrefixOf r) = false
      rw [show ((45 : UInt8) == b) = false by simpa using fun e => h1 e.symm]
      rfl
    rw [this]; rfl
theorem itoa_len (n : Int) (k : Nat) (h : n.natAbs < 10 ^ (k + 1)) : (Lib.trimPrefix (Lib.itoa n) [45]).length ≤ k + 1 := by
  rw [trim_itoa]; exact decDigits_len k _ h

/-- two digits -/
def twoL (n : Nat) : List UInt8 := [UInt8.ofNat (48 + n / 10), UInt8.ofNat (48 + n % 10)]
theorem itoa_hundred (n : Nat) (h : n < 100) : Lib.itoa ((100 + n : Nat) : Int) = 49 :: twoL n := by
  unfold Lib.itoa twoL
  rw [if_neg (by omega), Int.toNat_natCast, decDigits_big (by omega), decDigits_big (by omega), decDigits_small (by omega)]
  have e1 : (100 + n) / 10 / 10 = 1 := by omega
  have e2 : (100 + n) / 10 % 10 = n / 10 := by omega
  have e3 : (100 + n) % 10 = n % 10 := by omega
  rw [e1, e2, e3]
  rfl
theorem twoL_mem (n : Nat) (h : n < 100) : ∀ c ∈ twoL n, 48 ≤ c.toNat ∧ c.toNat ≤ 57 := by
  intro c hc
  unfold twoL at hc
  rw [List.mem_cons, List.mem_singleton] at hc
  rcases hc with rfl | rfl
  · rw [digit_byte (by omega)]; omega
  · rw [digit_byte (by omega)]; omega

/-! ### cutting at a byte -/
theorem index_at (b : UInt8) : ∀ (a r : List UInt8), b ∉ a → Lib.index (a ++ b :: r) [b] = a.length
  | [], r, _ => by simp [Lib.index]
  | c :: a, r, h => by
    have hc : b ≠ c := fun e => h (by rw [e]; exact List.mem_cons_self)
    have ih := index_at b a r (fun g => h (List.mem_cons_of_mem _ g))
    show (if ([b] : List UInt8).isPrefixOf (c :: (a ++ b :: r)) then (0 : Int) else if Lib.index (a ++ b :: r) [b] == -1 then -1 else Lib.index (a ++ b :: r) [b] + 1) = _
    rw [if_neg (by simpa using hc), ih, if_neg (by simp)]
    simp
theorem index_none (b : UInt8) : ∀ (s : List UInt8), b ∉ s → Lib.index s [b] = -1
  | [], _ => by simp [Lib.index]
  | c :: s, h => by
    have hc : b ≠ c := fun e => h (by rw [e]; exact List.mem_cons_self)
    have ih := index_none b s (fun g => h (List.mem_cons_of_mem _ g))
    show (if ([b] : List UInt8).isPrefixOf (c :: s) then (0 : Int) else if Lib.index s [b] == -1 then -1 else Lib.index s [b] + 1) = _
    rw [if_neg (by simpa using hc), ih]
    rfl
theorem cut_at (b : UInt8) (a r : List UInt8) (h : b ∉ a) : Lib.cut (a ++ b :: r) [b] = (a, r, true) := by
  unfold Lib.cut
  rw [index_at b a r h, if_pos (by omega)]
  simp
theorem cut_none (b : UInt8) (s : List UInt8) (h : b ∉ s) : Lib.cut s [b] = (s, [], false) := by
  unfold Lib.cut
  rw [index_none b s h, if_neg (by omega)]

end Go.Proofs.YtemikhnkjligdaaGreatDoor

/- Plain laws of people's text: its lines, what they are cut and split into, and what a reader makes of them. No program in sight. -/
namespace Go.Proofs.YtemikhnkjligdaaGreatDoor

theorem tail_cons (x : List UInt8) (r : List (List UInt8)) : Lib.joinTail [32] (x :: r) = 32 :: (x ++ Lib.joinTail [32] r) := by simp [Lib.joinTail]
theorem tail_nil : Lib.joinTail [32] [] = [] := rfl
theorem split_tail : ∀ (ws : List (List UInt8)) (w : List UInt8), (32 : UInt8) ∉ w → (∀ x ∈ ws, (32 : UInt8) ∉ x) → Lib.splitK [32] 0 ws.length (w ++ Lib.joinTail [32] ws) = w :: ws
  | [], w, _, _ => by
    rw [tail_nil, List.append_nil]
    rfl
  | x :: r, w, h, hr => by
    have e : w ++ Lib.joinTail [32] (x :: r) = w ++ 32 :: (x ++ Lib.joinTail [32] r) := by rw [tail_cons]
    have hi := index_at 32 w (x ++ Lib.joinTail [32] r) h
    rw [e, List.length_cons]
    unfold Lib.splitK
    have hm : ¬ (Lib.index (w ++ 32 :: (x ++ Lib.joinTail [32] r)) [32] == -1) = true := fun g => by rw [hi] at g; have := beq_iff_eq.1 g; omega
    rw [if_neg hm, hi]
    simp only [Int.toNat_natCast, List.length_cons, List.length_nil, Nat.zero_add, Nat.add_zero]
    have h1 : (w ++ 32 :: (x ++ Lib.joinTail [32] r)).take w.length = w := by simp
    have h2 : (w ++ 32 :: (x ++ Lib.joinTail [32] r)).drop (w.length + 1) = x ++ Lib.joinTail [32] r := by
      rw [List.drop_append]
      simp
    rw [h1, h2, split_tail r x (hr x List.mem_cons_self) (fun y hy => hr y (List.mem_cons_of_mem _ hy))]
theorem count_tail : ∀ (ws : List (List UInt8)) (w : List UInt8), (32 : UInt8) ∉ w → (∀ x ∈ ws, (32 : UInt8) ∉ x) → Lib.count (w ++ Lib.joinTail [32] ws) [32] = ws.length
  | [], w, h, _ => by
    rw [tail_nil, List.append_nil, Lib.count_one, List.count_eq_zero.2 h]
    rfl
  | x :: r, w, h, hr => by
    have ih := count_tail r x (hr x List.mem_cons_self) (fun y hy => hr y (List.mem_cons_of_mem _ hy))
    rw [Lib.count_one] at ih ⊢
    rw [tail_cons, List.count_append, List.count_eq_zero.2 h, List.count_cons, ih]
    simp
theorem split_join (w : List UInt8) (ws : List (List UInt8)) (h : ∀ x ∈ w :: ws, (32 : UInt8) ∉ x) : Lib.splitK [32] 0 (Lib.count (Lib.join (w :: ws) [32]) [32]) (Lib.join (w :: ws) [32]) = w :: ws ∧ Lib.count (Lib.join (w :: ws) [32]) [32] = ws.length := by
  have h1 := h w List.mem_cons_self
  have h2 : ∀ x ∈ ws, (32 : UInt8) ∉ x := fun x hx => h x (List.mem_cons_of_mem _ hx)
  rw [Lib.join_cons, count_tail ws w h1 h2, split_tail ws w h1 h2]
  exact ⟨rfl, rfl⟩
theorem join_no : ∀ (ws : List (List UInt8)) (w : List UInt8), (∀ x ∈ w :: ws, (10 : UInt8) ∉ x) → (10 : UInt8) ∉ Lib.join (w :: ws) [32]
  | ws, w, h => by
    rw [Lib.join_cons]
    intro g
    rcases List.mem_append.1 g with g | g
    · exact h w List.mem_cons_self g
    · unfold Lib.joinTail at g
      obtain ⟨l, hl, hg⟩ := List.mem_flatten.1 g
      obtain ⟨x, hx, rfl⟩ := List.mem_map.1 hl
      rcases List.mem_append.1 hg with q | q
      · have := List.mem_singleton.1 q
        cases this
      · exact h x (List.mem_cons_of_mem _ hx) q
theorem itoa_clean (n : Int) (b : UInt8) (h : b = 10 ∨ b = 32) : b ∉ Lib.itoa n := itoa_not n b (by rcases h with rfl | rfl <;> decide) (by rcases h with rfl | rfl <;> exact .inl (by decide))

/-- a skill: its name, its rank; a person -/
abbrev Skl := ByteArray × Int
structure PerD where
  no : Int
  cap : Int
  cl : Int
  sk : List Skl
def personW : List UInt8 := [112, 101, 114, 115, 111, 110]
def skW (l : List Skl) : List (List UInt8) := l.flatMap fun s => [s.1.data.toList, Lib.itoa s.2]
def perW (p : PerD) : List (List UInt8) := Lib.itoa p.no :: Lib.itoa p.cap :: Lib.itoa p.cl :: skW p.sk
def lineP (p : PerD) : List UInt8 := Lib.join (personW :: perW p) [32]
def textP (l : List PerD) : List UInt8 := l.flatMap fun p => lineP p ++ [10]

/-- a name: small letters, digits, underscores -/
def nmB (c : UInt8) : Bool := (decide (97 ≤ c.toNat) && decide (c.toNat ≤ 122)) || (decide (48 ≤ c.toNat) && decide (c.toNat ≤ 57)) || decide (c.toNat = 95)
def nm (s : ByteArray) : Bool := s.data.toList.all nmB && decide (s.size ≠ 0) && decide (s.size ≤ 20)
theorem nm_no {s : ByteArray} (h : nm s = true) (b : UInt8) (hb : b = 10 ∨ b = 32) : b ∉ s.data.toList := by
  intro g
  unfold nm at h
  simp only [Bool.and_eq_true, List.all_eq_true] at h
  have := h.1.1 b g
  rcases hb with rfl | rfl <;> revert this <;> decide
theorem nm_size {s : ByteArray} (h : nm s = true) : s.size ≠ 0 ∧ s.size ≤ 20 := by
  unfold nm at h
  simp only [Bool.and_eq_true, decide_eq_true_eq] at h
  exact ⟨h.1.2, h.2⟩
/-- what the reader of a person needs -/
structure PerOk (p : PerD) : Prop where
  no : p.no.natAbs < 10 ^ 9
  cap : p.cap.natAbs < 10 ^ 9
  cl : p.cl.natAbs < 10 ^ 9
  few : p.sk.length ≤ 12
  nms : ∀ s ∈ p.sk, nm s.1 = true
  rks : ∀ s ∈ p.sk, s.2.natAbs < 10 ^ 9
theorem skW_len (l : List Skl) : (skW l).length = 2 * l.length := by
  induction l with
  | nil => rfl
  | cons s r ih => unfold skW at ih ⊢; rw [List.flatMap_cons, List.length_append, ih, List.length_cons]; simp; omega
theorem words_clean {p : PerD} (h : PerOk p) (b : UInt8) (hb : b = 10 ∨ b = 32) : ∀ x ∈ personW :: perW p, b ∉ x := by
  intro x hx
  rcases List.mem_cons.1 hx with rfl | hx
  · rcases hb with rfl | rfl <;> decide
  unfold perW at hx
  rcases List.mem_cons.1 hx with rfl | hx
  · exact itoa_clean _ _ hb
  rcases List.mem_cons.1 hx with rfl | hx
  · exact itoa_clean _ _ hb
  rcases List.mem_cons.1 hx with rfl | hx
  · exact itoa_clean _ _ hb
  unfold skW at hx
  obtain ⟨s, hs, hx⟩ := List.mem_flatMap.1 hx
  rcases List.mem_cons.1 hx with rfl | hx
  · exact nm_no (h.nms s hs) b hb
  · rw [List.mem_singleton.1 hx]
    exact itoa_clean _ _ hb
theorem cut_person {p : PerD} (h : PerOk p) (r : List PerD) : Lib.cut (textP (p :: r)) [10] = (lineP p, textP r, true) := by
  unfold textP
  rw [List.flatMap_cons, List.append_assoc]
  exact cut_at 10 _ _ (join_no _ _ (words_clean h 10 (.inl rfl)))
theorem itoa_short9 (n : Int) (h : n.natAbs < 10 ^ 9) : (Lib.itoa n).length ≤ 10 := by
  have hln := itoa_len n 8 h
  rw [trim_itoa] at hln
  unfold Lib.itoa
  split
  · rw [List.length_cons]; omega
  · rw [show n.toNat = n.natAbs by omega]; omega
theorem tail_short : ∀ (ws : List (List UInt8)), (∀ x ∈ ws, x.length ≤ 20) → (Lib.joinTail [32] ws).length ≤ 21 * ws.length
  | [], _ => by simp [tail_nil]
  | x :: r, h => by
    have ih := tail_short r (fun y hy => h y (List.mem_cons_of_mem _ hy))
    have := h x List.mem_cons_self
    rw [tail_cons, List.length_cons, List.length_append, List.length_cons]
    omega
theorem words_short {p : PerD} (h : PerOk p) : ∀ x ∈ perW p, x.length ≤ 20 := by
  intro x hx
  unfold perW at hx
  rcases List.mem_cons.1 hx with rfl | hx
  · exact Nat.le_trans (itoa_short9 _ h.no) (by decide)
  rcases List.mem_cons.1 hx with rfl | hx
  · exact Nat.le_trans (itoa_short9 _ h.cap) (by decide)
  rcases List.mem_cons.1 hx with rfl | hx
  · exact Nat.le_trans (itoa_short9 _ h.cl) (by decide)
  unfold skW at hx
  obtain ⟨s, hs, hx⟩ := List.mem_flatMap.1 hx
  rcases List.mem_cons.1 hx with rfl | hx
  · have := (nm_size (h.nms s hs)).2
    rw [Array.length_toList]
    exact this
  · rw [List.mem_singleton.1 hx]
    exact Nat.le_trans (itoa_short9 _ (h.rks s hs)) (by decide)
theorem perW_len (p : PerD) : (perW p).length = 3 + 2 * p.sk.length := by
  have e : (perW p).length = (skW p.sk).length + 1 + 1 + 1 := rfl
  rw [e, skW_len]
  omega
theorem line_short {p : PerD} (h : PerOk p) : (lineP p).length ≤ 600 := by
  unfold lineP
  rw [Lib.join_cons, List.length_append]
  have h1 := tail_short _ (words_short h)
  rw [perW_len] at h1
  have := h.few
  have : personW.length = 6 := rfl
  omega
theorem text_short : ∀ (l : List PerD), (∀ p ∈ l, PerOk p) → (textP l).length ≤ 601 * l.length
  | [], _ => by simp [textP]
  | p :: r, h => by
    have ih := text_short r (fun q hq => h q (List.mem_cons_of_mem _ hq))
    have h1 := line_short (h p List.mem_cons_self)
    have e : textP (p :: r) = (lineP p ++ [10]) ++ textP r := by unfold textP; rw [List.flatMap_cons]
    have e2 : ([10] : List UInt8).length = 1 := rfl
    have e3 : (p :: r).length = r.length + 1 := rfl
    rw [e, List.length_append, List.length_append, e2, e3]
    omega
theorem text_next {l : List PerD} {m : Nat} (hm : m < l.length) : textP (l.take (m + 1)) = textP (l.take m) ++ (lineP l[m] ++ [10]) := by
  rw [List.take_succ_eq_append_getElem hm]
  unfold textP
  rw [List.flatMap_append]
  simp
end Go.Proofs.YtemikhnkjligdaaGreatDoor

/- Lists whose elements are right, one by one and pair by pair, as a loop finds them. No program in sight. -/
namespace Go.Proofs.YtemikhnkjligdaaGreatDoor

structure Lst {α : Type} (P : α → Prop) (Q : α → α → Prop) (l : List α) : Prop where
  each : ∀ i (h : i < l.length), P l[i]
  order : ∀ i (h : i + 1 < l.length), Q l[i] l[i + 1]
theorem Lst.nil {α : Type} {P : α → Prop} {Q : α → α → Prop} : Lst P Q [] := ⟨fun i h => absurd h (by simp), fun i h => absurd h (by simp)⟩
theorem Lst.next {α : Type} {P : α → Prop} {Q : α → α → Prop} {l : List α} {i : Nat} (h : Lst P Q (l.take i)) (hi : i < l.length) (hx : P l[i]) (ho : ∀ hp : 0 < i, Q (l[i - 1]'(by omega)) l[i]) : Lst P Q (l.take (i + 1)) := by
  refine ⟨fun j hj => ?_, fun j hj => ?_⟩
  · rw [List.getElem_take]
    rw [List.length_take] at hj
    by_cases g : j = i
    · subst g; exact hx
    · have := h.each j (by rw [List.length_take]; omega)
      rwa [List.getElem_take] at this
  · rw [List.getElem_take, List.getElem_take]
    rw [List.length_take] at hj
    by_cases g : j + 1 = i
    · have := ho (by omega)
      simp only [← g] at this ⊢
      exact this
    · have := h.order j (by rw [List.length_take]; omega)
      rwa [List.getElem_take, List.getElem_take] at this
theorem Lst.mem {α : Type} {P : α → Prop} {Q : α → α → Prop} {l : List α} (h : Lst P Q l) {x : α} (hx : x ∈ l) : P x := by
  obtain ⟨i, hi, rfl⟩ := List.mem_iff_getElem.1 hx
  exact h.each i hi
theorem Lst.before {α : Type} {P : α → Prop} {Q : α → α → Prop} {l : List α} (h : Lst P Q l) {i : Nat} (hi : i < l.length) (hp : 0 < i) : Q (l[i - 1]'(by omega)) l[i] := by
  have := h.order (i - 1) (by omega)
  simpa [Nat.sub_add_cancel hp] using this
end Go.Proofs.YtemikhnkjligdaaGreatDoor
