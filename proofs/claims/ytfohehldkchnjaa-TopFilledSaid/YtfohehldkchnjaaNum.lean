/- Plain laws of decimal numerals and of cutting a text at a byte. No program in sight. -/
import Derived.WalkKit
import Derived.Lib.ItoaNum
import Derived.Lib.Atoi
import Derived.Lib.IndexMore
import Derived.Lib.Strings
namespace Go.Proofs.Ytfohehldkchnjaa

theorem decDigits_small {u : Nat} (h : u < 10) : Lib.decDigits u = [UInt8.ofNat (48 + u)] := by rw [Lib.decDigits, dif_pos h]
theorem decDigits_big {u : Nat} (h : ¬ u < 10) : Lib.decDigits u = Lib.decDigits (u / 10) ++ [UInt8.ofNat (48 + u % 10)] := by rw [Lib.decDigits, dif_neg h]
theorem digit_byte {d : Nat} (h : d < 10) : (UInt8.ofNat (48 + d)).toNat = 48 + d := by
  simp [UInt8.toNat_ofNat]; omega
theorem digitVal_byte {d : Nat} (h : d < 10) : Lib.digitVal (UInt8.ofNat (48 + d)) = some d := by
  unfold Lib.digitVal
  rw [digit_byte h, if_pos (by omega)]
  congr 1; omega
theorem decFrom_append : ∀ (l : List UInt8) (acc : Nat) (n : Nat) (r : List UInt8), Lib.decFrom acc l = some n → Lib.decFrom acc (l ++ r) = Lib.decFrom n r
  | [], acc, n, r, h => by
    simp only [Lib.decFrom, Option.some.injEq] at h
    subst h; rfl
  | b :: l, acc, n, r, h => by
    simp only [Lib.decFrom, List.cons_append] at h ⊢
    cases hb : Lib.digitVal b with
    | none => rw [hb] at h; cases h
    | some d => rw [hb] at h; exact decFrom_append l _ n r h
theorem decFrom_digits (u : Nat) : Lib.decFrom 0 (Lib.decDigits u) = some u := by
  induction u using Nat.strongRecOn with
  | _ u ih =>
    by_cases h : u < 10
    · rw [decDigits_small h]
      simp only [Lib.decFrom, digitVal_byte h]
      simp
    · rw [decDigits_big h, decFrom_append _ _ _ _ (ih (u / 10) (by omega))]
      simp only [Lib.decFrom, digitVal_byte (d := u % 10) (by omega)]
      congr 1; omega
theorem decDigits_mem (u : Nat) : ∀ c ∈ Lib.decDigits u, 48 ≤ c.toNat ∧ c.toNat ≤ 57 := by
  induction u using Nat.strongRecOn with
  | _ u ih =>
    intro c hc
    by_cases h : u < 10
    · rw [decDigits_small h, List.mem_singleton] at hc
      subst hc; rw [digit_byte h]; omega
    · rw [decDigits_big h, List.mem_append, List.mem_singleton] at hc
      rcases hc with hc | rfl
      · exact ih (u / 10) (by omega) c hc
      · rw [digit_byte (by omega)]; omega
theorem decDigits_ne (u : Nat) : Lib.decDigits u ≠ [] := by
  by_cases h : u < 10
  · rw [decDigits_small h]; simp
  · rw [decDigits_big h]; simp
theorem decDigits_len (k : Nat) : ∀ u : Nat, u < 10 ^ (k + 1) → (Lib.decDigits u).length ≤ k + 1 := by
  induction k with
  | zero => intro u h; rw [decDigits_small (by simpa using h)]; simp
  | succ k ih =>
    intro u h
    by_cases h1 : u < 10
    · rw [decDigits_small h1]; simp
    · rw [decDigits_big h1, List.length_append, List.length_singleton]
      rw [Nat.pow_succ] at h
      have := ih (u / 10) (by omega)
      omega
theorem decNat_digits (u : Nat) : Lib.decNat (Lib.decDigits u) = some u := by
  unfold Lib.decNat
  rw [if_neg (by simpa using decDigits_ne u), decFrom_digits]
theorem decNat_ne_sign (u : Nat) : ∃ b r, Lib.decDigits u = b :: r ∧ b ≠ 45 ∧ b ≠ 43 := by
  cases h : Lib.decDigits u with
  | nil => exact absurd h (decDigits_ne u)
  | cons b r =>
    have := decDigits_mem u b (by rw [h]; exact List.mem_cons_self)
    refine ⟨b, r, rfl, ?_, ?_⟩ <;> (rintro rfl; simp at this)
/-- WHAT itoa WRITES atoi READS. -/
theorem atoi_itoa (n : Int) : Lib.atoi (Lib.itoa n) = some n := by
  unfold Lib.itoa
  by_cases h : n < 0
  · rw [if_pos h]
    simp only [Lib.atoi, beq_self_eq_true, if_true]
    rw [decNat_digits]
    show some (-((n.natAbs : Nat) : Int)) = some n
    congr 1; omega
  · rw [if_neg h]
    obtain ⟨b, r, e, h1, h2⟩ := decNat_ne_sign n.toNat
    rw [e]
    simp only [Lib.atoi]
    rw [if_neg (by simpa using h1), if_neg (by simpa using h2), ← e, decNat_digits]
    show some ((n.toNat : Nat) : Int) = some n
    congr 1; omega
theorem itoa_mem (n : Int) : ∀ c ∈ Lib.itoa n, c = 45 ∨ (48 ≤ c.toNat ∧ c.toNat ≤ 57) := by
  intro c hc
  unfold Lib.itoa at hc
  split at hc
  · rw [List.mem_cons] at hc
    rcases hc with rfl | hc
    · exact .inl rfl
    · exact .inr (decDigits_mem _ c hc)
  · exact .inr (decDigits_mem _ c hc)
theorem itoa_not (n : Int) (b : UInt8) (h1 : b ≠ 45) (h2 : b.toNat < 48 ∨ 57 < b.toNat) : b ∉ Lib.itoa n := by
  intro h
  rcases itoa_mem n b h with h | h
  · exact h1 h
  · omega
theorem itoa_ne (n : Int) : Lib.itoa n ≠ [] := by
  unfold Lib.itoa
  split
  · simp
  · exact decDigits_ne _
theorem trim_itoa (n : Int) : Lib.trimPrefix (Lib.itoa n) [45] = Lib.decDigits n.natAbs := by
  unfold Lib.itoa Lib.trimPrefix Lib.hasPrefix
  by_cases h : n < 0
  · rw [if_pos h]; simp
  · rw [if_neg h]
    obtain ⟨b, r, e, h1, _⟩ := decNat_ne_sign n.toNat
    have e2 : n.toNat = n.natAbs := by omega
    rw [← e2, e]
    have : ([45] : List UInt8).isPrefixOf (b :: r) = false := by
      show ((45 : UInt8) == b && ([] : List UInt8).isPrefixOf r) = false
      rw [show ((45 : UInt8) == b) = false by simpa using fun e => h1 e.symm]
      rfl
    rw [this]; rfl
theorem itoa_len (n : Int) (k : Nat) (h : n.natAbs < 10 ^ (k + 1)) : (Lib.trimPrefix (Lib.itoa n) [45]).length ≤ k + 1 := by
  rw [trim_itoa]; exact decDigits_len k _ h

/-- two digits -/
def twoL (n : Nat) : List UInt8 := [UInt8.ofNat (48 + n / 10), UInt8.ofNat (48 + n % 10)]
theorem itoa_hundred (n : Nat) (h : n < 100) : Lib.itoa ((100 + n : Nat) : Int) = 49 :: twoL n := by
  unfold Lib.itoa twoL
  rw [if_neg (by omega), Int.toNat_natCast, decDigits_big (by omega), decDigits_big (by omega), decDigits_small (by omega)]
  have e1 : (100 + n) / 10 / 10 = 1 := by omega
  have e2 : (100 + n) / 10 % 10 = n / 10 := by omega
  have e3 : (100 + n) % 10 = n % 10 := by omega
  rw [e1, e2, e3]
  rfl
theorem twoL_mem (n : Nat) (h : n < 100) : ∀ c ∈ twoL n, 48 ≤ c.toNat ∧ c.toNat ≤ 57 := by
  intro c hc
  unfold twoL at hc
  rw [List.mem_cons, List.mem_singleton] at hc
  rcases hc with rfl | rfl
  · rw [digit_byte (by omega)]; omega
  · rw [digit_byte (by omega)]; omega

/-! ### cutting at a byte -/
theorem index_at (b : UInt8) : ∀ (a r : List UInt8), b ∉ a → Lib.index (a ++ b :: r) [b] = a.length
  | [], r, _ => by simp [Lib.index]
  | c :: a, r, h => by
    have hc : b ≠ c := fun e => h (by rw [e]; exact List.mem_cons_self)
    have ih := index_at b a r (fun g => h (List.mem_cons_of_mem _ g))
    show (if ([b] : List UInt8).isPrefixOf (c :: (a ++ b :: r)) then (0 : Int) else if Lib.index (a ++ b :: r) [b] == -1 then -1 else Lib.index (a ++ b :: r) [b] + 1) = _
    rw [if_neg (by simpa using hc), ih, if_neg (by simp)]
    simp
theorem index_none (b : UInt8) : ∀ (s : List UInt8), b ∉ s → Lib.index s [b] = -1
  | [], _ => by simp [Lib.index]
  | c :: s, h => by
    have hc : b ≠ c := fun e => h (by rw [e]; exact List.mem_cons_self)
    have ih := index_none b s (fun g => h (List.mem_cons_of_mem _ g))
    show (if ([b] : List UInt8).isPrefixOf (c :: s) then (0 : Int) else if Lib.index s [b] == -1 then -1 else Lib.index s [b] + 1) = _
    rw [if_neg (by simpa using hc), ih]
    rfl
theorem cut_at (b : UInt8) (a r : List UInt8) (h : b ∉ a) : Lib.cut (a ++ b :: r) [b] = (a, r, true) := by
  unfold Lib.cut
  rw [index_at b a r h, if_pos (by omega)]
  simp
theorem cut_none (b : UInt8) (s : List UInt8) (h : b ∉ s) : Lib.cut s [b] = (s, [], false) := by
  unfold Lib.cut
  rw [index_none b s h, if_neg (by omega)]

end Go.Proofs.Ytfohehldkchnjaa
