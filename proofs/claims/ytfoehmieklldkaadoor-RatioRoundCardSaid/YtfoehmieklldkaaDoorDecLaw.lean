/- Plain laws of decimal numerals of any length: what they are worth, cut into nines of digits, and written again. No program in sight. -/
import Derived.Test.YtfoehmieklldkaaDoorNum
import Derived.Test.YtfoehmieklldkaaDoorNat2
namespace Go.Proofs.YtfoehmieklldkaaDoor

def digN (c : UInt8) : Nat := c.toNat - 48
def decV (l : List UInt8) : Nat := l.foldl (fun n c => n * 10 + digN c) 0
def isDig (c : UInt8) : Prop := 48 ≤ c.toNat ∧ c.toNat ≤ 57
theorem decV_from : ∀ (l : List UInt8) (a : Nat), l.foldl (fun n c => n * 10 + digN c) a = a * 10 ^ l.length + decV l
  | [], a => by simp [decV]
  | c :: l, a => by
    unfold decV
    rw [List.foldl_cons, List.foldl_cons, decV_from l, decV_from l (0 * 10 + digN c), List.length_cons, Nat.pow_succ]
    grind
theorem decV_append (a b : List UInt8) : decV (a ++ b) = decV a * 10 ^ b.length + decV b := by
  unfold decV
  rw [List.foldl_append, decV_from]
  rfl
theorem decV_snoc (a : List UInt8) (c : UInt8) : decV (a ++ [c]) = decV a * 10 + digN c := by rw [decV_append]; simp [decV]
theorem decV_lt (l : List UInt8) : (∀ c ∈ l, isDig c) → decV l < 10 ^ l.length := by
  refine revInd (p := fun l => (∀ c ∈ l, isDig c) → decV l < 10 ^ l.length) ?_ ?_ l
  · intro _; simp [decV]
  · intro l c ih h
    have h1 := ih (fun d hd => h d (List.mem_append_left _ hd))
    have h2 := h c (by simp)
    rw [decV_snoc, List.length_append, List.length_singleton, Nat.pow_succ]
    unfold digN isDig at *
    omega
theorem digitVal_dig {c : UInt8} (h : isDig c) : Lib.digitVal c = some (digN c) := by
  unfold isDig at h
  unfold Lib.digitVal digN
  rw [if_pos h]
theorem decFrom_dec : ∀ (l : List UInt8) (a : Nat), (∀ c ∈ l, isDig c) → Lib.decFrom a l = some (l.foldl (fun n c => n * 10 + digN c) a)
  | [], a, _ => rfl
  | c :: l, a, h => by
    simp only [Lib.decFrom, digitVal_dig (h c List.mem_cons_self), List.foldl_cons]
    exact decFrom_dec l _ (fun d hd => h d (List.mem_cons_of_mem _ hd))
/-- what strconv.Atoi reads of digits -/
theorem atoi_dec {l : List UInt8} (h : ∀ c ∈ l, isDig c) (h0 : l ≠ []) : Lib.atoi l = some ((decV l : Nat) : Int) := by
  cases l with
  | nil => exact absurd rfl h0
  | cons b r =>
    have hb := h b List.mem_cons_self
    unfold isDig at hb
    have n1 : (b == 45) = false := by
      rw [beq_eq_false_iff_ne]; rintro rfl; simp at hb
    have n2 : (b == 43) = false := by
      rw [beq_eq_false_iff_ne]; rintro rfl; simp at hb
    simp only [Lib.atoi, n1, n2]
    unfold Lib.decNat
    rw [if_neg (by simp), decFrom_dec _ _ h]
    rfl
theorem decV_digits (u : Nat) : decV (Lib.decDigits u) = u := by
  have h1 := decFrom_digits u
  rw [decFrom_dec _ _ (fun c hc => decDigits_mem u c hc)] at h1
  exact Option.some.inj h1
theorem digit_of {c : UInt8} (h : isDig c) : UInt8.ofNat (48 + digN c) = c := by
  unfold digN isDig at *
  apply UInt8.toNat_inj.1
  rw [UInt8.toNat_ofNat']
  omega
/-- a numeral without a 0 ahead is the numeral of its number -/
theorem digits_decV (l : List UInt8) : (∀ c ∈ l, isDig c) → l ≠ [] → (l.head? = some 48 → l.length = 1) → Lib.decDigits (decV l) = l := by
  refine revInd (p := fun l => (∀ c ∈ l, isDig c) → l ≠ [] → (l.head? = some 48 → l.length = 1) → Lib.decDigits (decV l) = l) ?_ ?_ l
  · intro _ h; exact absurd rfl h
  · intro l c ih h _ hz
    have hc := h c (by simp)
    have hd9 : digN c < 10 := by unfold digN isDig at *; omega
    rw [decV_snoc]
    by_cases h0 : l = []
    · subst h0
      show Lib.decDigits (0 * 10 + digN c) = [c]
      rw [Nat.zero_mul, Nat.zero_add, decDigits_small hd9, digit_of hc]
    · have hl := ih (fun d hd => h d (List.mem_append_left _ hd)) h0 (fun hh => by
        have h2 := hz (by rw [List.head?_append, hh]; rfl)
        rw [List.length_append, List.length_singleton] at h2
        have := List.length_pos_iff.2 h0
        omega)
      have hpos : 0 < decV l := by
        by_cases hv : decV l = 0
        · exfalso
          rw [hv] at hl
          have e : Lib.decDigits 0 = [48] := by rw [decDigits_small (by omega)]; rfl
          rw [e] at hl
          have h2 := hz (by rw [← hl]; rfl)
          rw [← hl] at h2
          simp at h2
        · omega
      rw [decDigits_big (by omega)]
      have e1 : (decV l * 10 + digN c) / 10 = decV l := by omega
      have e2 : (decV l * 10 + digN c) % 10 = digN c := by omega
      rw [e1, e2, hl, digit_of hc]
theorem decDigits_head (u : Nat) (h : (Lib.decDigits u).head? = some 48) : (Lib.decDigits u).length = 1 := by
  induction u using Nat.strongRecOn with
  | _ u ih =>
    by_cases h1 : u < 10
    · rw [decDigits_small h1]; rfl
    · exfalso
      rw [decDigits_big h1, List.head?_append] at h
      cases hh : (Lib.decDigits (u / 10)).head? with
      | none => rw [List.head?_eq_none_iff] at hh; exact decDigits_ne _ hh
      | some x =>
        rw [hh] at h
        simp only [Option.some_or, Option.some.injEq] at h
        subst h
        have h2 := ih (u / 10) (by omega) hh
        have h3 := decV_digits (u / 10)
        cases hl : Lib.decDigits (u / 10) with
        | nil => exact decDigits_ne _ hl
        | cons y r =>
          rw [hl] at h2 hh h3
          have : r = [] := by simpa using h2
          subst this
          simp at hh
          subst hh
          simp [decV, digN] at h3
          omega

/-- nine digits, with zeros ahead -/
def padL : Nat → Nat → List UInt8
  | 0, _ => []
  | k + 1, n => padL k (n / 10) ++ [UInt8.ofNat (48 + n % 10)]
theorem padL_length (k n : Nat) : (padL k n).length = k := by
  induction k generalizing n with
  | zero => rfl
  | succ k ih => rw [padL, List.length_append, ih]; rfl
theorem digits_pad (k : Nat) : ∀ u n, 0 < u → n < 10 ^ k → Lib.decDigits (u * 10 ^ k + n) = Lib.decDigits u ++ padL k n := by
  induction k with
  | zero => intro u n hu hn; simp at hn; subst hn; simp [padL]
  | succ k ih =>
    intro u n hu hn
    rw [Nat.pow_succ] at hn
    have h10 : ¬ u * 10 ^ (k + 1) + n < 10 := by
      have : 1 * 10 ^ (k + 1) ≤ u * 10 ^ (k + 1) := Nat.mul_le_mul_right _ hu
      have : 0 < 10 ^ k := Nat.pow_pos (by decide)
      rw [Nat.pow_succ] at *
      omega
    rw [decDigits_big h10, padL]
    have e0 : u * 10 ^ (k + 1) = u * 10 ^ k * 10 := by rw [Nat.pow_succ, Nat.mul_assoc]
    have e1 : (u * 10 ^ (k + 1) + n) / 10 = u * 10 ^ k + n / 10 := by rw [e0]; omega
    have e2 : (u * 10 ^ (k + 1) + n) % 10 = n % 10 := by rw [e0]; omega
    rw [e1, e2, ih u (n / 10) hu (by omega), List.append_assoc]
/-- strconv.Itoa(base + d) behind its first digit -/
theorem itoa_base {d : Nat} (h : d < 1000000000) : Lib.itoa ((1000000000 + d : Nat) : Int) = 49 :: padL 9 d := by
  unfold Lib.itoa
  rw [if_neg (by omega), Int.toNat_natCast]
  have h1 := digits_pad 9 1 d (by omega) (by simpa using h)
  have e : 1 * 10 ^ 9 + d = 1000000000 + d := by simp
  rw [e] at h1
  rw [h1, decDigits_small (by omega)]
  rfl

end Go.Proofs.YtfoehmieklldkaaDoor
