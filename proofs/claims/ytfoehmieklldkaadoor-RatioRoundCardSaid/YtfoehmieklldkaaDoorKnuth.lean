/- Plain laws of long division of numbers of many digits. -/
import Derived.Test.YtfoehmieklldkaaDoorNat4
namespace Go.Proofs.YtfoehmieklldkaaDoor
/-- one digit of a quotient: the guess by the two highest digits of the divisor is never too small -/
theorem guess_le {D R P d1 d2 hi r0 dl rl q : Nat} (hD : D = (d1 * bsN + d2) * P + dl) (hR : R = (hi * bsN + r0) * P + rl) (hrl : rl < P) (hq : q * D ≤ R) : q * (d1 * bsN + d2) ≤ hi * bsN + r0 := by
  have e : q * ((d1 * bsN + d2) * P + dl) = q * (d1 * bsN + d2) * P + q * dl := by rw [Nat.mul_add, Nat.mul_assoc]
  have h1 : q * (d1 * bsN + d2) * P < (hi * bsN + r0 + 1) * P := by
    calc q * (d1 * bsN + d2) * P ≤ q * D := by rw [hD, e]; omega
      _ ≤ R := hq
      _ < (hi * bsN + r0 + 1) * P := by rw [hR, Nat.add_mul (hi * bsN + r0) 1 P]; omega
  have h2 := Nat.lt_of_mul_lt_mul_right h1
  omega
theorem guess_first {d1 d2 hi r0 q : Nat} (h1 : 0 < d1) (hr0 : r0 < bsN) (h : q * (d1 * bsN + d2) ≤ hi * bsN + r0) : q ≤ hi / d1 := by
  rw [Nat.le_div_iff_mul_le h1]
  have h2 : q * d1 * bsN ≤ hi * bsN + r0 := by
    calc q * d1 * bsN ≤ q * (d1 * bsN + d2) := by rw [Nat.mul_add, Nat.mul_assoc]; omega
      _ ≤ _ := h
  have h3 : q * d1 * bsN < (hi + 1) * bsN := by rw [Nat.add_mul]; omega
  have := Nat.lt_of_mul_lt_mul_right h3
  omega
/-- the guess is one too great at most -/
theorem guess_near {D R P d1 d2 hi r0 dl rl g : Nat} (hD : D = (d1 * bsN + d2) * P + dl) (hdl : dl < P) (hR : R = (hi * bsN + r0) * P + rl) (h1 : 0 < d1) (hgB : g ≤ bsN) (hg : g * (d1 * bsN + d2) ≤ hi * bsN + r0) : g * D < R + D := by
  have hP : 0 < P := by omega
  have h2 : bsN * P ≤ D := by
    rw [hD]
    have : bsN * P ≤ (d1 * bsN + d2) * P := Nat.mul_le_mul_right _ (by
      have : bsN ≤ d1 * bsN := Nat.le_mul_of_pos_left _ h1
      omega)
    omega
  have h3 : g * (d1 * bsN + d2) * P ≤ (hi * bsN + r0) * P := Nat.mul_le_mul_right _ hg
  have hB : 0 < bsN * P := Nat.mul_pos (by unfold bsN; omega) hP
  by_cases h0 : g = 0
  · subst h0; omega
  · have h4 : g * dl < g * P := Nat.mul_lt_mul_of_pos_left hdl (by omega)
    have h5 : g * P ≤ bsN * P := Nat.mul_le_mul_right _ hgB
    have h6 : g * D = g * (d1 * bsN + d2) * P + g * dl := by rw [hD, Nat.mul_add, Nat.mul_assoc]
    omega
structure GInv (hi d1 q g left : Nat) : Prop where
  eq : g * d1 + left = hi
  le : q ≤ g
theorem GInv.step {hi d1 d2 r0 q g left : Nat} (h : GInv hi d1 q g left) (hqB : q < bsN) (hq : q * (d1 * bsN + d2) ≤ hi * bsN + r0) (hc : bsN ≤ g ∨ left * bsN + r0 < g * d2) : 0 < g ∧ GInv hi d1 q (g - 1) (left + d1) := by
  obtain ⟨he, hle⟩ := h
  have hne : q ≠ g := by
    rintro rfl
    rcases hc with hc | hc
    · omega
    · have : q * (d1 * bsN + d2) = q * d1 * bsN + q * d2 := by rw [Nat.mul_add, Nat.mul_assoc]
      have h2 : hi * bsN = q * d1 * bsN + left * bsN := by rw [← he, Nat.add_mul]
      omega
  have hpos : 0 < g := by omega
  refine ⟨hpos, ?_, by omega⟩
  obtain ⟨k, rfl⟩ : ∃ k, g = k + 1 := ⟨g - 1, by omega⟩
  rw [Nat.add_mul] at he
  simp only [Nat.add_sub_cancel]
  omega
theorem GInv.exit {hi d1 d2 r0 q g left : Nat} (h : GInv hi d1 q g left) (hg : g < bsN) (hd2 : d2 < bsN) (hc : bsN ≤ left ∨ g * d2 ≤ left * bsN + r0) : g * (d1 * bsN + d2) ≤ hi * bsN + r0 := by
  obtain ⟨he, _⟩ := h
  have h1 : g * (d1 * bsN + d2) = g * d1 * bsN + g * d2 := by rw [Nat.mul_add, Nat.mul_assoc]
  have h2 : hi * bsN = g * d1 * bsN + left * bsN := by rw [← he, Nat.add_mul]
  rcases hc with hc | hc
  · have h3 : g * d2 ≤ bsN * bsN := Nat.mul_le_mul (by omega) (by omega)
    have h4 : bsN * bsN ≤ left * bsN := Nat.mul_le_mul_right _ hc
    omega
  · omega

/-- the value of digits, of which one may be below 0 -/
def vz : List Int → Int
  | [] => 0
  | d :: r => d + 1000000000 * vz r
theorem vz_append : ∀ (a b : List Int), vz (a ++ b) = vz a + 1000000000 ^ a.length * vz b
  | [], b => by simp [vz]
  | d :: a, b => by
    rw [List.cons_append, vz, vz, vz_append a b, List.length_cons, Int.pow_succ]
    grind
theorem vz_val : ∀ (ds : List Int), Digs ds → vz ds = (val ds : Int)
  | [], _ => rfl
  | d :: r, h => by
    have h1 := (h d List.mem_cons_self).1
    rw [vz, val, vz_val r (fun x hx => h x (List.mem_cons_of_mem _ hx))]
    unfold bsN
    omega
theorem vz_snoc (a : List Int) (x : Int) : vz (a ++ [x]) = vz a + 1000000000 ^ a.length * x := by rw [vz_append]; simp [vz]
theorem pw_pos (n : Nat) : (0 : Int) < 1000000000 ^ n := Int.pow_pos (by omega)
theorem vz_take (l : List Int) (i : Nat) (h : i < l.length) : vz (l.take (i + 1)) = vz (l.take i) + 1000000000 ^ i * l[i] := by
  rw [List.take_succ_eq_append_getElem h, vz_snoc, List.length_take, Nat.min_eq_left (by omega)]
theorem vz_lt : ∀ (ds : List Int), Digs ds → 0 ≤ vz ds ∧ vz ds < 1000000000 ^ ds.length
  | [], _ => by simp [vz]
  | d :: r, h => by
    obtain ⟨h1, h2⟩ := h d List.mem_cons_self
    obtain ⟨h3, h4⟩ := vz_lt r (fun x hx => h x (List.mem_cons_of_mem _ hx))
    rw [vz, List.length_cons, Int.pow_succ]
    omega
theorem vz_zeros (n : Nat) : vz (List.replicate n 0) = 0 := by
  induction n with
  | zero => rfl
  | succ n ih => rw [List.replicate_succ, vz, ih]; rfl

/-- 'takeAway' when i digits are over -/
structure TkInv (rs ds : List Int) (t : Int) (ns : List Int) (i : Nat) (c : Int) : Prop where
  len : ns.length = i
  digs : Digs ns
  c0 : 0 ≤ c
  c1 : c ≤ 1000000000
  eq : vz ns + t * vz (ds.take i) = vz (rs.take i) + c * 1000000000 ^ i
theorem TkInv.start (rs ds : List Int) (t : Int) : TkInv rs ds t [] 0 0 := ⟨rfl, (fun _ h => by cases h), by omega, by omega, by simp [vz]⟩
theorem TkInv.step {rs ds : List Int} {t : Int} {ns : List Int} {i : Nat} {c x c' : Int} (h : TkInv rs ds t ns i c) (hr : i < rs.length) (hd : i < ds.length) (hx : 0 ≤ x ∧ x < 1000000000) (hc0 : 0 ≤ c') (hc1 : c' ≤ 1000000000) (he : x + ds[i] * t = rs[i] - c + c' * 1000000000) :
    TkInv rs ds t (ns ++ [x]) (i + 1) c' := by
  refine ⟨by rw [List.length_append, h.len]; rfl, ?_, hc0, hc1, ?_⟩
  · intro d hd'
    rcases List.mem_append.1 hd' with h1 | h1
    · exact h.digs d h1
    · rw [List.mem_singleton] at h1
      subst h1
      exact hx
  · rw [vz_snoc, h.len, vz_take ds i hd, vz_take rs i hr, Int.pow_succ]
    have e := h.eq
    generalize vz ns = a at *
    generalize vz (ds.take i) = b at *
    generalize vz (rs.take i) = f at *
    generalize (1000000000 : Int) ^ i = p at *
    generalize ds[i] = u at *
    generalize rs[i] = v at *
    grind
/-- the digit that takeAway lays, and what it borrows -/
theorem tk_digit {r d t c : Int} (hr : 0 ≤ r ∧ r < 1000000000) (hd : 0 ≤ d ∧ d < 1000000000) (ht : 0 ≤ t ∧ t < 1000000000) (hc0 : 0 ≤ c) (hc1 : c ≤ 1000000000) :
    -2000000000 < r - d * t % 1000000000 - c ∧ r - d * t % 1000000000 - c < 1000000000 ∧ 0 ≤ d * t / 1000000000 ∧ d * t / 1000000000 ≤ 999999998 := by
  have h1 : 0 ≤ d * t := Int.mul_nonneg hd.1 ht.1
  have h2 : d * t ≤ 999999999 * 999999999 := Int.mul_le_mul (by omega) (by omega) ht.1 (by omega)
  generalize d * t = m at *
  omega
theorem tk_eq0 {r d t c : Int} : (r - d * t % 1000000000 - c) + d * t = r - c + (d * t / 1000000000) * 1000000000 := by
  generalize d * t = m
  omega

/-- 'putBack' when i digits are over -/
structure PbInv (rs ds : List Int) (ns : List Int) (i : Nat) (c : Int) : Prop where
  len : ns.length = i
  digs : Digs ns
  c0 : 0 ≤ c
  c1 : c ≤ 1
  eq : vz ns + c * 1000000000 ^ i = vz (rs.take i) + vz (ds.take i)
theorem PbInv.start (rs ds : List Int) : PbInv rs ds [] 0 0 := ⟨rfl, (fun _ h => by cases h), by omega, by omega, by simp [vz]⟩
theorem PbInv.step {rs ds : List Int} {ns : List Int} {i : Nat} {c : Int} (h : PbInv rs ds ns i c) (hr : i < rs.length) (hd : i < ds.length) (hrd : 0 ≤ rs[i] ∧ rs[i] < 1000000000) (hdd : 0 ≤ ds[i] ∧ ds[i] < 1000000000) :
    PbInv rs ds (ns ++ [(rs[i] + ds[i] + c) % 1000000000]) (i + 1) ((rs[i] + ds[i] + c) / 1000000000) := by
  obtain ⟨hl, hdg, c0, c1, e⟩ := h
  refine ⟨by rw [List.length_append, hl]; rfl, ?_, by omega, by omega, ?_⟩
  · intro d hd'
    rcases List.mem_append.1 hd' with h1 | h1
    · exact hdg d h1
    · rw [List.mem_singleton] at h1
      subst h1
      unfold Dig
      omega
  · rw [vz_snoc, hl, vz_take ds i hd, vz_take rs i hr, Int.pow_succ]
    have e2 : (rs[i] + ds[i] + c) % 1000000000 + 1000000000 * ((rs[i] + ds[i] + c) / 1000000000) = rs[i] + ds[i] + c := by omega
    generalize (rs[i] + ds[i] + c) % 1000000000 = x at *
    generalize (rs[i] + ds[i] + c) / 1000000000 = y at *
    generalize vz ns = a at *
    generalize vz (ds.take i) = b at *
    generalize vz (rs.take i) = f at *
    generalize (1000000000 : Int) ^ i = p at *
    generalize ds[i] = u at *
    generalize rs[i] = v at *
    grind
/-- the highest digit behind it all -/
theorem top_zero {p a t v : Int} (hp : 0 < p) (ha0 : 0 ≤ a) (ha : a < p) (he : a + p * t = v) (hv0 : 0 ≤ v) (hv : v < p) : t = 0 := by
  rcases Int.lt_trichotomy t 0 with h | h | h
  · have : p * t ≤ p * (-1) := Int.mul_le_mul_of_nonneg_left (by omega) (by omega)
    omega
  · exact h
  · have : p * 1 ≤ p * t := Int.mul_le_mul_of_nonneg_left (by omega) (by omega)
    omega
theorem top_neg {p a t v : Int} (hp : 0 < p) (ha0 : 0 ≤ a) (ha : a < p) (he : a + p * t = v) : t < 0 ↔ v < 0 := by
  constructor
  · intro h
    have : p * t ≤ p * (-1) := Int.mul_le_mul_of_nonneg_left (by omega) (by omega)
    omega
  · intro h
    by_cases h2 : 0 ≤ t
    · have : 0 ≤ p * t := Int.mul_nonneg (by omega) h2
      omega
    · omega

/-- 'part' when the digits from i on are over -/
structure PtInv (xs : List Int) (m : Int) (os : List Int) (i : Nat) (rest : Int) : Prop where
  len : os.length + i = xs.length
  digs : Digs os
  r0 : 0 ≤ rest
  r1 : rest < m
  eq : vz (xs.drop i) = m * vz os + rest
theorem PtInv.start (xs : List Int) {m : Int} (hm : 0 < m) : PtInv xs m [] xs.length 0 := ⟨by simp, (fun _ h => by cases h), by omega, hm, by simp [vz]⟩
theorem PtInv.step {xs : List Int} {m : Int} {os : List Int} {i : Nat} {rest : Int} (h : PtInv xs m os (i + 1) rest) (hm : 0 < m) (hi : i < xs.length) (hd : 0 ≤ xs[i] ∧ xs[i] < 1000000000) :
    PtInv xs m ((rest * 1000000000 + xs[i]) / m :: os) i ((rest * 1000000000 + xs[i]) % m) := by
  obtain ⟨hl, hdg, r0, r1, e⟩ := h
  have h1 : 0 ≤ rest * 1000000000 + xs[i] := by omega
  have h2 := Int.emod_nonneg (rest * 1000000000 + xs[i]) (Int.ne_of_gt hm)
  have h3 := Int.emod_lt_of_pos (rest * 1000000000 + xs[i]) hm
  have h4 := Int.mul_ediv_add_emod (rest * 1000000000 + xs[i]) m
  refine ⟨by rw [List.length_cons]; omega, ?_, h2, h3, ?_⟩
  · intro d hd'
    rw [List.mem_cons] at hd'
    rcases hd' with rfl | hd'
    · refine ⟨Int.ediv_nonneg h1 (by omega), ?_⟩
      refine Int.ediv_lt_of_lt_mul hm ?_
      have : rest * 1000000000 + xs[i] < (rest + 1) * 1000000000 := by omega
      have h5 : (rest + 1) * 1000000000 ≤ m * 1000000000 := Int.mul_le_mul_of_nonneg_right (by omega) (by omega)
      rw [Int.mul_comm 1000000000 m]
      omega
    · exact hdg d hd'
  · rw [List.drop_eq_getElem_cons hi, vz, e, vz]
    generalize (rest * 1000000000 + xs[i]) / m = x at *
    generalize (rest * 1000000000 + xs[i]) % m = y at *
    generalize xs[i] = v at *
    generalize vz os = o at *
    grind

end Go.Proofs.YtfoehmieklldkaaDoor
