/- Plain laws of nat.by: what its blocks hold from digit to digit. -/
import Derived.Test.YtfoehmieklldkaaDoorLongB
namespace Go.Proofs.YtfoehmieklldkaaDoor
open Go.RowKit

theorem vz_split (l : List Int) (i : Nat) : vz l = vz (l.take i) + 1000000000 ^ (l.take i).length * vz (l.drop i) := by
  have h := vz_append (l.take i) (l.drop i)
  rw [List.take_append_drop] at h
  exact h
theorem top2 (l : List Int) (p : Nat) (h : l.length = p + 2) : vz l = (l[p + 1] * 1000000000 + l[p]) * 1000000000 ^ p + vz (l.take p) := by
  have h1 := vz_take l (p + 1) (by omega)
  rw [List.take_of_length_le (by omega), vz_take l p (by omega), Int.pow_succ] at h1
  rw [h1]
  grind
theorem top3 (l : List Int) (p : Nat) (h : l.length = p + 3) : vz l = ((l[p + 2] * 1000000000 + l[p + 1]) * 1000000000 + l[p]) * 1000000000 ^ p + vz (l.take p) := by
  have h1 := vz_take l (p + 2) (by omega)
  rw [List.take_of_length_le (by omega), vz_take l (p + 1) (by omega), vz_take l p (by omega), Int.pow_succ, Int.pow_succ] at h1
  rw [h1]
  grind
theorem Digs.take {l : List Int} (h : Digs l) (i : Nat) : Digs (l.take i) := fun d hd => h d (List.mem_of_mem_take hd)
theorem Digs.drop {l : List Int} (h : Digs l) (i : Nat) : Digs (l.drop i) := fun d hd => h d (List.mem_of_mem_drop hd)
theorem Digs.append {a b : List Int} (ha : Digs a) (hb : Digs b) : Digs (a ++ b) := fun d hd => (List.mem_append.1 hd).elim (ha d) (hb d)
theorem Digs.zero : Digs [0] := fun d hd => by rw [List.mem_singleton] at hd; subst hd; exact ⟨by omega, by omega⟩
theorem Digs.zeros (n : Nat) : Digs (List.replicate n 0) := fun d hd => by rw [List.mem_replicate] at hd; rw [hd.2]; exact ⟨by omega, by omega⟩
theorem Digs.cons {x : Int} {l : List Int} (hx : Dig x) (h : Digs l) : Digs (x :: l) := fun d hd => by
  rw [List.mem_cons] at hd
  rcases hd with rfl | hd
  · exact hx
  · exact h d hd

/-- what is left, and the digits of the quotient, when j digits are to come -/
structure ByI (R qs : List Int) (D N : Int) (j : Nat) : Prop where
  rd : Digs R
  qd : Digs qs
  eq : vz R + D * (1000000000 ^ j * vz qs) = N
  lt : vz R < D * 1000000000 ^ j
/-- the stretch that is worked on -/
def sgOf (R : List Int) (j n : Nat) : List Int := (R.drop j).take (n + 1)
theorem sg_parts (R : List Int) (j n : Nat) : R = R.take j ++ (sgOf R j n ++ R.drop (j + (n + 1))) := by
  unfold sgOf
  rw [← List.drop_drop, List.take_append_drop, List.take_append_drop]
theorem sg_length {R : List Int} {j n : Nat} (h : j + n + 1 ≤ R.length) : (sgOf R j n).length = n + 1 := by
  unfold sgOf
  rw [List.length_take, List.length_drop]
  omega
theorem sg_get {R : List Int} {j n i : Nat} (h : j + n + 1 ≤ R.length) (hi : i < n + 1) : (sgOf R j n)[i]'(by rw [sg_length h]; exact hi) = R[j + i]'(by omega) := by
  unfold sgOf
  rw [List.getElem_take, List.getElem_drop]
theorem pw_add (a b : Nat) : (1000000000 : Int) ^ (a + b) = 1000000000 ^ a * 1000000000 ^ b := Int.pow_add _ _ _
theorem by_val (R : List Int) (j n : Nat) (h : j + n + 1 ≤ R.length) : vz R = vz (R.take j) + 1000000000 ^ j * (vz (sgOf R j n) + 1000000000 ^ (n + 1) * vz (R.drop (j + (n + 1)))) := by
  have e := sg_parts R j n
  have h1 : vz R = vz (R.take j ++ (sgOf R j n ++ R.drop (j + (n + 1)))) := congrArg vz e
  rw [vz_append, vz_append, sg_length h, List.length_take, Nat.min_eq_left (by omega)] at h1
  exact h1
theorem ByI.top {R qs : List Int} {D N : Int} {j n : Nat} (h : ByI R qs D N (j + 1)) (hl : j + n + 1 ≤ R.length) (hD : D < 1000000000 ^ n) : vz (R.drop (j + (n + 1))) = 0 ∧ vz (sgOf R j n) < 1000000000 * D := by
  have e := by_val R j n hl
  have h1 := vz_lt _ (h.rd.take j)
  have h2 := (vz_lt _ (show Digs (sgOf R j n) from (h.rd.drop j).take (n + 1))).1
  have h3 := (vz_lt _ (h.rd.drop (j + (n + 1)))).1
  have hlt := h.lt
  rw [e, Int.pow_succ] at hlt
  have hp := pw_pos j
  have hpn := pw_pos n
  rw [Int.pow_succ] at hlt
  generalize vz (R.take j) = a at *
  generalize vz (sgOf R j n) = s at *
  generalize vz (R.drop (j + (n + 1))) = t at *
  generalize (1000000000 : Int) ^ j = p at *
  generalize (1000000000 : Int) ^ n = pn at *
  have h4 : p * (s + pn * 1000000000 * t) < p * (D * 1000000000) := by
    have : p * (D * 1000000000) = D * (p * 1000000000) := by grind
    omega
  have h5 : s + pn * 1000000000 * t < D * 1000000000 := Int.lt_of_mul_lt_mul_left h4 (by omega)
  have h6 : t = 0 := by
    by_cases ht : 1 ≤ t
    · exfalso
      have : pn * 1000000000 * 1 ≤ pn * 1000000000 * t := Int.mul_le_mul_of_nonneg_left ht (by omega)
      omega
    · omega
  subst h6
  exact ⟨rfl, by omega⟩
theorem ByI.step {R qs ns : List Int} {D N g : Int} {j n : Nat} (h : ByI R qs D N (j + 1)) (hl : j + n + 1 ≤ R.length) (hD : D < 1000000000 ^ n) (hnl : ns.length = n) (hnd : Digs ns) (hg : Dig g)
    (hv : vz ns = vz (sgOf R j n) - g * D) (hlt : vz ns < D) : ByI (R.take j ++ ((ns ++ [0]) ++ R.drop (j + (n + 1)))) (g :: qs) D N j := by
  obtain ⟨ht, _⟩ := h.top hl hD
  have e := by_val R j n hl
  have h1 := vz_lt _ (h.rd.take j)
  have hjl : (R.take j).length = j := by rw [List.length_take]; omega
  have e2 : vz (R.take j ++ ((ns ++ [0]) ++ R.drop (j + (n + 1)))) = vz (R.take j) + 1000000000 ^ j * vz ns := by
    rw [vz_append, vz_append, ht, hjl, vz_snoc]
    simp
  rw [ht, Int.mul_zero, Int.add_zero] at e
  refine ⟨(h.rd.take j).append ((hnd.append Digs.zero).append (h.rd.drop _)), Digs.cons hg h.qd, ?_, ?_⟩
  · rw [e2, hv, vz]
    have h2 := h.eq
    rw [e, Int.pow_succ] at h2
    generalize (1000000000 : Int) ^ j = p at *
    generalize vz (R.take j) = a at *
    generalize vz (sgOf R j n) = s at *
    generalize vz qs = q at *
    grind
  · rw [e2]
    rw [hjl] at h1
    generalize (1000000000 : Int) ^ j = p at *
    have h3 : p * vz ns ≤ p * (D - 1) := Int.mul_le_mul_of_nonneg_left (by omega) (by omega)
    have h4 : p * (D - 1) = D * p - p := by grind
    omega
theorem ByI.done {R qs : List Int} {D N : Nat} (h : ByI R qs (D : Int) (N : Int) 0) : val qs = N / D ∧ val R = N % D := by
  obtain ⟨rd, qd, e, lt⟩ := h
  rw [vz_val _ rd, vz_val _ qd] at e
  rw [vz_val _ rd] at lt
  have e2 : N = D * val qs + val R := by
    have : ((N : Nat) : Int) = ((D * val qs + val R : Nat) : Int) := by
      rw [← e, Int.natCast_add, Int.natCast_mul]
      simp
      omega
    omega
  have h2 : val R < D := by
    simp at lt
    exact lt
  constructor
  · rw [e2, Nat.mul_add_div (by omega), Nat.div_eq_of_lt h2, Nat.add_zero]
  · rw [e2, Nat.mul_add_mod, Nat.mod_eq_of_lt h2]

/-- the digit of the quotient -/
theorem digit_right {V D g : Int} (hD : 0 < D) (hV : 0 ≤ V) (hq : V / D ≤ g) (hg : g * D < V + D) : (V - g * D < 0 ∧ g - 1 = V / D ∧ 0 ≤ V - (g - 1) * D ∧ V - (g - 1) * D < D) ∨ (0 ≤ V - g * D ∧ g = V / D ∧ V - g * D < D) := by
  have h1 := Int.mul_ediv_add_emod V D
  have h2 := Int.emod_nonneg V (Int.ne_of_gt hD)
  have h3 := Int.emod_lt_of_pos V hD
  have h0 : 0 ≤ V / D := Int.ediv_nonneg hV (by omega)
  generalize V / D = q at *
  generalize V % D = r at *
  obtain ⟨k, rfl⟩ : ∃ k : Int, g = q + k := ⟨g - q, by omega⟩
  have hk : 0 ≤ k := by omega
  have e : (q + k) * D = q * D + k * D := Int.add_mul q k D
  have e3 : D * q = q * D := Int.mul_comm _ _
  have hk2 : k < 2 := by
    by_cases h : 2 ≤ k
    · have : 2 * D ≤ k * D := Int.mul_le_mul_of_nonneg_right h (by omega)
      omega
    · omega
  have : k = 0 ∨ k = 1 := by omega
  rcases this with rfl | rfl
  · right
    rw [Int.add_zero] at *
    omega
  · left
    have e2 : (q + 1 - 1) * D = q * D := by rw [Int.add_sub_cancel]
    rw [e2]
    omega

/-- the factor that the divisor is made great with -/
theorem scale_ok {v1 : Nat} (h0 : 0 < v1) (h1 : v1 < 1000000000) : 0 < 1000000000 / (v1 + 1) ∧ 1000000000 / (v1 + 1) < 1000000000 ∧ (v1 + 1) * (1000000000 / (v1 + 1)) ≤ 1000000000 := by
  refine ⟨Nat.div_pos (by omega) (by omega), ?_, Nat.mul_div_le _ _⟩
  exact Nat.div_lt_self (by omega) (by omega)
theorem scaled_lt {ys : List Int} {v1 s : Nat} (hd : Digs ys) (p : Nat) (hl : ys.length = p + 1) (hv : ys[p] = (v1 : Int)) (hs : (v1 + 1) * s ≤ 1000000000) : val ys * s < bsN ^ (p + 1) ∨ s = 0 := by
  by_cases h0 : s = 0
  · exact .inr h0
  · left
    have h1 : val ys < (v1 + 1) * bsN ^ p := by
      have e : ys = ys.take p ++ [ys[p]] := by
        rw [← List.take_succ_eq_append_getElem (by omega), List.take_of_length_le (by omega)]
      have e2 : val ys = val (ys.take p ++ [ys[p]]) := congrArg val e
      have h2 := val_lt (ys.take p) (hd.take p)
      rw [val_append, List.length_take, Nat.min_eq_left (by omega), hv] at e2
      rw [List.length_take, Nat.min_eq_left (by omega)] at h2
      simp only [val, Nat.mul_zero, Nat.add_zero, Int.toNat_natCast] at e2
      rw [e2, Nat.add_mul, Nat.mul_comm v1]
      omega
    calc val ys * s < (v1 + 1) * bsN ^ p * s := Nat.mul_lt_mul_of_pos_right h1 (by omega)
      _ = (v1 + 1) * s * bsN ^ p := by rw [Nat.mul_right_comm]
      _ ≤ 1000000000 * bsN ^ p := Nat.mul_le_mul_right _ hs
      _ = bsN ^ (p + 1) := by rw [Nat.pow_succ, Nat.mul_comm]; rfl
/-- how many digits a number has -/
theorem len_le {ds : List Int} {k : Nat} (hd : Digs ds) (ht : Trim ds) (h : val ds < bsN ^ k) : ds.length ≤ k := by
  by_cases h0 : ds = []
  · subst h0; simp
  · have h1 := val_ge ds hd ht h0
    by_cases h2 : k < ds.length
    · exfalso
      have : bsN ^ k ≤ bsN ^ (ds.length - 1) := Nat.pow_le_pow_right (by unfold bsN; omega) (by omega)
      omega
    · omega
theorem len_ge {ds : List Int} {k : Nat} (hd : Digs ds) (h : bsN ^ k ≤ val ds) : k < ds.length := by
  have h1 := val_lt ds hd
  by_cases h2 : ds.length ≤ k
  · exfalso
    have : bsN ^ ds.length ≤ bsN ^ k := Nat.pow_le_pow_right (by unfold bsN; omega) h2
    omega
  · omega
theorem NatAt.shrink {w : World} {v : Value} {n K K' : Nat} (h : NatAt w v n K) (hn : n < bsN ^ K') : NatAt w v n K' := by
  obtain ⟨ds, h1, h2, h3, h4, h5⟩ := h
  exact ⟨ds, h1, h2, h3, h4, len_le h2 h3 (by rw [h4]; exact hn)⟩
theorem NatAt.lt {w : World} {v : Value} {n K : Nat} (h : NatAt w v n K) : n < bsN ^ K := by
  obtain ⟨ds, h1, h2, h3, h4, h5⟩ := h
  have := val_lt ds h2
  rw [h4] at this
  exact Nat.lt_of_lt_of_le this (Nat.pow_le_pow_right (by unfold bsN; omega) h5)

theorem by_start {R0 : List Int} {n m s p la lq : Nat} (hd : Digs R0) (hv : val R0 = n * s) (hn : n < bsN ^ la) (hm : bsN ^ (p + 1) ≤ m) (hs : 0 < s) (hlq : lq = la - (p + 2) + 1) (hle : p + 2 ≤ la) :
    ByI R0 [] ((m * s : Nat) : Int) ((n * s : Nat) : Int) lq := by
  refine ⟨hd, fun _ h => (by cases h), ?_, ?_⟩
  · rw [vz_val _ hd, hv]
    simp [vz]
  · rw [vz_val _ hd, hv]
    have h1 : n * s < m * s * bsN ^ lq := by
      calc n * s < bsN ^ la * s := Nat.mul_lt_mul_of_pos_right hn hs
        _ = bsN ^ (p + 1) * s * bsN ^ lq := by
          rw [show la = (p + 1) + lq by omega, Nat.pow_add, Nat.mul_right_comm]
        _ ≤ m * s * bsN ^ lq := Nat.mul_le_mul_right _ (Nat.mul_le_mul_right _ hm)
    have h2 : ((m * s : Nat) : Int) * 1000000000 ^ lq = ((m * s * bsN ^ lq : Nat) : Int) := by
      rw [Int.natCast_mul (m * s) (bsN ^ lq), Int.natCast_pow]
      rfl
    rw [h2]
    omega
/-- what one digit of the quotient is guessed from -/
structure DgF (sg dds : List Int) (V D p x0 x1 x2 d1 d2 : Nat) : Prop where
  s2 : sg[p + 2]? = some (x2 : Int)
  s1 : sg[p + 1]? = some (x1 : Int)
  s0 : sg[p]? = some (x0 : Int)
  e1 : dds[p + 1]? = some (d1 : Int)
  e2 : dds[p]? = some (d2 : Int)
  b2 : x2 < bsN
  b1 : x1 < bsN
  b0 : x0 < bsN
  c1 : d1 < bsN
  c2 : d2 < bsN
  pos : 0 < d1
  qB : V / D < bsN
  q0 : V / D * (d1 * bsN + d2) ≤ (x2 * bsN + x1) * bsN + x0
  near : ∀ g, g ≤ bsN → g * (d1 * bsN + d2) ≤ (x2 * bsN + x1) * bsN + x0 → g * D < V + D
theorem nat_digit {x : Int} (h : Dig x) : ∃ n : Nat, x = n ∧ n < bsN := ⟨x.toNat, by have := h.1; omega, by have := h.1; have := h.2; unfold bsN; omega⟩
theorem digit_facts {sg dds : List Int} {V D p : Nat} (hs : Digs sg) (hd : Digs dds) (ht : Trim dds) (hsl : sg.length = p + 3) (hdl : dds.length = p + 2) (hV : val sg = V) (hD : val dds = D) (hlt : V < bsN * D) :
    ∃ x0 x1 x2 d1 d2, DgF sg dds V D p x0 x1 x2 d1 d2 := by
  obtain ⟨x2, hx2, b2⟩ := nat_digit (hs sg[p + 2] (List.getElem_mem (by omega)))
  obtain ⟨x1, hx1, b1⟩ := nat_digit (hs sg[p + 1] (List.getElem_mem (by omega)))
  obtain ⟨x0, hx0, b0⟩ := nat_digit (hs sg[p] (List.getElem_mem (by omega)))
  obtain ⟨d1, hd1, c1⟩ := nat_digit (hd dds[p + 1] (List.getElem_mem (by omega)))
  obtain ⟨d2, hd2, c2⟩ := nat_digit (hd dds[p] (List.getElem_mem (by omega)))
  have hne : dds ≠ [] := by intro h; rw [h] at hdl; simp at hdl
  have hlast := ht hne
  rw [List.getLast_eq_getElem] at hlast
  have e : dds.length - 1 = p + 1 := by omega
  simp only [e] at hlast
  have hpos : 0 < d1 := by omega
  have hPc : ((bsN ^ p : Nat) : Int) = 1000000000 ^ p := by rw [Int.natCast_pow]; rfl
  have eV : V = ((x2 * bsN + x1) * bsN + x0) * bsN ^ p + val (sg.take p) := by
    have h1 := top3 sg p hsl
    rw [vz_val _ hs, vz_val _ (hs.take p), hV, hx2, hx1, hx0, ← hPc] at h1
    have h2 : ((V : Nat) : Int) = ((((x2 * bsN + x1) * bsN + x0) * bsN ^ p + val (sg.take p) : Nat) : Int) := by
      rw [h1]
      simp only [Int.natCast_add, Int.natCast_mul]
      rfl
    omega
  have eD : D = (d1 * bsN + d2) * bsN ^ p + val (dds.take p) := by
    have h1 := top2 dds p hdl
    rw [vz_val _ hd, vz_val _ (hd.take p), hD, hd1, hd2, ← hPc] at h1
    have h2 : ((D : Nat) : Int) = (((d1 * bsN + d2) * bsN ^ p + val (dds.take p) : Nat) : Int) := by
      rw [h1]
      simp only [Int.natCast_add, Int.natCast_mul]
      rfl
    omega
  have l1 := val_lt _ (hs.take p)
  have l2 := val_lt _ (hd.take p)
  rw [List.length_take, Nat.min_eq_left (by omega)] at l1 l2
  have hD0 : 0 < D := by
    by_cases h : D = 0
    · subst h; omega
    · omega
  refine ⟨x0, x1, x2, d1, d2, by rw [List.getElem?_eq_getElem (by omega), hx2], by rw [List.getElem?_eq_getElem (by omega), hx1], by rw [List.getElem?_eq_getElem (by omega), hx0], by rw [List.getElem?_eq_getElem (by omega), hd1], by rw [List.getElem?_eq_getElem (by omega), hd2],
    b2, b1, b0, c1, c2, hpos, ?_, guess_le eD eV l1 (Nat.div_mul_le_self V D), fun g hg h => guess_near eD l2 eV hpos hg h⟩
  rw [Nat.div_lt_iff_lt_mul hD0]
  exact hlt

end Go.Proofs.YtfoehmieklldkaaDoor
