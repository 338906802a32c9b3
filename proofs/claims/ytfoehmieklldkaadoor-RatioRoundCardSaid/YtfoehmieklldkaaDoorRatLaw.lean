/- Plain laws of ratios in lowest terms: sums and products, and that a ratio has one spelling in lowest terms. No program in sight. -/
import Derived.WalkKit
namespace Go.Proofs.YtfoehmieklldkaaDoor

def lowQ (n d : Nat) : Nat × Nat := (n / Nat.gcd n d, d / Nat.gcd n d)
def plusQ (a b c d : Nat) : Nat × Nat :=
  ((a * (d / Nat.gcd b d) + c * (b / Nat.gcd b d)) / Nat.gcd (a * (d / Nat.gcd b d) + c * (b / Nat.gcd b d)) (Nat.gcd b d),
   b / Nat.gcd b d * (d / Nat.gcd (a * (d / Nat.gcd b d) + c * (b / Nat.gcd b d)) (Nat.gcd b d)))
def timesQ (a b c d : Nat) : Nat × Nat := ((lowQ a d).1 * (lowQ c b).1, (lowQ a d).2 * (lowQ c b).2)

theorem cop_add_left {a c p q : Nat} (h1 : Nat.Coprime a p) (h2 : Nat.Coprime q p) : Nat.Coprime (a * q + c * p) p := by
  have h : Nat.gcd (a * q + c * p) p = Nat.gcd (a * q) p := by
    rw [Nat.gcd_comm, Nat.gcd_add_mul_right_right, Nat.gcd_comm]
  unfold Nat.Coprime
  rw [h]
  exact Nat.Coprime.mul_left h1 h2
theorem plus_core {a c p q g n' g' h : Nat} (hpq : Nat.Coprime p q) (ha : Nat.Coprime a (g * p)) (hc : Nat.Coprime c (g * q)) (hn : a * q + c * p = h * n') (hh : Nat.Coprime n' g') :
    Nat.Coprime n' (p * (g' * q)) := by
  have h1 : Nat.Coprime (a * q + c * p) p := cop_add_left (Nat.Coprime.coprime_dvd_right (Nat.dvd_mul_left p g) ha) hpq.symm
  have h2 : Nat.Coprime (a * q + c * p) q := by
    rw [Nat.add_comm]
    exact cop_add_left (Nat.Coprime.coprime_dvd_right (Nat.dvd_mul_left q g) hc) hpq
  rw [hn] at h1 h2
  have h3 : Nat.Coprime n' p := Nat.Coprime.coprime_dvd_left (Nat.dvd_mul_left n' h) h1
  have h4 : Nat.Coprime n' q := Nat.Coprime.coprime_dvd_left (Nat.dvd_mul_left n' h) h2
  exact h3.mul_right (hh.mul_right h4)

structure IsQ (x : Nat × Nat) (n d : Nat) : Prop where
  cop : Nat.Coprime x.1 x.2
  pos : 0 < x.2
  val : x.1 * d = n * x.2
theorem IsQ.uniq {x y : Nat × Nat} {n d : Nat} (hx : IsQ x n d) (hy : IsQ y n d) (hd : 0 < d) : x = y := by
  obtain ⟨x1, x2⟩ := x
  obtain ⟨y1, y2⟩ := y
  obtain ⟨c1, p1, v1⟩ := hx
  obtain ⟨c2, p2, v2⟩ := hy
  simp only at c1 p1 v1 c2 p2 v2
  have e : x1 * y2 = y1 * x2 := by
    have : x1 * y2 * d = y1 * x2 * d := by grind
    exact Nat.eq_of_mul_eq_mul_right hd this
  have d1 : x2 ∣ y2 := by
    have : x2 ∣ x1 * y2 := by rw [e]; exact Nat.dvd_mul_left _ _
    exact c1.symm.dvd_of_dvd_mul_left this
  have d2 : y2 ∣ x2 := by
    have : y2 ∣ y1 * x2 := by rw [← e]; exact Nat.dvd_mul_left _ _
    exact c2.symm.dvd_of_dvd_mul_left this
  obtain rfl := Nat.dvd_antisymm d1 d2
  rw [Nat.eq_of_mul_eq_mul_right p1 e]
theorem low_is {n d : Nat} (hd : 0 < d) : IsQ (lowQ n d) n d := by
  have hg : 0 < Nat.gcd n d := Nat.gcd_pos_of_pos_right _ hd
  refine ⟨Nat.coprime_div_gcd_div_gcd hg, Nat.div_pos (Nat.le_of_dvd hd (Nat.gcd_dvd_right _ _)) hg, ?_⟩
  have h1 := Nat.div_mul_cancel (Nat.gcd_dvd_left n d)
  have h2 := Nat.div_mul_cancel (Nat.gcd_dvd_right n d)
  show n / Nat.gcd n d * d = n * (d / Nat.gcd n d)
  generalize n / Nat.gcd n d = x at *
  generalize d / Nat.gcd n d = y at *
  generalize Nat.gcd n d = g at *
  subst h1
  rw [← h2]
  grind
theorem plus_is {a b c d : Nat} (hab : Nat.Coprime a b) (hcd : Nat.Coprime c d) (hb : 0 < b) (hd : 0 < d) : IsQ (plusQ a b c d) (a * d + c * b) (b * d) := by
  have hg : 0 < Nat.gcd b d := Nat.gcd_pos_of_pos_right _ hd
  have hpq := Nat.coprime_div_gcd_div_gcd hg
  have h1 := Nat.div_mul_cancel (Nat.gcd_dvd_left b d)
  have h2 := Nat.div_mul_cancel (Nat.gcd_dvd_right b d)
  unfold plusQ
  generalize b / Nat.gcd b d = p at *
  generalize d / Nat.gcd b d = q at *
  generalize Nat.gcd b d = g at *
  have hh : 0 < Nat.gcd (a * q + c * p) g := Nat.gcd_pos_of_pos_right _ hg
  have h3 := Nat.div_mul_cancel (Nat.gcd_dvd_left (a * q + c * p) g)
  have h4 := Nat.div_mul_cancel (Nat.gcd_dvd_right (a * q + c * p) g)
  have h5 := Nat.coprime_div_gcd_div_gcd hh
  have h6 : d / Nat.gcd (a * q + c * p) g = g / Nat.gcd (a * q + c * p) g * q := by
    rw [← h2]
    generalize hz : Nat.gcd (a * q + c * p) g = h at *
    rw [← h4]
    generalize g / h = g' at *
    rw [Nat.mul_div_cancel _ hh]
    rw [show q * (g' * h) = (g' * q) * h by grind, Nat.mul_div_cancel _ hh]
  rw [h6]
  generalize (a * q + c * p) / Nat.gcd (a * q + c * p) g = n' at *
  generalize g / Nat.gcd (a * q + c * p) g = g' at *
  generalize Nat.gcd (a * q + c * p) g = h at *
  have hp : 0 < p := Nat.pos_of_mul_pos_right (by rw [h1]; exact hb)
  have hq : 0 < q := Nat.pos_of_mul_pos_right (by rw [h2]; exact hd)
  have hg' : 0 < g' := Nat.pos_of_mul_pos_right (by rw [h4]; exact hg)
  refine ⟨plus_core hpq (by rw [Nat.mul_comm, h1]; exact hab) (by rw [Nat.mul_comm, h2]; exact hcd) (by rw [← h3, Nat.mul_comm]) h5, Nat.mul_pos hp (Nat.mul_pos hg' hq), ?_⟩
  show n' * (b * d) = (a * d + c * b) * (p * (g' * q))
  have e : a * d + c * b = (n' * h) * g := by rw [h3, ← h1, ← h2]; grind
  rw [e, ← h1, ← h2]
  have e2 : g = g' * h := h4.symm
  grind
theorem times_is {a b c d : Nat} (hab : Nat.Coprime a b) (hcd : Nat.Coprime c d) (hb : 0 < b) (hd : 0 < d) : IsQ (timesQ a b c d) (a * c) (b * d) := by
  obtain ⟨u1, u2, u3⟩ := low_is (n := a) hd
  obtain ⟨v1, v2, v3⟩ := low_is (n := c) hb
  have x1 : (lowQ a d).1 ∣ a := Nat.div_dvd_of_dvd (Nat.gcd_dvd_left a d)
  have x2 : (lowQ a d).2 ∣ d := Nat.div_dvd_of_dvd (Nat.gcd_dvd_right a d)
  have y1 : (lowQ c b).1 ∣ c := Nat.div_dvd_of_dvd (Nat.gcd_dvd_left c b)
  have y2 : (lowQ c b).2 ∣ b := Nat.div_dvd_of_dvd (Nat.gcd_dvd_right c b)
  have c1 : Nat.Coprime (lowQ a d).1 (lowQ c b).2 := Nat.Coprime.coprime_dvd_right y2 (Nat.Coprime.coprime_dvd_left x1 hab)
  have c2 : Nat.Coprime (lowQ c b).1 (lowQ a d).2 := Nat.Coprime.coprime_dvd_right x2 (Nat.Coprime.coprime_dvd_left y1 hcd)
  refine ⟨Nat.Coprime.mul_left (u1.mul_right c1) (c2.mul_right v1), Nat.mul_pos u2 v2, ?_⟩
  show (lowQ a d).1 * (lowQ c b).1 * (b * d) = a * c * ((lowQ a d).2 * (lowQ c b).2)
  generalize (lowQ a d).1 = p at *
  generalize (lowQ a d).2 = q at *
  generalize (lowQ c b).1 = r at *
  generalize (lowQ c b).2 = s at *
  calc p * r * (b * d) = (p * d) * (r * b) := by grind
    _ = (a * q) * (c * s) := by rw [u3, v3]
    _ = a * c * (q * s) := by grind
/-- sums are those of the other order -/
theorem plus_comm {a b c d : Nat} (hab : Nat.Coprime a b) (hcd : Nat.Coprime c d) (hb : 0 < b) (hd : 0 < d) : plusQ a b c d = plusQ c d a b := by
  have h1 := plus_is hab hcd hb hd
  have h2 := plus_is hcd hab hd hb
  rw [Nat.mul_comm d b, Nat.add_comm (c * b)] at h2
  exact h1.uniq h2 (Nat.mul_pos hb hd)
/-- products of sums are sums of products -/
theorem plus_times {a b c d e f : Nat} (hab : Nat.Coprime a b) (hcd : Nat.Coprime c d) (hef : Nat.Coprime e f) (hb : 0 < b) (hd : 0 < d) (hf : 0 < f) :
    timesQ (plusQ a b c d).1 (plusQ a b c d).2 e f = plusQ (timesQ a b e f).1 (timesQ a b e f).2 (timesQ c d e f).1 (timesQ c d e f).2 := by
  obtain ⟨k1, p1, v1⟩ := plus_is hab hcd hb hd
  obtain ⟨k3, p3, v3⟩ := times_is hab hef hb hf
  obtain ⟨k4, p4, v4⟩ := times_is hcd hef hd hf
  generalize plusQ a b c d = x at *
  generalize timesQ a b e f = y at *
  generalize timesQ c d e f = z at *
  obtain ⟨n1, m1⟩ := x
  obtain ⟨n3, m3⟩ := y
  obtain ⟨n4, m4⟩ := z
  simp only at *
  obtain ⟨k2, p2, v2⟩ := times_is k1 hef p1 hf
  obtain ⟨k5, p5, v5⟩ := plus_is k3 k4 p3 p4
  generalize timesQ n1 m1 e f = s at *
  generalize plusQ n3 m3 n4 m4 = t at *
  obtain ⟨n2, m2⟩ := s
  obtain ⟨n5, m5⟩ := t
  simp only at *
  have hbd : 0 < b * d * f := Nat.mul_pos (Nat.mul_pos hb hd) hf
  refine IsQ.uniq (n := e * (a * d + c * b)) (d := b * d * f) ⟨k2, p2, ?_⟩ ⟨k5, p5, ?_⟩ hbd
  · show n2 * (b * d * f) = e * (a * d + c * b) * m2
    refine Nat.eq_of_mul_eq_mul_right p1 ?_
    calc n2 * (b * d * f) * m1 = (n2 * (m1 * f)) * (b * d) := by grind
      _ = (n1 * e * m2) * (b * d) := by rw [v2]
      _ = (n1 * (b * d)) * (e * m2) := by grind
      _ = ((a * d + c * b) * m1) * (e * m2) := by rw [v1]
      _ = e * (a * d + c * b) * m2 * m1 := by grind
  · show n5 * (b * d * f) = e * (a * d + c * b) * m5
    refine Nat.eq_of_mul_eq_mul_right (Nat.mul_pos (Nat.mul_pos p3 p4) hf) ?_
    calc n5 * (b * d * f) * (m3 * m4 * f) = (n5 * (m3 * m4)) * ((b * f) * (d * f)) := by grind
      _ = ((n3 * m4 + n4 * m3) * m5) * ((b * f) * (d * f)) := by rw [v5]
      _ = ((n3 * (b * f)) * (m4 * (d * f)) + (n4 * (d * f)) * (m3 * (b * f))) * m5 := by grind
      _ = ((a * e * m3) * (m4 * (d * f)) + (c * e * m4) * (m3 * (b * f))) * m5 := by rw [v3, v4]
      _ = e * (a * d + c * b) * m5 * (m3 * m4 * f) := by grind

end Go.Proofs.YtfoehmieklldkaaDoor
