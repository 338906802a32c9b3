/- Plain laws of staffing: no program in sight. More calls or a stricter promise: what keeps the promise then keeps it now. -/
import Derived.WalkKit
namespace Go.Proofs.YtfoehmieklldkaaDoor

/-- the blocked share of P / Q at k people, as the code builds it -/
def blk (P Q : Nat) : Nat → Nat × Nat
  | 0 => (1, 1)
  | k + 1 => ((blk P Q k).1 * P, (blk P Q k).2 * ((k + 1) * Q) + (blk P Q k).1 * P)

theorem blk_pos (P Q : Nat) (hP : 0 < P) (hQ : 0 < Q) : ∀ k, 0 < (blk P Q k).1 ∧ (blk P Q k).1 ≤ (blk P Q k).2
  | 0 => by simp [blk]
  | k + 1 => by
    obtain ⟨h1, h2⟩ := blk_pos P Q hP hQ k
    simp only [blk]
    exact ⟨Nat.mul_pos h1 hP, Nat.le_add_left _ _⟩

theorem blk_mono (P1 P2 Q : Nat) (h : P1 ≤ P2) : ∀ k, (blk P1 Q k).1 * (blk P2 Q k).2 ≤ (blk P2 Q k).1 * (blk P1 Q k).2
  | 0 => by simp [blk]
  | k + 1 => by
    have ih := blk_mono P1 P2 Q h k
    simp only [blk]
    generalize (blk P1 Q k).1 = u1 at *
    generalize (blk P1 Q k).2 = d1 at *
    generalize (blk P2 Q k).1 = u2 at *
    generalize (blk P2 Q k).2 = d2 at *
    generalize (k + 1) * Q = K
    have h1 : u1 * P1 * (d2 * K) ≤ u2 * P2 * (d1 * K) := by
      calc u1 * P1 * (d2 * K) = (u1 * d2) * (P1 * K) := by simp [Nat.mul_comm, Nat.mul_left_comm, Nat.mul_assoc]
        _ ≤ (u2 * d1) * (P2 * K) := Nat.mul_le_mul ih (Nat.mul_le_mul_right _ h)
        _ = u2 * P2 * (d1 * K) := by simp [Nat.mul_comm, Nat.mul_left_comm, Nat.mul_assoc]
    rw [Nat.mul_add, Nat.mul_add]
    have h2 : u1 * P1 * (u2 * P2) = u2 * P2 * (u1 * P1) := Nat.mul_comm _ _
    omega

/-- a load: calls, length, span; a promise: share, of, wait, parts -/
structure Ld where
  C : Nat
  L : Nat
  S : Nat
structure Pr where
  share : Nat
  of : Nat
  wait : Nat
  parts : Nat

def waitsN (l : Ld) (n : Nat) : Nat × Nat :=
  if l.C = 0 then (0, 1) else if l.C * l.L < n * l.S then
    ((blk (l.C * l.L) l.S n).1 * (n * l.S), (blk (l.C * l.L) l.S n).2 * (n * l.S - l.C * l.L) + (blk (l.C * l.L) l.S n).1 * (l.C * l.L)) else (1, 1)
def meanN (l : Ld) (n : Nat) : Option (Nat × Nat) :=
  if l.C = 0 then some (0, 1) else if l.C * l.L < n * l.S then some ((waitsN l n).1 * (l.L * l.S), (waitsN l n).2 * (n * l.S - l.C * l.L)) else none
def keepsN (l : Ld) (p : Pr) (n : Nat) : Bool :=
  match meanN l n with
  | none => false
  | some m => decide ((waitsN l n).1 * p.of ≤ p.share * (waitsN l n).2) && decide (m.1 * p.parts ≤ p.wait * m.2)

theorem waits_mono {N P1 P2 u1 d1 u2 d2 : Nat} (hP : P1 ≤ P2) (hN : P2 < N) (hb : u1 * d2 ≤ u2 * d1) (h1 : u1 ≤ d1) :
    (u1 * N) * (d2 * (N - P2) + u2 * P2) ≤ (u2 * N) * (d1 * (N - P1) + u1 * P1) := by
  obtain ⟨a, rfl⟩ : ∃ a, P2 = P1 + a := ⟨P2 - P1, by omega⟩
  obtain ⟨b, rfl⟩ : ∃ b, N = P1 + a + b := ⟨N - (P1 + a), by omega⟩
  have e1 : P1 + a + b - (P1 + a) = b := by omega
  have e2 : P1 + a + b - P1 = a + b := by omega
  rw [e1, e2]
  generalize P1 + a + b = M
  have k1 : u1 * (d2 * b + u2 * (P1 + a)) ≤ u2 * (d1 * (a + b) + u1 * P1) := by
    have g1 : u1 * (d2 * b) ≤ u2 * (d1 * b) := by
      rw [← Nat.mul_assoc, ← Nat.mul_assoc]; exact Nat.mul_le_mul_right _ hb
    have g2 : u1 * (u2 * a) ≤ u2 * (d1 * a) := by
      rw [← Nat.mul_assoc, ← Nat.mul_assoc, Nat.mul_comm u1 u2]; exact Nat.mul_le_mul_right _ (Nat.mul_le_mul_left _ h1)
    have g3 : u1 * (u2 * P1) = u2 * (u1 * P1) := Nat.mul_left_comm _ _ _
    have x1 : u1 * (d2 * b + u2 * (P1 + a)) = u1 * (d2 * b) + (u1 * (u2 * P1) + u1 * (u2 * a)) := by rw [Nat.mul_add, Nat.mul_add u2, Nat.mul_add]
    have x2 : u2 * (d1 * (a + b) + u1 * P1) = u2 * (d1 * a) + u2 * (d1 * b) + u2 * (u1 * P1) := by rw [Nat.mul_add, Nat.mul_add d1, Nat.mul_add]
    omega
  calc (u1 * M) * (d2 * b + u2 * (P1 + a)) = M * (u1 * (d2 * b + u2 * (P1 + a))) := by rw [Nat.mul_comm u1 M, Nat.mul_assoc]
    _ ≤ M * (u2 * (d1 * (a + b) + u1 * P1)) := Nat.mul_le_mul_left _ k1
    _ = (u2 * M) * (d1 * (a + b) + u1 * P1) := by rw [Nat.mul_comm u2 M, Nat.mul_assoc]

/-- MORE CALLS, OR A STRICTER PROMISE: what keeps it then, keeps it now. -/
theorem keeps_mono (l1 l2 : Ld) (p1 p2 : Pr) (n : Nat) (hL : l1.L = l2.L) (hS : l1.S = l2.S) (hC : l1.C ≤ l2.C) (hl : 0 < l1.L) (hs : 0 < l1.S)
    (ho : p1.of = p2.of) (hw : p1.wait = p2.wait) (hp : p1.parts = p2.parts) (hsh : p2.share ≤ p1.share) (h : keepsN l2 p2 n = true) : keepsN l1 p1 n = true := by
  by_cases hc : l1.C = 0
  · simp [keepsN, meanN, waitsN, hc]
  · have hc2 : l2.C ≠ 0 := by omega
    obtain ⟨C1, L, S⟩ := l1
    obtain ⟨C2, L2, S2⟩ := l2
    obtain ⟨sh1, of1, wt1, pt1⟩ := p1
    obtain ⟨sh2, of2, wt2, pt2⟩ := p2
    simp only at hL hS hC hl hs ho hw hp hsh hc hc2
    subst hL hS ho hw hp
    have hP : C1 * L ≤ C2 * L := Nat.mul_le_mul_right _ hC
    by_cases hN : C2 * L < n * S
    · have hN1 : C1 * L < n * S := Nat.lt_of_le_of_lt hP hN
      simp only [keepsN, meanN, waitsN, hc, hc2, hN, hN1, if_true, if_false, Bool.and_eq_true, decide_eq_true_eq] at h ⊢
      have hP1 : 0 < C1 * L := Nat.mul_pos (by omega) hl
      obtain ⟨a1, a2⟩ := blk_pos (C1 * L) S hP1 hs n
      obtain ⟨b1, b2⟩ := blk_pos (C2 * L) S (by omega) hs n
      have hm := blk_mono (C1 * L) (C2 * L) S hP n
      have key := waits_mono hP hN hm a2
      generalize (blk (C1 * L) S n).1 = u1 at *
      generalize (blk (C1 * L) S n).2 = d1 at *
      generalize (blk (C2 * L) S n).1 = u2 at *
      generalize (blk (C2 * L) S n).2 = d2 at *
      generalize n * S = N at *
      generalize C1 * L = P1 at *
      generalize C2 * L = P2 at *
      have hB2 : 0 < d2 * (N - P2) + u2 * P2 := by
        have : 0 < d2 * (N - P2) := Nat.mul_pos (by omega) (by omega)
        omega
      generalize hA1 : u1 * N = A1 at *
      generalize hA2 : u2 * N = A2 at *
      generalize d1 * (N - P1) + u1 * P1 = B1 at *
      generalize d2 * (N - P2) + u2 * P2 = B2 at *
      obtain ⟨h1, h2⟩ := h
      constructor
      · refine Nat.le_of_mul_le_mul_right ?_ hB2
        calc A1 * of1 * B2 = (A1 * B2) * of1 := Nat.mul_right_comm _ _ _
          _ ≤ (A2 * B1) * of1 := Nat.mul_le_mul_right _ key
          _ = (A2 * of1) * B1 := Nat.mul_right_comm _ _ _
          _ ≤ (sh2 * B2) * B1 := Nat.mul_le_mul_right _ h1
          _ ≤ (sh1 * B2) * B1 := Nat.mul_le_mul_right _ (Nat.mul_le_mul_right _ hsh)
          _ = sh1 * B1 * B2 := Nat.mul_right_comm _ _ _
      · refine Nat.le_of_mul_le_mul_right ?_ hB2
        calc A1 * (L * S) * pt1 * B2 = (A1 * B2) * (L * S * pt1) := by simp [Nat.mul_comm, Nat.mul_left_comm, Nat.mul_assoc]
          _ ≤ (A2 * B1) * (L * S * pt1) := Nat.mul_le_mul_right _ key
          _ = (A2 * (L * S) * pt1) * B1 := by simp [Nat.mul_comm, Nat.mul_left_comm, Nat.mul_assoc]
          _ ≤ (wt1 * (B2 * (N - P2))) * B1 := Nat.mul_le_mul_right _ h2
          _ ≤ (wt1 * (B2 * (N - P1))) * B1 := Nat.mul_le_mul_right _ (Nat.mul_le_mul_left _ (Nat.mul_le_mul_left _ (by omega)))
          _ = wt1 * (B1 * (N - P1)) * B2 := by simp [Nat.mul_comm, Nat.mul_left_comm, Nat.mul_assoc]
    · simp [keepsN, meanN, hc2, hN] at h

end Go.Proofs.YtfoehmieklldkaaDoor
