/- The walks of staff's whole numbers: times. -/
import Derived.Test.YtfoehmieklldkaaDoorNat3
namespace Go.Proofs.YtfoehmieklldkaaDoor
open Go.RowKit

theorem val_set : ∀ (os : List Int) (j : Nat) (h : j < os.length) (v : Int), val (os.set j v) + bsN ^ j * os[j].toNat = val os + bsN ^ j * v.toNat
  | d :: r, 0, _, v => by simp [val]; omega
  | d :: r, j + 1, h, v => by
    have ih := val_set r j (by simpa using h) v
    simp only [List.set_cons_succ, val, List.getElem_cons_succ, Nat.pow_succ]
    have e := congrArg (bsN * ·) ih
    simp only [Nat.mul_add] at e
    rw [Nat.mul_comm (bsN ^ j) bsN, Nat.mul_assoc, Nat.mul_assoc]
    omega

/-- what the block holds, and what is carried to place j -/
structure Acc (w wr : World) (B n j : Nat) (c : Int) (V : Nat) (os : List Int) : Prop where
  len : os.length = n
  digs : Digs os
  c0 : 0 ≤ c
  c1 : c < 1000000000
  eq : val os + bsN ^ j * c.toNat = V
  block : IntsB wr B os
  below : Below w.heap.size w wr

theorem Acc.step {w wr : World} {B n j V : Nat} {c : Int} {os : List Int} (h : Acc w wr B n j c V os) (hB : w.heap.size ≤ B) (hj : j < os.length) (p t : Int) (hp0 : 0 ≤ p) (hp1 : p ≤ 999999999 * 999999999) (ht : t = os[j] + p + c) :
    Acc w (wr.setCell ⟨B, j, none⟩ (.int .i64 (t % 1000000000))) B n (j + 1) (t / 1000000000) (V + bsN ^ j * p.toNat) (os.set j (t % 1000000000)) := by
  obtain ⟨hx1, hx2⟩ := h.digs os[j] (List.getElem_mem hj)
  have hc0 := h.c0
  have hc1 := h.c1
  refine ⟨by simp [h.len], ?_, by omega, by omega, ?_, h.block.set j _, h.below.setCell hB _⟩
  · intro d hd
    rcases List.mem_or_eq_of_mem_set hd with hd | rfl
    · exact h.digs d hd
    · exact ⟨by omega, by omega⟩
  · have e := dm_split (t := t) (by omega)
    have e1 : t.toNat = os[j].toNat + p.toNat + c.toNat := by omega
    have e2 : bsN ^ j * ((t % 1000000000).toNat + bsN * (t / 1000000000).toNat) = bsN ^ j * (os[j].toNat + p.toNat + c.toNat) := by rw [e, e1]
    rw [Nat.mul_add, Nat.mul_add, Nat.mul_add] at e2
    have e3 := val_set os j hj (t % 1000000000)
    have e4 := h.eq
    rw [Nat.pow_succ, Nat.mul_assoc]
    omega
theorem Acc.c_zero {w wr : World} {B n j V : Nat} {os : List Int} (h : Acc w wr B n j 0 V os) (j' : Nat) : Acc w wr B n j' 0 V os :=
  ⟨h.len, h.digs, h.c0, h.c1, by have := h.eq; simp at this ⊢; exact this, h.block, h.below⟩
theorem Acc.room {w wr : World} {B n j V : Nat} {c : Int} {os : List Int} (h : Acc w wr B n j c V os) (hc : 0 < c) (hV : V < bsN ^ n) : j < n := by
  have e := h.eq
  have : bsN ^ j * 1 ≤ bsN ^ j * c.toNat := Nat.mul_le_mul_left _ (by omega)
  by_cases hj : j < n
  · exact hj
  · have : bsN ^ n ≤ bsN ^ j := Nat.pow_le_pow_right (by unfold bsN; omega) (by omega)
    omega

theorem prod_lt {xs ys : List Int} (hx : Digs xs) (hy : Digs ys) (i : Nat) : val (xs.take i) * val ys < bsN ^ (xs.length + ys.length) := by
  have h1 : val (xs.take i) ≤ val xs := by
    have e := val_append (xs.take i) (xs.drop i)
    rw [List.take_append_drop] at e
    rw [e]; exact Nat.le_add_right _ _
  have h2 := val_lt xs hx
  have h3 := val_lt ys hy
  rw [Nat.pow_add]
  by_cases h0 : val ys = 0
  · rw [h0, Nat.mul_zero]; exact Nat.mul_pos (bs_pos _) (bs_pos _)
  · exact Nat.lt_of_lt_of_le (Nat.mul_lt_mul_of_pos_right (Nat.lt_of_le_of_lt h1 h2) (by omega)) (Nat.mul_le_mul_left _ (Nat.le_of_lt h3))
theorem prod_next {xs ys : List Int} (i : Nat) (h : i < xs.length) : val (xs.take (i + 1)) * val ys = val (xs.take i) * val ys + bsN ^ i * (xs[i].toNat * val ys) := by
  rw [List.take_succ_eq_append_getElem h, val_append, Nat.add_mul, List.length_take, Nat.min_eq_left (Nat.le_of_lt h)]
  simp [val, Nat.mul_assoc]
theorem row_next {ys : List Int} (i k x : Nat) (h : k < ys.length) : bsN ^ i * (x * val (ys.take (k + 1))) = bsN ^ i * (x * val (ys.take k)) + bsN ^ (i + k) * (x * ys[k].toNat) := by
  rw [List.take_succ_eq_append_getElem h, val_append, List.length_take, Nat.min_eq_left (Nat.le_of_lt h), Nat.mul_add, Nat.mul_add, Nat.pow_add]
  simp [val, Nat.mul_comm, Nat.mul_left_comm, Nat.mul_assoc]

set_option maxRecDepth 100000 in
set_option maxHeartbeats 2000000 in
theorem times_any (u v : Value) (n m K : Nat) (w : World) (hu : NatAt w u n K) (hv : NatAt w v m K) (hK : K ≤ 100000) :
    Calls Tryd.prog 44 #[u, v] w (NatPost (n * m) (K + K) w) := by
  obtain ⟨xs, hs0, hd0, ht0, rfl, hl0⟩ := hu
  obtain ⟨ys, hs1, hd1, ht1, rfl, hl1⟩ := hv
  obtain ⟨a, cap, rfl, ha⟩ := ints_at hs0
  obtain ⟨b, cap', rfl, hb⟩ := ints_at hs1
  have HA := Lib.hid ha
  have HB := Lib.hid hb
  have HX := Lib.hid hd0
  have HY := Lib.hid hd1
  have hnil : NatAt w (.slice none 0 0) 0 (K + K) := ⟨[], .inl ⟨none, 0, rfl, rfl⟩, (fun d h => by cases h), (fun h => absurd rfl h), rfl, by simp⟩
  have HNIL := Lib.hid hnil
  have hmk := make_nat w ((xs.length : Int) + (ys.length : Int)) ((xs.length : Int) + (ys.length : Int)) (by omega) (by omega) (by omega)
  rw [show ((xs.length : Int) + (ys.length : Int)).toNat = xs.length + ys.length from by omega] at hmk
  have hmi := madeInts w (xs.length + ys.length)
  have hbl : Below w.heap.size w (w.alloc (.cells (madeCells #[.int .i64 0] (xs.length + ys.length)) 3)) := (Below.refl _ _).alloc (Nat.le_refl _) _
  have HMI := Lib.hid hmi
  have HBL := Lib.hid hbl
  clear hs0 hs1 ha hb hd0 hd1 ht0 ht1 hnil hmi hbl
  go_enter Tryd.func44, Tryd.ntmps44
  by_cases hx0 : xs.length = 0
  · have hxb : ((xs.length : Int) == 0) = true := by simpa using hx0
    go_wp2_with fail
    go_ret
    have : xs = [] := List.eq_nil_of_length_eq_zero hx0
    subst this
    exact ⟨_, _, _, rfl, by simpa [val] using HNIL.out, Below.refl _ _⟩
  · by_cases hy0 : ys.length = 0
    · have hxb : ((xs.length : Int) == 0) = false := by simpa using hx0
      have hyb : ((ys.length : Int) == 0) = true := by simpa using hy0
      go_wp2_with fail
      go_ret
      have : ys = [] := List.eq_nil_of_length_eq_zero hy0
      subst this
      exact ⟨_, _, _, rfl, by simpa [val] using HNIL.out, Below.refl _ _⟩
    · have hxb : ((xs.length : Int) == 0) = false := by simpa using hx0
      have hyb : ((ys.length : Int) == 0) = false := by simpa using hy0
      go_wp2_with fail
      clear hmk hxb hyb HNIL
      generalize w.alloc (.cells (madeCells #[.int .i64 0] (xs.length + ys.length)) 3) = w1 at *
      go_loopw [30] (fun iv wr => ∃ (i : Nat) (os : List Int), iv = .int .i64 i ∧ i ≤ xs.length ∧ Acc w wr w.heap.size (xs.length + ys.length) 0 0 (val (xs.take i) * val ys) os) (fun iv _ => xs.length - (intOf iv).toNat)
      case atStart => exact ⟨0, _, rfl, Nat.zero_le _, ⟨List.length_replicate, (fun d h => by rw [List.eq_of_mem_replicate h]; exact ⟨by omega, by omega⟩), by omega, by omega, by simp [val, val_zeros], HMI.out, HBL.out⟩⟩
      case round =>
        obtain ⟨i, os, rfl, hi, hI⟩ := hrel
        have HI := Lib.hid hI
        clear hI
        by_cases hlt : i < xs.length
        · obtain ⟨b1, off1, rfl, hc1, hb1, hcell1⟩ := HA.out (by omega)
          obtain ⟨b2, off2, rfl, hc2, hb2, hcell2⟩ := HB.out (by omega)
          have e1 := (below_cell HI.out.below hb1).trans (hcell1 i hlt)
          have HC2 := Lib.hid hcell2
          obtain ⟨hx1, hx2⟩ := HX.out xs[i] (List.getElem_mem hlt)
          have hnext := prod_next (ys := ys) i hlt
          have hlt' : (i : Int) < xs.length := by omega
          have hV := prod_lt HX.out HY.out (i + 1)
          have HN := Lib.hid hnext
          have HV := Lib.hid hV
          clear hcell1 hcell2 hnext hV
          generalize xs[i] = x at *
          go_wp2_with fail
          go_loopw [8, 37] (fun cv kv wy => ∃ (k : Nat) (c : Int) (os : List Int), cv = .int .i64 c ∧ kv = .int .i64 k ∧ k ≤ ys.length ∧ Acc w wy w.heap.size (xs.length + ys.length) (i + k) c (val (xs.take i) * val ys + bsN ^ i * (x.toNat * val (ys.take k))) os) (fun _ kv _ => ys.length - (intOf kv).toNat)
          case atStart => exact ⟨0, 0, os, rfl, rfl, Nat.zero_le _, by simpa [val] using HI.out.c_zero (i + 0)⟩
          case round =>
            obtain ⟨k, c, os2, rfl, rfl, hk, hJ⟩ := hrel
            have HJ := Lib.hid hJ
            clear hJ
            by_cases hlk : k < ys.length
            · have e2 := (below_cell HJ.out.below hb2).trans (HC2.out k hlk)
              obtain ⟨hy1, hy2⟩ := HY.out ys[k] (List.getElem_mem hlk)
              have hlk' : (k : Int) < ys.length := by omega
              have hol := HJ.out.len
              have hj : i + k < os2.length := by omega
              have hjj : (i : Int) + k < (xs.length : Int) + ys.length := by omega
              obtain ⟨k0, k1⟩ := HJ.out.block.cells (i + k) hj
              obtain ⟨ho1, ho2⟩ := HJ.out.digs os2[i + k] (List.getElem_mem hj)
              have hc0 := HJ.out.c0
              have hc1 := HJ.out.c1
              have p0 : 0 ≤ x * ys[k] := Int.mul_nonneg hx1 hy1
              have p1 : x * ys[k] ≤ 999999999 * 999999999 := Int.mul_le_mul (by omega) (by omega) hy1 (by omega)
              have hst := HJ.out.step (Nat.le_refl _) hj (x * ys[k]) (os2[i + k] + x * ys[k] + c) p0 p1 rfl
              rw [Int.toNat_mul hx1 hy1] at hst
              have hrow := row_next i k x.toNat hlk
              rw [Nat.add_assoc (val (xs.take i) * val ys), ← hrow] at hst
              have HS := Lib.hid hst
              clear hst hrow
              generalize ys[k] = y at *
              generalize os2[i + k] = o at *
              have a0 : IntKind.i64.wrap ((i : Int) + (k : Int)) = ((i + k : Nat) : Int) := by rw [IntWalk.i64_in _ (by omega)]; omega
              have a1 : IntKind.i64.wrap (x * y) = x * y := IntWalk.i64_in _ (by omega)
              have a2 : IntKind.i64.wrap (o + x * y) = o + x * y := IntWalk.i64_in _ (by omega)
              have a3 : IntKind.i64.wrap (o + x * y + c) = o + x * y + c := IntWalk.i64_in _ (by omega)
              go_wp2_with fail
              exact ⟨⟨k + 1, _, _, rfl, by simp, by omega, HS.out⟩, by simp [intOf]; omega⟩
            · have hke : k = ys.length := by omega
              subst hke
              have hJ := HJ.out
              rw [List.take_length, ← HN.out] at hJ
              have HJ2 := Lib.hid hJ
              clear hJ HJ
              have a0 : IntKind.i64.wrap ((i : Int) + (ys.length : Int)) = ((i + ys.length : Nat) : Int) := by rw [IntWalk.i64_in _ (by omega)]; omega
              go_wp2_with fail
              go_loopw [8, 12] (fun cv jv wz => ∃ (j : Nat) (c : Int) (os : List Int), cv = .int .i64 c ∧ jv = .int .i64 j ∧ Acc w wz w.heap.size (xs.length + ys.length) j c (val (xs.take (i + 1)) * val ys) os) (fun _ jv _ => xs.length + ys.length - (intOf jv).toNat)
              case atStart => exact ⟨i + ys.length, c, os2, rfl, by simp, HJ2.out⟩
              case round =>
                obtain ⟨j, c', os3, rfl, rfl, hL⟩ := hrel
                have HL := Lib.hid hL
                clear hL
                by_cases hcp : 0 < c'
                · have hj := HL.out.room hcp HV.out
                  have hol := HL.out.len
                  have hjo : j < os3.length := by omega
                  have hjj : (j : Int) < (xs.length : Int) + ys.length := by omega
                  obtain ⟨k0, k1⟩ := HL.out.block.cells j hjo
                  obtain ⟨ho1, ho2⟩ := HL.out.digs os3[j] (List.getElem_mem hjo)
                  have hc1 := HL.out.c1
                  have hst := HL.out.step (Nat.le_refl _) hjo 0 (os3[j] + c') (by omega) (by omega) (by omega)
                  simp only [Int.toNat_zero, Nat.mul_zero, Nat.add_zero] at hst
                  have HS := Lib.hid hst
                  clear hst
                  generalize os3[j] = o at *
                  have a3 : IntKind.i64.wrap (o + c') = o + c' := IntWalk.i64_in _ (by omega)
                  go_wp2_with fail
                  exact ⟨⟨j + 1, _, _, rfl, by simp, HS.out⟩, by simp [intOf]; omega⟩
                · have hc00 : c' = 0 := by have := HL.out.c0; omega
                  subst hc00
                  go_wp2_with fail
                  refine ⟨⟨i + 1, os3, by simp, by omega, HL.out.c_zero 0⟩, ?_⟩
                  simp [intOf]; omega
        · have hie : i = xs.length := by omega
          subst hie
          have hF := HI.out.eq
          rw [List.take_length] at hF
          simp only [Int.toNat_zero, Nat.mul_zero, Nat.add_zero] at hF
          have hol := HI.out.len
          have hsl := HI.out.block.slice (cap := xs.length + ys.length) (by omega)
          have htr := trimmed_any _ _ _ hsl (by omega)
          rw [hol] at htr
          have HT := Lib.hid htr
          have HF := Lib.hid hF
          clear htr hsl hF
          go_wp2_with fail
          refine HT.out.mono ?_
          rintro e w' ⟨a', c', rfl, rfl, hs'⟩
          go_wp2
          go_ret
          exact ⟨a', _, c', rfl, trimD_nat hs' HI.out.digs HF.out (by omega), HI.out.below⟩

end Go.Proofs.YtfoehmieklldkaaDoor
