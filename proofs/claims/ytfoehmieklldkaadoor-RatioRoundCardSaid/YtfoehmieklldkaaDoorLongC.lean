/- The walk of nat.by: quotient and rest. -/
import Derived.Test.YtfoehmieklldkaaDoorLongP
import Derived.Test.YtfoehmieklldkaaDoorStaff
namespace Go.Proofs.YtfoehmieklldkaaDoor
open Go.RowKit

def ByPost (q r K : Nat) (w : World) (e : Ending) (w' : World) : Prop := ∃ a1 l1 c1 a2 l2 c2, e = .returned (.tuple #[.slice a1 l1 c1, .slice a2 l2 c2]) ∧ NatAt w' (.slice a1 l1 c1) q K ∧ NatAt w' (.slice a2 l2 c2) r K ∧ Below w.heap.size w w'

set_option maxRecDepth 100000 in
set_option maxHeartbeats 2000000 in
theorem by_lt (u v : Value) (n m K : Nat) (w : World) (hu : NatAt w u n K) (hv : NatAt w v m K) (hK : K ≤ 100000) (hlt : n < m) :
    Calls Tryd.prog 43 #[u, v] w (ByPost (n / m) (n % m) K w) := by
  have HC := Lib.hid (compare_any u v n m K w hu hv (by omega))
  have hc : cmpN n m = -1 := by unfold cmpN; rw [if_pos hlt]
  rw [hc] at HC
  obtain ⟨a, l, c, rfl⟩ : ∃ a l c, u = .slice a l c := hu.slice
  have HU := Lib.hid hu
  have HQ := Lib.hid (Nat.div_eq_of_lt hlt)
  have HR := Lib.hid (Nat.mod_eq_of_lt hlt)
  clear hu hv hc hlt
  go_enter Tryd.func43, Tryd.ntmps43
  go_wp2_with fail
  refine HC.out.mono ?_
  rintro e w' ⟨rfl, q, rfl⟩
  go_wp2_with fail
  go_ret2
  refine ⟨none, 0, 0, a, l, c, rfl, ?_, ?_, drewN_below (Below.refl _ _) q⟩
  · rw [HQ.out]
    exact ⟨[], .inl ⟨none, 0, rfl, rfl⟩, fun _ h => (by cases h), fun h => absurd rfl h, rfl, Nat.zero_le _⟩
  · rw [HR.out]
    exact HU.out.drewN q

set_option maxRecDepth 100000 in
set_option maxHeartbeats 2000000 in
theorem by_one (u v : Value) (n m K : Nat) (w : World) (hu : NatAt w u n K) (hv : NatAt w v m 1) (hK : K ≤ 100000) (hK1 : 1 ≤ K) (hge : m ≤ n) (h0 : 0 < m) :
    Calls Tryd.prog 43 #[u, v] w (ByPost (n / m) (n % m) K w) := by
  have HC := Lib.hid (compare_any u v n m K w hu (hv.le hK1) (by omega))
  have hc : cmpN n m = 0 ∨ cmpN n m = 1 := by unfold cmpN; rw [if_neg (by omega)]; split <;> simp
  obtain ⟨cn, hcn⟩ : ∃ cn, cn = cmpN n m := ⟨_, rfl⟩
  rw [← hcn] at HC hc
  have hc0 : decide (cn < 0) = false := by simp; omega
  obtain ⟨ys, hs, hd, ht, hvl, hl⟩ := hv
  have hy0 : ys ≠ [] := by rintro rfl; simp [val] at hvl; omega
  obtain ⟨y, rfl⟩ : ∃ y, ys = [y] := by
    cases ys with
    | nil => exact absurd rfl hy0
    | cons y r => cases r with
      | nil => exact ⟨y, rfl⟩
      | cons z r => simp at hl
  obtain ⟨y0, y1⟩ := hd y List.mem_cons_self
  obtain ⟨yn, rfl⟩ : ∃ yn : Nat, y = yn := ⟨y.toNat, by omega⟩
  have hym : yn = m := by simpa [val] using hvl
  subst hym
  obtain ⟨b, off, cap, hveq, hcp, hb, hel⟩ := SliceAt.at hs (by simp)
  rw [List.length_singleton] at hveq
  subst hveq
  have e0 := ints_cell hel 0 (yn : Nat) (by simp)
  rw [Nat.add_zero] at e0
  have HU := Lib.hid hu
  have HQ := Lib.hid (show n % yn < bsN ^ K from Nat.lt_of_le_of_lt (Nat.mod_le _ _) hu.lt)
  clear hcn hc hvl hy0 hd ht hs hel hu
  have HPT := Lib.hid (fun W h => part_any u n yn K W h h0 (by omega) hK)
  obtain ⟨r, hr⟩ : ∃ r, r = n % yn := ⟨_, rfl⟩
  rw [← hr] at HPT HQ ⊢
  have hrl : r < 9223372036854775808 := by rw [hr]; have := Nat.mod_lt n h0; omega
  have HNO := Lib.hid (fun W => natOf_any r W hrl)
  clear hr hrl
  go_enter Tryd.func43, Tryd.ntmps43
  go_wp2_with fail
  refine HC.out.mono ?_
  rintro e w' ⟨rfl, q, rfl⟩
  go_upto_region 3 with fail
  go_upto_region 4 with fail
  go_wp2_with fail
  refine (HPT.out _ (HU.out.drewN q)).mono ?_
  rintro e w2 ⟨a2, l2, c2, rfl, hn2, hb2⟩
  have HN2 := Lib.hid hn2
  have HB2 := Lib.hid hb2
  clear hn2 hb2
  go_wp2_with fail
  refine (HNO.out _).mono ?_
  rintro e w3 ⟨a3, l3, c3, rfl, hn3, hb3⟩
  have HN3 := Lib.hid hn3
  have HB3 := Lib.hid hb3
  clear hn3 hb3
  go_wp2_with fail
  go_ret2
  refine ⟨a2, l2, c2, a3, l3, c3, rfl, HN2.out.below HB3.out, HN3.out.shrink HQ.out, ?_⟩
  exact below_up (below_up (drewN_below (Below.refl _ _) q) HB2.out (by simp)) HB3.out (by have := HB2.out.size; simp at this ⊢; exact this)

end Go.Proofs.YtfoehmieklldkaaDoor
