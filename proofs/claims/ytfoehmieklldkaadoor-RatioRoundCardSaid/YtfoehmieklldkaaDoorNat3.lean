/- The walks of staff's whole numbers: natOf, compare. -/
import Derived.Test.YtfoehmieklldkaaDoorNat2
import Derived.Deep.RegionWith
namespace Go.Proofs.YtfoehmieklldkaaDoor
open Go.RowKit

/-! ### natOf -/
structure OfInv (w wr : World) (v : Value) (n : Nat) (r : Nat) (ds : List Int) : Prop where
  own : wr.ownsRow w.heap.size 3 1 v ds.length (ds.map (Value.int .i64))
  digs : Digs ds
  trim : r = 0 → Trim ds
  eq : val ds + bsN ^ ds.length * r = n
  below : Below w.heap.size w wr
  len : ds.length ≤ 3

theorem OfInv.step {w wr w' : World} {v v' : Value} {n r : Nat} {ds : List Int} (h : OfInv w wr v n r ds) (hn : n < 9223372036854775808) (hr : 0 < r) (ho : w'.ownsRow w.heap.size 3 1 v' (ds.length + 1) (ds.map (Value.int .i64) ++ [.int .i64 ((r : Int) % 1000000000)])) (hb : Below w.heap.size w w') :
    OfInv w w' v' n (r / 1000000000) (ds ++ [(r : Int) % 1000000000]) := by
  have hl : ds.length ≤ 2 := by
    have h3 := h.len
    have e := h.eq
    by_cases h3 : ds.length = 3
    · exfalso
      rw [h3] at e
      have : bsN ^ 3 * 1 ≤ bsN ^ 3 * r := Nat.mul_le_mul_left _ hr
      have : bsN ^ 3 = 1000000000000000000000000000 := by unfold bsN; decide
      omega
    · omega
  refine ⟨?_, ?_, ?_, ?_, hb, by simp; omega⟩
  · rw [List.length_append, List.map_append]; exact ho
  · intro d hd
    rw [List.mem_append, List.mem_singleton] at hd
    rcases hd with hd | rfl
    · exact h.digs d hd
    · exact ⟨by omega, by omega⟩
  · intro h0 h1
    simp
    omega
  · rw [val_append, List.length_append, Nat.pow_add, Nat.mul_assoc]
    have e : val [(r : Int) % 1000000000] + bsN ^ [(r : Int) % 1000000000].length * (r / 1000000000) = r := by
      simp only [val, List.length_singleton]
      unfold bsN
      omega
    rw [Nat.add_assoc, ← Nat.mul_add, e]
    exact h.eq

set_option maxRecDepth 100000 in
set_option maxHeartbeats 400000 in
theorem natOf_any (n : Nat) (w : World) (hn : n < 9223372036854775808) :
    Calls Tryd.prog 58 #[.int .i64 (n : Nat)] w (NatPost n 3 w) := by
  go_enter Tryd.func58, Tryd.ntmps58
  go_wp2_with fail
  go_loopw [0, 3] (fun nv av wr => ∃ (r : Nat) (ds : List Int), nv = .int .i64 (r : Nat) ∧ OfInv w wr av n r ds) (fun nv _ _ => (intOf nv).toNat)
  case atStart => exact ⟨n, [], rfl, ⟨World.ownsRow_nil _ _ _ _, (fun d h => by cases h), (fun _ h => absurd rfl h), by simp [val], Below.refl _ _, by simp⟩⟩
  case round =>
    obtain ⟨r, ds, rfl, hI⟩ := hrel
    by_cases hr : 0 < r
    · have HI := Lib.hid hI
      have hl := hI.len
      have hsz : w.heap.size ≤ wr.heap.size := hI.below.size
      have hrn : (r : Int) < 9223372036854775808 := by
        have e := hI.eq
        have : 1 * r ≤ bsN ^ ds.length * r := Nat.mul_le_mul_right _ (bs_pos _)
        omega
      clear hI
      go_wp2_with (at_builtin; go_must (refine append_one rfl _ _ 80 rfl w.heap.size 3 (.int .i64 0) 1 8 Tryd.underlying80 infoInt rfl (by decide) w wr _ _ _ rfl HI.out.own _ rfl rfl rfl (by simp [Value.oneCell']) (by omega) (by omega) hsz HI.out.below ?_); intro v' w' ho hb _ _)
      refine ⟨⟨r / 1000000000, _, by simp, HI.out.step hn hr ho hb⟩, ?_⟩
      simp [intOf]; omega
    · have hr0 : r = 0 := by omega
      subst hr0
      have hN : NatAt wr _ n 3 := ⟨ds, slice_of_owns1 (R := intR) (Value.int .i64) hI.own (fun _ _ => rfl), hI.digs, hI.trim rfl, by simpa using hI.eq, hI.len⟩
      obtain ⟨a, c, rfl⟩ := owns_slice hI.own
      have hb := hI.below
      go_wp2_with fail
      go_ret
      exact ⟨_, _, _, rfl, hN, hb⟩

/-! ### compare -/
def cmpN (n m : Nat) : Int := if n < m then -1 else if m < n then 1 else 0

theorem val_len_lt {xs ys : List Int} (hx : Digs xs) (hy : Digs ys) (ty : Trim ys) (h : xs.length < ys.length) : val xs < val ys := by
  have h1 := val_lt xs hx
  have h2 := val_ge ys hy ty (by intro e; rw [e] at h; simp at h)
  have : bsN ^ xs.length ≤ bsN ^ (ys.length - 1) := Nat.pow_le_pow_right (by unfold bsN; omega) (by omega)
  omega
/-- the digits from k on are alike, the ones at k - 1 are not -/
theorem val_at_lt {xs ys : List Int} (hx : Digs xs) (hy : Digs ys) (k : Nat) (hkx : k < xs.length) (hky : k < ys.length) (he : xs.drop (k + 1) = ys.drop (k + 1)) (hlt : xs[k] < ys[k]) : val xs < val ys := by
  have e1 : xs = xs.take k ++ (xs[k] :: xs.drop (k + 1)) := by rw [← List.drop_eq_getElem_cons hkx, List.take_append_drop]
  have e2 : ys = ys.take k ++ (ys[k] :: ys.drop (k + 1)) := by rw [← List.drop_eq_getElem_cons hky, List.take_append_drop]
  have v1 : val xs = val (xs.take k) + bsN ^ k * (xs[k].toNat + bsN * val (xs.drop (k + 1))) := by
    conv => lhs; rw [e1]
    rw [val_append, List.length_take, Nat.min_eq_left (by omega)]; rfl
  have v2 : val ys = val (ys.take k) + bsN ^ k * (ys[k].toNat + bsN * val (ys.drop (k + 1))) := by
    conv => lhs; rw [e2]
    rw [val_append, List.length_take, Nat.min_eq_left (by omega)]; rfl
  have l1 := val_lt (xs.take k) (fun d h => hx d (List.mem_of_mem_take h))
  rw [List.length_take, Nat.min_eq_left (by omega)] at l1
  rw [v1, v2, he]
  have hx0 := (hx xs[k] (List.getElem_mem hkx)).1
  have : xs[k].toNat + 1 ≤ ys[k].toNat := by omega
  have : bsN ^ k * (xs[k].toNat + 1) ≤ bsN ^ k * ys[k].toNat := Nat.mul_le_mul_left _ this
  rw [Nat.mul_add, Nat.mul_add]
  rw [Nat.mul_add] at this
  omega

set_option maxRecDepth 100000 in
set_option maxHeartbeats 1000000 in
theorem compare_any (u v : Value) (n m K : Nat) (w : World) (hu : NatAt w u n K) (hv : NatAt w v m K) (hK : K ≤ 1000000) :
    Calls Tryd.prog 64 #[u, v] w (fun e w' => e = .returned (.int .i64 (cmpN n m)) ∧ ∃ q, w' = w.drewN q) := by
  obtain ⟨xs, hs0, hd0, ht0, rfl, hl0⟩ := hu
  obtain ⟨ys, hs1, hd1, ht1, rfl, hl1⟩ := hv
  obtain ⟨a, cap, rfl, ha⟩ := ints_at hs0
  obtain ⟨b, cap', rfl, hb⟩ := ints_at hs1
  have HA := Lib.hid ha
  have HB := Lib.hid hb
  have h1 : xs.length < ys.length → cmpN (val xs) (val ys) = -1 := fun h => by unfold cmpN; rw [if_pos (val_len_lt hd0 hd1 ht1 h)]
  have h2 : ys.length < xs.length → cmpN (val xs) (val ys) = 1 := fun h => by
    have := val_len_lt hd1 hd0 ht0 h
    unfold cmpN; rw [if_neg (by omega), if_pos this]
  have h3 : ∀ k (hkx : k < xs.length) (hky : k < ys.length), xs.drop (k + 1) = ys.drop (k + 1) → xs[k] < ys[k] → cmpN (val xs) (val ys) = -1 := fun k hkx hky he h => by
    unfold cmpN; rw [if_pos (val_at_lt hd0 hd1 k hkx hky he h)]
  have h4 : ∀ k (hkx : k < xs.length) (hky : k < ys.length), xs.drop (k + 1) = ys.drop (k + 1) → ys[k] < xs[k] → cmpN (val xs) (val ys) = 1 := fun k hkx hky he h => by
    have := val_at_lt hd1 hd0 k hky hkx he.symm h
    unfold cmpN; rw [if_neg (by omega), if_pos this]
  have h5 : xs.drop 0 = ys.drop 0 → cmpN (val xs) (val ys) = 0 := fun h => by
    rw [List.drop_zero, List.drop_zero] at h
    rw [h]; unfold cmpN; simp
  have H1 := Lib.hid h1
  have H2 := Lib.hid h2
  have H3 := Lib.hid h3
  have H4 := Lib.hid h4
  have H5 := Lib.hid h5
  clear hs0 hs1 ha hb hd0 hd1 ht0 ht1 h1 h2 h3 h4 h5
  generalize cmpN (val xs) (val ys) = res at *
  go_enter Tryd.func64, Tryd.ntmps64
  by_cases hlen : xs.length = ys.length
  · go_wp2_with fail
    go_loopw [5] (fun iv wr => ∃ (k q : Nat), iv = .int .i64 ((k : Int) - 1) ∧ k ≤ xs.length ∧ xs.drop k = ys.drop k ∧ wr = w.drewN q) (fun iv _ => (intOf iv + 1).toNat)
    case atStart => exact ⟨xs.length, 0, by simp [hlen], Nat.le_refl _, by rw [List.drop_length, hlen, List.drop_length], rfl⟩
    case round =>
      obtain ⟨k, q, rfl, hk, hdr, rfl⟩ := hrel
      have HD := Lib.hid hdr
      clear hdr
      cases k with
      | zero =>
        rw [show ((0 : Nat) : Int) - 1 = -1 from rfl]
        go_wp2_with fail
        go_ret
        exact ⟨by rw [H5.out HD.out]; rfl, _, rfl⟩
      | succ k =>
        rw [show ((k + 1 : Nat) : Int) - 1 = (k : Int) from by omega]
        obtain ⟨b1, off1, rfl, hc1, hb1, hcell1⟩ := HA.out (by omega)
        obtain ⟨b2, off2, rfl, hc2, hb2, hcell2⟩ := HB.out (by omega)
        have e1 := hcell1 k (by omega)
        have e2 := hcell2 k (by omega)
        clear hcell1 hcell2
        have hx3 := H3.out k (by omega) (by omega) HD.out
        have hx4 := H4.out k (by omega) (by omega) HD.out
        have hx5 : xs[k] = ys[k] → xs.drop k = ys.drop k := fun h => by
          rw [List.drop_eq_getElem_cons (by omega), List.drop_eq_getElem_cons (l := ys) (by omega), h, HD.out]
        generalize xs[k] = x at *
        generalize ys[k] = y at *
        have hlk : (k : Int) < xs.length := by omega
        have hlk2 : (k : Int) < ys.length := by omega
        by_cases hne : x = y
        · have hd := hx5 hne
          have HD5 := Lib.hid hd
          subst hne
          clear hd hx3 hx4 hx5
          go_upto_region 8 with fail
          go_quiet (fail)
          go_wp2_with fail
          refine ⟨⟨k, _, rfl, by omega, HD5.out, rfl⟩, ?_⟩
          simp [intOf]
        · clear hx5
          have hneb : (x == y) = false := by simpa using hne
          go_upto_region 8 with fail
          go_quiet (fail)
          go_upto_region 9 with fail
          go_quiet (fail)
          by_cases hxy : x < y
          · have hb : decide (x < y) = true := by simpa using hxy
            have hr := hx3 hxy
            subst hr
            clear hx3 hx4
            go_wp2_with fail
            go_ret
            exact ⟨rfl, _, rfl⟩
          · have hb : decide (x < y) = false := by simpa using hxy
            have hr := hx4 (by omega)
            subst hr
            clear hx3 hx4
            go_wp2_with fail
            go_ret
            exact ⟨rfl, _, rfl⟩
  · by_cases hlt : xs.length < ys.length
    · have hr := H1.out hlt
      clear H1 H2 H3 H4 H5 HA HB
      subst hr
      go_wp2_with fail
      go_ret
      exact ⟨rfl, 0, rfl⟩
    · have hr := H2.out (by omega)
      clear H1 H2 H3 H4 H5 HA HB
      subst hr
      go_wp2_with fail
      go_ret
      exact ⟨rfl, 0, rfl⟩

end Go.Proofs.YtfoehmieklldkaaDoor
