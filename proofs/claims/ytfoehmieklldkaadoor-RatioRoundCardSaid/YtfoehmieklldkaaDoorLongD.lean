/- The walk of nat.by: long division. -/
import Derived.Test.YtfoehmieklldkaaDoorLongC
namespace Go.Proofs.YtfoehmieklldkaaDoor
open Go.RowKit

structure ByM (w1 wr : World) (qb : Nat) (R qs : List Int) (D N la lq j : Nat) : Prop where
  inv : ByI R qs (D : Int) (N : Int) j
  rl : R.length = la + 1
  ql : qs.length + j = lq
  rb : IntsB wr w1.heap.size R
  qk : IntsB wr qb (List.replicate j 0 ++ qs)
  qn : w1.heap.size < qb
  below : Below w1.heap.size w1 wr
theorem ByM.drewN {w1 wr : World} {qb : Nat} {R qs : List Int} {D N la lq j : Nat} (h : ByM w1 wr qb R qs D N la lq j) (q : Nat) : ByM w1 (wr.drewN q) qb R qs D N la lq j :=
  ⟨h.inv, h.rl, h.ql, h.rb, h.qk, h.qn, drewN_below h.below q⟩

theorem w_nat {x : Int} {n : Nat} (h : x = (n : Int)) (hn : n ≤ 9000000000000000000) : IntKind.i64.wrap x = (n : Int) := by rw [h]; exact IntWalk.i64_in _ (by omega)
theorem wrap64_nat {g : Nat} (h : g ≤ 999999999999999999) : wrap64 (g : Int) = (g : Int) := by unfold wrap64; omega
/-- the digits of the divisor, made great -/
structure DivI (m s D p : Nat) (dds : List Int) : Prop where
  len : dds.length = p + 2
  digs : Digs dds
  val : val dds = D
  eq : D = m * s
  s0 : 0 < s
  s1 : s < 1000000000
  pos : 0 < m
theorem div_make {ys : List Int} {m p v1 : Nat} (hd : Digs ys) (hl : ys.length = p + 2) (hv : val ys = m) (ht : Trim ys) (h1 : ys[p + 1] = (v1 : Int)) :
    0 < v1 ∧ v1 < 1000000000 ∧ 0 < 1000000000 / (v1 + 1) ∧ 1000000000 / (v1 + 1) < 1000000000 ∧ bsN ^ (p + 1) ≤ m ∧ m * (1000000000 / (v1 + 1)) < bsN ^ (p + 2) := by
  have hne : ys ≠ [] := by intro h; rw [h] at hl; simp at hl
  have hlast := ht hne
  rw [List.getLast_eq_getElem] at hlast
  have e : ys.length - 1 = p + 1 := by omega
  simp only [e] at hlast
  obtain ⟨g0, g1⟩ := hd ys[p + 1] (List.getElem_mem (by omega))
  have hv0 : 0 < v1 := by omega
  obtain ⟨k1, k2, k3⟩ := scale_ok hv0 (by omega)
  have h2 := val_ge ys hd ht hne
  rw [e, hv] at h2
  rcases scaled_lt hd (p + 1) hl h1 k3 with h3 | h3
  · rw [hv] at h3
    exact ⟨hv0, by omega, k1, k2, h2, h3⟩
  · omega
theorem div_len {m s p : Nat} {dds : List Int} (hd : Digs dds) (ht : Trim dds) (hv : val dds = m * s) (hs : 0 < s) (h1 : bsN ^ (p + 1) ≤ m) (h2 : m * s < bsN ^ (p + 2)) : dds.length = p + 2 := by
  have h3 := len_le hd ht (k := p + 2) (by rw [hv]; exact h2)
  have h4 := len_ge hd (k := p + 1) (by rw [hv]; exact Nat.le_trans h1 (Nat.le_mul_of_pos_right _ hs))
  omega

theorem tk_neg {P sg T dds : List Int} {g V D top : Int} {w w' : World} {B n : Nat} {ns : List Int} (h : TkPost P sg T dds g w w' B ns top) (hV : vz sg = V) (hD : vz dds = D) (hn : dds.length = n) (hDB : D < 1000000000 ^ n)
    (h1 : V - g * D < 0) (h2 : 0 ≤ V - (g - 1) * D) : top < 0 ∧ -10 ≤ top ∧ top ≤ 10 := by
  have e := h.val
  have hl := vz_lt ns h.digs
  rw [h.len, hn] at hl
  rw [hn, hV, hD] at e
  have hp := pw_pos n
  generalize (1000000000 : Int) ^ n = p at *
  have e2 : (g - 1) * D = g * D - D := by grind
  have h3 : top < 0 := (top_neg hp hl.1 hl.2 e).2 h1
  refine ⟨h3, ?_, by omega⟩
  by_cases h4 : top < -1
  · exfalso
    have : p * top ≤ p * (-2) := Int.mul_le_mul_of_nonneg_left (by omega) (by omega)
    omega
  · omega
theorem tk_pos {P sg T dds : List Int} {g V D top : Int} {w w' : World} {B n : Nat} {ns : List Int} (h : TkPost P sg T dds g w w' B ns top) (hV : vz sg = V) (hD : vz dds = D) (hn : dds.length = n) (hDB : D < 1000000000 ^ n)
    (h1 : 0 ≤ V - g * D) (h2 : V - g * D < D) : top = 0 ∧ vz ns = V - g * D := by
  have e := h.val
  have hl := vz_lt ns h.digs
  rw [h.len, hn] at hl
  rw [hn, hV, hD] at e
  have hp := pw_pos n
  generalize (1000000000 : Int) ^ n = p at *
  have h3 : top = 0 := top_zero hp hl.1 hl.2 e h1 (by omega)
  subst h3
  exact ⟨rfl, by omega⟩
theorem pb_done {P sg T dds : List Int} {g V D top top' : Int} {w w' w'' : World} {B n : Nat} {ns ns' : List Int} (h : TkPost P sg T dds g w w' B ns top) (k : PbPost P ns T dds top w' w'' B ns' top') (hV : vz sg = V) (hD : vz dds = D) (hn : dds.length = n) (hDB : D < 1000000000 ^ n)
    (h1 : 0 ≤ V - (g - 1) * D) (h2 : V - (g - 1) * D < D) : top' = 0 ∧ vz ns' = V - (g - 1) * D := by
  have e := h.val
  have e' := k.val
  have hl := vz_lt ns' k.digs
  rw [k.len, hn] at hl
  rw [hn, hV, hD] at e
  rw [hn, hD] at e'
  have hp := pw_pos n
  have e2 : (g - 1) * D = g * D - D := by grind
  generalize (1000000000 : Int) ^ n = p at *
  have h3 : top' = 0 := top_zero hp hl.1 hl.2 (v := V - (g - 1) * D) (by omega) h1 (by omega)
  subst h3
  exact ⟨rfl, by omega⟩
theorem ByM.next {w1 wr W : World} {qb : Nat} {R R' qs : List Int} {D N la lq j g : Nat} (h : ByM w1 wr qb R qs D N la lq (j + 1)) (hg : wr.grownBy W (some w1.heap.size)) (hb : IntsB W w1.heap.size R') (hl : R'.length = R.length)
    (hi : ByI R' ((g : Int) :: qs) (D : Int) (N : Int) j) : ByM w1 (W.setCell ⟨qb, j, none⟩ (.int .i64 (g : Nat))) qb R' ((g : Int) :: qs) D N la lq j := by
  have hqn := h.qn
  have hbl : Below w1.heap.size w1 W := below_grown h.below hg h.below.size (Nat.le_refl _)
  refine ⟨hi, by rw [hl]; exact h.rl, ?_, Has.set_other hb _ _ (by omega), ?_, h.qn, hbl.setCell (Nat.le_of_lt hqn) _⟩
  · have := h.ql
    rw [List.length_cons]
    omega
  · have h1 : IntsB W qb (List.replicate (j + 1) 0 ++ qs) := Has.kept h.qk hg (by simp; omega)
    have h2 := h1.set j (g : Nat)
    rw [set_zeros] at h2
    exact h2

set_option maxRecDepth 100000 in
set_option maxHeartbeats 8000000 in
theorem by_long (u v : Value) (n m K : Nat) (w : World) (hu : NatAt w u n K) (hv : NatAt w v m K) (hK : K ≤ 50000) (hge : m ≤ n) (hm : bsN ≤ m) :
    Calls Tryd.prog 43 #[u, v] w (ByPost (n / m) (n % m) K w) := by
  have HC := Lib.hid (compare_any u v n m K w hu hv (by omega))
  have hc : cmpN n m = 0 ∨ cmpN n m = 1 := by unfold cmpN; rw [if_neg (by omega)]; split <;> simp
  obtain ⟨cn, hcn⟩ : ∃ cn, cn = cmpN n m := ⟨_, rfl⟩
  rw [← hcn] at HC hc
  have hc0 : decide (cn < 0) = false := by simp; omega
  have HU := Lib.hid hu
  have HV := Lib.hid hv
  obtain ⟨xs, hxs, hxd, hxt, hxv, hxl⟩ := hu
  obtain ⟨ys, hys, hyd, hyt, hyv, hyl⟩ := hv
  have hy2 : 2 ≤ ys.length := len_ge hyd (k := 1) (by rw [hyv]; simpa using hm)
  obtain ⟨p, hp⟩ : ∃ p, ys.length = p + 2 := ⟨ys.length - 2, by omega⟩
  obtain ⟨g0, g1⟩ := hyd ys[p + 1] (List.getElem_mem (by omega))
  obtain ⟨v1, hv1⟩ : ∃ v1 : Nat, ys[p + 1] = v1 := ⟨(ys[p + 1]).toNat, by omega⟩
  obtain ⟨hv0, hv9, hs0, hs1, hmB, hmsB⟩ := div_make hyd hp hyv hyt hv1
  have hla : p + 2 ≤ xs.length := by
    have := len_ge hxd (k := p + 1) (by rw [hxv]; exact Nat.le_trans hmB hge)
    omega
  obtain ⟨a, cap, rfl⟩ := hxs.len
  obtain ⟨b, off, capb, hveq, hcp, hb, hel⟩ := SliceAt.at hys (by omega)
  rw [hp] at hveq hcp
  subst hveq
  have e0 := ints_cell hel (p + 1) (v1 : Nat) (by rw [← hv1]; simp [hp])
  have HXD := Lib.hid hxd
  have HXV := Lib.hid hxv
  have HXT := Lib.hid hxt
  have hnB : n < bsN ^ xs.length := by rw [← hxv]; exact val_lt xs hxd
  have HNB := Lib.hid hnB
  obtain ⟨s, hs⟩ : ∃ s, s = 1000000000 / (v1 + 1) := ⟨_, rfl⟩
  rw [← hs] at hs0 hs1 hmsB
  have HMB := Lib.hid hmB
  have HMSB := Lib.hid hmsB
  have q0 : (1000000000 : Int) / ((v1 : Int) + 1) = (s : Int) := by
    rw [hs]
    simp
  have q1 : IntKind.i64.wrap ((p : Int) + 2 - 1) = (p : Int) + 1 := by rw [IntWalk.i64_in _ (by omega)]; omega
  have HSM := Lib.hid (fun W h => small_any (.slice (some ⟨b, off, none⟩) (p + 2) capb) m s K W h hs1 (by omega))
  have HSN := Lib.hid (fun W h => small_any (.slice a xs.length cap) n s K W h hs1 (by omega))
  have hxl2 : xs.length ≤ 50000 := by omega
  clear hxs hxd hxt hxv hys hyd hyt hyv hel hcn hc hv1 hs hnB hmB hmsB hy2 g0 g1 hp
  go_enter Tryd.func43, Tryd.ntmps43
  go_wp2_with fail
  refine HC.out.mono ?_
  rintro e w' ⟨rfl, q, rfl⟩
  go_wp2_with fail
  rw [q0]
  refine (HSM.out _ (HV.out.drewN q)).mono ?_
  rintro e w1 ⟨a1, l1, c1, rfl, hd1, hb1⟩
  obtain ⟨dds, hds, hdd, hdt, hdv, _⟩ := hd1
  have hdl := div_len hdd hdt hdv hs0 HMB.out HMSB.out
  obtain ⟨nd, hnd⟩ : ∃ nd, nd = p + 2 := ⟨_, rfl⟩
  obtain ⟨bd, od, cd, hveq, hcd, hbd, held⟩ := SliceAt.at hds (by omega)
  rw [hdl, ← hnd] at hveq
  rw [← hnd] at hdl
  simp only [Value.slice.injEq] at hveq
  obtain ⟨rfl, hl1, rfl⟩ := hveq
  obtain rfl : nd = l1 := hl1.symm
  have HDS := Lib.hid hds
  have HDD := Lib.hid hdd
  have HDV := Lib.hid hdv
  have HDL := Lib.hid hdl
  have HDT := Lib.hid hdt
  have HND := Lib.hid hnd
  have HB1 := Lib.hid (below_up (drewN_below (Below.refl w.heap.size w) q) hb1 (by simp))
  have hmk := make_nat w1 ((xs.length : Int) + 1) ((xs.length : Int) + 1) (by omega) (by omega) (by omega)
  rw [show ((xs.length : Int) + 1).toNat = xs.length + 1 from by omega] at hmk
  have hmi := madeInts w1 (xs.length + 1)
  have hbl : Below w1.heap.size w1 (w1.alloc (.cells (madeCells #[.int .i64 0] (xs.length + 1)) 3)) := (Below.refl _ _).alloc (Nat.le_refl _) _
  have HMI := Lib.hid hmi
  have HBL := Lib.hid hbl
  have hnle : nd ≤ xs.length := by omega
  have hn2 : 2 ≤ nd := by omega
  clear hds hdd hdt hdv hdl held hb1 hmi hbl e0 q1 hc0 hnd
  go_upto_region 10 with fail
  clear hmk
  generalize w1.alloc (.cells (madeCells #[.int .i64 0] (xs.length + 1)) 3) = w2 at *
  go_wp2_with fail
  refine (HSN.out _ (HU.out.below (below_up HB1.out HBL.out HB1.out.size))).mono ?_
  rintro e w3 ⟨a3, l3, c3, rfl, hr3, hb3⟩
  obtain ⟨es, hes, hed, het, hev, _⟩ := hr3
  have hel : es.length ≤ xs.length + 1 := len_le hed het (by
    rw [hev, Nat.pow_succ]
    exact Nat.mul_lt_mul_of_lt_of_le HNB.out (by unfold bsN; omega) (by unfold bsN; omega))
  have HMI3 : Hid (IntsB w3 w1.heap.size (List.replicate (xs.length + 1) 0)) := Lib.hid (Has.below HMI.out hb3 (Has.lt HMI.out))
  obtain ⟨w4, hcopy, hR, hbc⟩ := copy_ints HMI3.out hes (xs.length + 1) (xs.length + 1) hel (by simp)
  have hevs : val (es ++ (List.replicate (xs.length + 1) 0).drop es.length) = n * s := by
    rw [List.drop_replicate, val_append, val_zeros, hev]
    rfl
  have hed2 : Digs (es ++ (List.replicate (xs.length + 1) 0).drop es.length) := hed.append (by rw [List.drop_replicate]; exact Digs.zeros _)
  have hlen2 : (es ++ (List.replicate (xs.length + 1) 0).drop es.length).length = xs.length + 1 := by
    rw [List.length_append, List.length_drop, List.length_replicate]; omega
  generalize (es ++ (List.replicate (xs.length + 1) 0).drop es.length) = R0 at *
  have hb4 : Below w1.heap.size w1 w4 := hbc _ _ (Nat.le_refl _) (below_up HBL.out hb3 HBL.out.size)
  have HB4 := Lib.hid hb4
  have HR0 := Lib.hid hR
  have HEV := Lib.hid hevs
  have HED := Lib.hid hed2
  have HLE := Lib.hid hlen2
  clear hes hed het hev hel hb3 hR hbc hevs hed2 hlen2 hb4 HMI3
  obtain ⟨lq, hlq⟩ : ∃ lq : Nat, lq = xs.length - nd + 1 := ⟨_, rfl⟩
  have hmq := make_nat w4 (lq : Int) (lq : Int) (by omega) (by omega) (by omega)
  rw [Int.toNat_natCast] at hmq
  have hmi := madeInts w4 lq
  have hbl4 : Below w4.heap.size w4 (w4.alloc (.cells (madeCells #[.int .i64 0] lq) 3)) := (Below.refl _ _).alloc (Nat.le_refl _) _
  have HMI4 := Lib.hid hmi
  have HBL4 := Lib.hid hbl4
  have HLQ := Lib.hid hlq
  have hlq2 : lq ≤ 50001 := by omega
  have x1 : IntKind.i64.wrap ((xs.length : Int) - (nd : Int) + 1) = (lq : Int) := by rw [IntWalk.i64_in _ (by omega)]; omega
  have x2 : (xs.length : Int) - (nd : Int) + 1 = (lq : Int) := by omega
  clear hmi hbl4 hlq
  go_upto_region 11 with fail
  clear hcopy
  go_upto_region 12 with fail
  have HDT2 : Hid (Trim dds) := HDT
  have hst := by_start (lq := lq) HED.out HEV.out HNB.out HMB.out hs0 (by have := HND.out; have := HLQ.out; omega) hla
  have hI0 : ByI R0 [] ((m * s : Nat) : Int) ((n * s : Nat) : Int) lq := hst
  obtain ⟨D, hD⟩ : ∃ D, D = m * s := ⟨_, rfl⟩
  obtain ⟨N, hN⟩ : ∃ N, N = n * s := ⟨_, rfl⟩
  rw [← hD, ← hN] at hI0
  rw [← hD] at HDV
  have HDE := Lib.hid hD
  have hD0 : 0 < D := by rw [hD]; exact Nat.mul_pos (by unfold bsN at hm; omega) hs0
  have HNE := Lib.hid hN
  have hqn : w1.heap.size < w4.heap.size := HR0.out.lt
  have hM0 : ByM w1 (w4.alloc (.cells (madeCells #[.int .i64 0] lq) 3)) w4.heap.size R0 [] D N xs.length lq lq :=
    ⟨hI0, HLE.out, by simp, Has.below HR0.out HBL4.out (Has.lt HR0.out), by simpa using HMI4.out, hqn, below_up HB4.out HBL4.out HB4.out.size⟩
  have HM0 := Lib.hid hM0
  have hDB : (D : Int) < 1000000000 ^ nd := by
    have h1 := val_lt dds HDD.out
    rw [HDV.out, HDL.out] at h1
    have h2 : ((bsN ^ nd : Nat) : Int) = 1000000000 ^ nd := by rw [Int.natCast_pow]; rfl
    omega
  have HDB := Lib.hid hDB
  generalize w4.alloc (.cells (madeCells #[.int .i64 0] lq) 3) = w5 at *
  clear hst hI0 hD hN hM0 hDB hmq x1 x2 q0
  go_wp2_with fail
  go_loopw [13, 14, 15, 16, 17, 69] (fun _ _ _ _ _ iv wr => ∃ (i j : Nat) (R qs : List Int), iv = .int .i64 i ∧ i + j = lq ∧ ByM w1 wr w4.heap.size R qs D N xs.length lq j) (fun _ _ _ _ _ iv _ => lq - (intOf iv).toNat)
  case atStart => exact ⟨0, lq, R0, [], rfl, by omega, HM0.out⟩
  case round =>
    clear HM0
    obtain ⟨i, j, R, qs, rfl, hij, hM⟩ := hrel
    cases j with
    | succ j =>
      have hlt : i < lq := by omega
      have HMM := Lib.hid hM
      have HIJ := Lib.hid hij
      have hj5 : j ≤ 50001 := by omega
      have hi5 : i ≤ 50001 := by omega
      have hjl : j + nd + 1 ≤ R.length := by rw [hM.rl]; have := HLQ.out; omega
      obtain ⟨ht0, hVD⟩ := hM.inv.top hjl HDB.out
      have hsd : Digs (sgOf R j nd) := (hM.inv.rd.drop j).take (nd + 1)
      have hsl := sg_length hjl
      obtain ⟨V, hV⟩ : ∃ V, V = val (sgOf R j nd) := ⟨_, rfl⟩
      rw [vz_val _ hsd, ← hV] at hVD
      obtain ⟨z0, z1, z2, d1, d2, hF⟩ := digit_facts hsd HDD.out HDT2.out (by rw [hsl, HND.out]) (by rw [HDL.out, HND.out]) hV.symm HDV.out (by unfold bsN; omega)
      obtain ⟨t2, ht2⟩ : ∃ t2, t2 = j + nd := ⟨_, rfl⟩
      obtain ⟨t1, ht1⟩ : ∃ t1, t1 = j + nd - 1 := ⟨_, rfl⟩
      obtain ⟨tz, htz⟩ : ∃ t0, t0 = j + nd - 2 := ⟨_, rfl⟩
      obtain ⟨e1, he1⟩ : ∃ e1, e1 = nd - 1 := ⟨_, rfl⟩
      obtain ⟨e2, he2⟩ : ∃ e2, e2 = nd - 2 := ⟨_, rfl⟩
      have hnp := HND.out
      have hcellR : ∀ k x, k < nd + 1 → (sgOf R j nd)[k]? = some (x : Int) → wr.cell? ⟨w1.heap.size, j + k, none⟩ = some (.int .i64 x) := fun k x hk hx => by
        have h1 := (hM.rb.cells (j + k) (by omega)).1
        rw [List.getElem?_eq_getElem (by rw [hsl]; exact hk), Option.some.injEq, sg_get hjl hk] at hx
        rw [h1, hx]
      have k2 := hcellR (p + 2) z2 (by omega) hF.s2
      have k1 := hcellR (p + 1) z1 (by omega) hF.s1
      have k0 := hcellR p z0 (by omega) hF.s0
      rw [show j + (p + 2) = t2 by omega] at k2
      rw [show j + (p + 1) = t1 by omega] at k1
      rw [show j + p = tz by omega] at k0
      have HF := Lib.hid hF
      have hx0 := hF.b0
      have hx1 := hF.b1
      have hx2 := hF.b2
      have hd1 := hF.c1
      have hd2 := hF.c2
      have hd0 := hF.pos
      unfold bsN at hx0 hx1 hx2 hd1 hd2
      obtain ⟨bd', od', cd', hveq, _, hbd', held⟩ := SliceAt.at (HDS.out.stable intR_stable hM.below) (by rw [HDL.out]; omega)
      rw [HDL.out] at hveq
      simp only [Value.slice.injEq, Option.some.injEq, Addr.mk.injEq, and_true] at hveq
      obtain ⟨⟨rfl, rfl⟩, _, rfl⟩ := hveq
      have f1 := ints_cell held e1 (d1 : Nat) (by rw [he1, hnp]; exact hF.e1)
      have f2 := ints_cell held e2 (d2 : Nat) (by rw [he2, hnp]; exact hF.e2)
      obtain ⟨hi, hhi⟩ : ∃ hi, hi = z2 * bsN + z1 := ⟨_, rfl⟩
      have HHI := Lib.hid hhi
      have HV := Lib.hid hV
      have HSD := Lib.hid hsd
      have HSL := Lib.hid hsl
      have HJL := Lib.hid hjl
      have hhi2 : (z2 : Int) * 1000000000 + (z1 : Int) = (hi : Int) := by rw [hhi]; unfold bsN; omega
      have b2 : t2 < xs.length + 1 := by have := hM.rl; omega
      have b1 : t1 < xs.length + 1 := by omega
      have b0 : tz < xs.length + 1 := by omega
      have c1' : e1 < nd := by omega
      have c2' : e2 < nd := by omega
      have HT : Hid (t2 = j + nd ∧ t1 = j + nd - 1 ∧ tz = j + nd - 2 ∧ e1 = nd - 1 ∧ e2 = nd - 2) := Lib.hid ⟨ht2, ht1, htz, he1, he2⟩
      have HQ0 : Hid (V / D * (d1 * bsN + d2) ≤ hi * bsN + z0) := Lib.hid (by rw [HHI.out]; exact HF.out.q0)
      have hhB : hi ≤ 999999999999999999 := by rw [HHI.out]; unfold bsN; omega
      obtain ⟨g0, hg0⟩ : ∃ g0, g0 = hi / d1 := ⟨_, rfl⟩
      obtain ⟨l0, hl0⟩ : ∃ l0, l0 = hi % d1 := ⟨_, rfl⟩
      have hgi : GInv hi d1 (V / D) g0 l0 := ⟨by rw [hg0, hl0]; exact Nat.div_add_mod' hi d1, by rw [hg0]; exact guess_first hd0 (by unfold bsN; exact hx0) HQ0.out⟩
      have HGI := Lib.hid hgi
      have hgb : g0 ≤ 999999999999999999 := by rw [hg0]; exact Nat.le_trans (Nat.div_le_self _ _) hhB
      have hlb : l0 ≤ 999999999999999999 := by rw [hl0]; exact Nat.le_trans (Nat.mod_le _ _) hhB
      obtain ⟨lqm, hlqm⟩ : ∃ lqm, lqm = lq - 1 := ⟨_, rfl⟩
      obtain ⟨zz, hzz⟩ : ∃ zz, zz = z2 * 1000000000 := ⟨_, rfl⟩
      have P : ((lq : Int) - 1 = (lqm : Int) ∧ (lqm : Int) - (i : Int) = (j : Int) ∧ (j : Int) + (nd : Int) = (t2 : Int) ∧ (t2 : Int) - 1 = (t1 : Int) ∧ (t2 : Int) - 2 = (tz : Int)) ∧ ((z2 : Int) * 1000000000 = (zz : Int) ∧ (zz : Int) + (z1 : Int) = (hi : Int) ∧ (nd : Int) - 1 = (e1 : Int) ∧ (nd : Int) - 2 = (e2 : Int)) ∧ lqm ≤ 50001 ∧ t2 ≤ 60000 ∧ zz ≤ 9000000000000000000 ∧ hi ≤ 9000000000000000000 ∧ e1 ≤ 60000 ∧ e2 ≤ 60000 ∧ t1 ≤ 60000 ∧ tz ≤ 60000 := by
        refine ⟨⟨?_, ?_, ?_, ?_, ?_⟩, ⟨?_, ?_, ?_, ?_⟩, ?_, ?_, ?_, ?_, ?_, ?_, ?_, ?_⟩ <;> omega
      have HPF := Lib.hid P
      have u1 : (hi : Int).tdiv (d1 : Int) = (g0 : Int) := by rw [hg0]; exact (Int.ofNat_tdiv hi d1).symm
      have u2 : (hi : Int).tmod (d1 : Int) = (l0 : Int) := by rw [hl0]; exact (Int.ofNat_tmod hi d1).symm
      have u3 : (hi : Int) / (d1 : Int) = (g0 : Int) := by rw [hg0]; exact (Int.natCast_ediv hi d1).symm
      have u4 : (hi : Int) % (d1 : Int) = (l0 : Int) := by rw [hl0]; exact (Int.natCast_emod hi d1).symm
      clear P hM hij ht0 hVD hsd hsl hV hF hcellR held hhi ht2 ht1 htz he1 he2 hnp hhi2 hgi hg0 hl0 hlqm hzz
      have u5 : wrap64 (g0 : Int) = (g0 : Int) := wrap64_nat hgb
      have u6 : IntKind.i64.wrap (g0 : Int) = (g0 : Int) := w_nat rfl (Nat.le_trans hgb (by decide))
      have y1 : IntKind.i64.wrap ((lq : Int) - 1) = (lqm : Int) := w_nat HPF.out.1.1 (Nat.le_trans HPF.out.2.2.1 (by decide))
      have y2 : IntKind.i64.wrap ((lqm : Int) - (i : Int)) = (j : Int) := w_nat HPF.out.1.2.1 (Nat.le_trans hj5 (by decide))
      have y3 : (lq : Int) - 1 = (lqm : Int) := HPF.out.1.1
      have y3b : (lqm : Int) - (i : Int) = (j : Int) := HPF.out.1.2.1
      have y4 : IntKind.i64.wrap ((j : Int) + (nd : Int)) = (t2 : Int) := w_nat HPF.out.1.2.2.1 (Nat.le_trans HPF.out.2.2.2.1 (by decide))
      have y5 : IntKind.i64.wrap ((t2 : Int) - 1) = (t1 : Int) := w_nat HPF.out.1.2.2.2.1 (Nat.le_trans HPF.out.2.2.2.2.2.2.2.2.1 (by decide))
      have y6 : IntKind.i64.wrap ((z2 : Int) * 1000000000) = (zz : Int) := w_nat HPF.out.2.1.1 HPF.out.2.2.2.2.1
      have y7 : IntKind.i64.wrap ((zz : Int) + (z1 : Int)) = (hi : Int) := w_nat HPF.out.2.1.2.1 HPF.out.2.2.2.2.2.1
      have y9 : IntKind.i64.wrap ((nd : Int) - 1) = (e1 : Int) := w_nat HPF.out.2.1.2.2.1 (Nat.le_trans HPF.out.2.2.2.2.2.2.1 (by decide))
      go_upto_region 16 with fail
      go_quiet (fail)
      clear y1 y2 y3 y3b y5 y6 y7
      go_upto_region 17 with fail
      go_quiet (fail)
      clear u1 u2 u3 u4 u5 u6
      have u7 : IntKind.i64.wrap ((nd : Int) - 2) = (e2 : Int) := w_nat HPF.out.2.1.2.2.2 (Nat.le_trans HPF.out.2.2.2.2.2.2.2.1 (by decide))
      have u8 : IntKind.i64.wrap ((t2 : Int) - 2) = (tz : Int) := w_nat HPF.out.1.2.2.2.2 (Nat.le_trans HPF.out.2.2.2.2.2.2.2.2.2 (by decide))
      have u9 : (nd : Int) - 1 = (e1 : Int) := HPF.out.2.1.2.2.1
      have HY := Lib.hid (And.intro y4 (And.intro y9 (And.intro u7 (And.intro u8 u9))))
      clear y4 y9 u7 u8 u9
      go_wp2_with fail
      go_loopw [16, 17] (fun gv lv wx => ∃ (g left qn : Nat), gv = .int .i64 g ∧ lv = .int .i64 left ∧ GInv hi d1 (V / D) g left ∧ wx = wr.drewN qn) (fun gv _ _ => (intOf gv).toNat)
      case atStart => exact ⟨g0, l0, _, rfl, rfl, HGI.out, World.drewN_drewN _ _ _⟩
      case round =>
        obtain ⟨g, left, qn, rfl, rfl, hg, rfl⟩ := hrel
        have HG := Lib.hid hg
        have hgd : g * d1 ≤ hi := by have := hg.eq; omega
        have hgh : g ≤ hi := Nat.le_trans (Nat.le_mul_of_pos_right _ hd0) hgd
        have hlh : left ≤ hi := by have := hg.eq; omega
        clear hgd hg
        obtain ⟨bb, hbb⟩ : ∃ bb, bb = decide (1000000000 ≤ g ∨ (left < 1000000000 ∧ left * 1000000000 + z0 < g * d2)) := ⟨_, rfl⟩
        have HBB := Lib.hid hbb
        clear hbb
        go_upto_region 18 with fail
        go_cut [131] (fun u wx => u = .bool bb ∧ ∃ q', wx = wr.drewN q')
        case first =>
          by_cases hgB : 1000000000 ≤ g
          · have r1 : decide ((1000000000 : Int) ≤ (g : Int)) = true := by simp; omega
            have hb : bb = true := by rw [HBB.out]; exact decide_eq_true (.inl hgB)
            clear hgB
            obtain ⟨y4, y9, u7, u8, u9⟩ := HY.out
            go_quiet (fail)
            go_wp2
            go_meet
            exact ⟨by rw [hb], _, World.drewN_drewN _ _ _⟩
          · have r1 : decide ((1000000000 : Int) ≤ (g : Int)) = false := by simp; omega
            by_cases hlB : left < 1000000000
            · have r2 : decide ((left : Int) < 1000000000) = true := by simp; omega
              have hgd : g * d2 ≤ 999999999999999999 := by
                have h1 : g * d2 ≤ 999999999 * 999999999 := Nat.mul_le_mul (by omega) (by omega)
                omega
              obtain ⟨gd, hgd2⟩ : ∃ gd, gd = g * d2 := ⟨_, rfl⟩
              obtain ⟨lz, hlz⟩ : ∃ lz, lz = left * 1000000000 := ⟨_, rfl⟩
              obtain ⟨lf, hlf⟩ : ∃ lf, lf = lz + z0 := ⟨_, rfl⟩
              have v1' : (g : Int) * (d2 : Int) = (gd : Int) := by rw [hgd2, Int.natCast_mul]
              have v2' : (left : Int) * 1000000000 = (lz : Int) := by omega
              have v3' : (lz : Int) + (z0 : Int) = (lf : Int) := by omega
              have v4' : gd ≤ 9000000000000000000 := by omega
              have v5' : lz ≤ 9000000000000000000 := by omega
              have v6' : lf ≤ 9000000000000000000 := by omega
              have hb : bb = decide (lf < gd) := by
                rw [HBB.out]
                refine decide_eq_decide.2 ⟨fun h => ?_, fun h => .inr ⟨hlB, by omega⟩⟩
                rcases h with h | h
                · omega
                · omega
              have VV := Lib.hid (And.intro v1' (And.intro v2' v3'))
              have HBE := Lib.hid hb
              clear hgd hgd2 hlf hlz hgB hlB hb v1' v2' v3'
              have w1' : IntKind.i64.wrap ((g : Int) * (d2 : Int)) = (gd : Int) := w_nat VV.out.1 v4'
              have w2' : IntKind.i64.wrap ((left : Int) * 1000000000) = (lz : Int) := w_nat VV.out.2.1 v5'
              have w3' : IntKind.i64.wrap ((lz : Int) + (z0 : Int)) = (lf : Int) := w_nat VV.out.2.2 v6'
              obtain ⟨y4, y9, u7, u8, u9⟩ := HY.out
              go_quiet (fail)
              go_wp2
              go_meet
              exact ⟨by rw [HBE.out], _, World.drewN_drewN _ _ _⟩
            · have r2 : decide ((left : Int) < 1000000000) = false := by simp; omega
              have hb : bb = false := by
                rw [HBB.out]
                refine decide_eq_false fun h => ?_
                rcases h with h | h
                · omega
                · omega
              clear hgB hlB
              obtain ⟨y4, y9, u7, u8, u9⟩ := HY.out
              go_quiet (fail)
              go_wp2
              go_meet
              exact ⟨by rw [hb], _, World.drewN_drewN _ _ _⟩
        case rest =>
          obtain ⟨rfl, q', rfl⟩ := hcut
          cases bb with
          | true =>
            have hc := of_decide_eq_true HBB.out.symm
            obtain ⟨hp, hnext⟩ := HG.out.step (d2 := d2) (r0 := z0) HF.out.qB HQ0.out (by unfold bsN; omega)
            obtain ⟨k, rfl⟩ : ∃ k, g = k + 1 := ⟨g - 1, by omega⟩
            rw [Nat.add_sub_cancel] at hnext
            have HN := Lib.hid hnext
            have r1 : IntKind.i64.wrap ((left : Int) + (d1 : Int)) = (left : Int) + (d1 : Int) := IntWalk.i64_in _ (by omega)
            clear hp hnext hc
            rw [show ((k + 1 : Nat) : Int) = (k : Int) + 1 from rfl]
            have u9 := HY.out.2.2.2.2
            go_wp2_with fail
            go_roundw
            case rel => exact ⟨k, left + d1, _, rfl, by go_num, HN.out, rfl⟩
            case measure => simp [intOf]
          | false =>
            have hc := of_decide_eq_false HBB.out.symm
            have hgB : g < bsN := by unfold bsN; omega
            have hex := HG.out.exit (d2 := d2) (r0 := z0) hgB HF.out.c2 (by unfold bsN; omega)
            have hnear := HF.out.near g (by omega) (by rw [← HHI.out]; exact hex)
            have hle := HG.out.le
            have hg9 : g < 1000000000 := hgB
            have hdr := digit_right (V := (V : Int)) (D := (D : Int)) (g := (g : Int)) (by omega) (by omega) (by rw [← Int.natCast_ediv]; omega) (by
              have h1 : ((g * D : Nat) : Int) < ((V + D : Nat) : Int) := by omega
              rw [Int.natCast_mul, Int.natCast_add] at h1
              exact h1)
            have HDR := Lib.hid hdr
            obtain ⟨t3, ht3⟩ : ∃ t3, t3 = j + nd + 1 := ⟨_, rfl⟩
            have q1 : (t2 : Int) + 1 = (t3 : Int) := by have := HT.out; omega
            have q2 : t3 ≤ 9000000000000000000 := by omega
            have q3 : t3 ≤ xs.length + 1 := by have := HT.out; omega
            have q4 : j ≤ t3 := by omega
            have q5 : (t3 : Int) - (j : Int) = ((nd + 1 : Nat) : Int) := by omega
            have q6 : t3 - j = nd + 1 := by omega
            have Q3 := Lib.hid ht3
            clear hc hex hnear hle hdr ht3 hgB
            have q7 : IntKind.i64.wrap ((t2 : Int) + 1) = (t3 : Int) := w_nat q1 q2
            obtain ⟨y4, y9, u7, u8, u9⟩ := HY.out
            have y4b : (j : Int) + (nd : Int) = (t2 : Int) := HPF.out.1.2.2.1
            clear y9 u7 u8 u9
            have hP : (R.take j).length = j := by rw [List.length_take]; have := HJL.out; omega
            have hdsW : ∀ q W, (wr.drewN q).grownBy W (some w1.heap.size) → SliceAt 1 intR W (.slice (some ⟨bd, od, none⟩) nd c1) dds := fun q W hg =>
              HDS.out.stable intR_stable (below_grown (drewN_below HMM.out.below q) hg HMM.out.below.size (Nat.le_refl _))
            have htk := takeAway_any (R.take j) (sgOf R j nd) (R.drop (j + (nd + 1))) dds g w1.heap.size (xs.length + 1 - j) (.slice (some ⟨bd, od, none⟩) nd c1) (wr.drewN q') (by rw [← sg_parts]; exact HMM.out.rb)
              (by rw [HSL.out, HDL.out]) (by rw [HDL.out]; omega) (hdsW q') HSD.out HDD.out hg9 (by rw [HDL.out]; omega) (by rw [hP]; omega)
            rw [hP, HDL.out] at htk
            have HTK := Lib.hid htk
            have HPL := Lib.hid hP
            have HDW := Lib.hid hdsW
            have hVZ : vz (sgOf R j nd) = (V : Int) := by rw [vz_val _ HSD.out, HV.out]
            have hDZ : vz dds = (D : Int) := by rw [vz_val _ HDD.out, HDV.out]
            have HVZ := Lib.hid hVZ
            have HDZ := Lib.hid hDZ
            have q8 : nd + 1 ≤ xs.length + 1 - j := by omega
            clear htk hP hdsW hVZ hDZ
            go_wp2_with fail
            refine HTK.out.mono ?_
            rintro e W2 ⟨ns, top, rfl, hT⟩
            have HTP := Lib.hid hT
            clear hT
            rcases HDR.out with ⟨n1, n2, n3, n4⟩ | ⟨n1, n2, n3⟩
            · obtain ⟨m1, m2, m3⟩ := tk_neg HTP.out HVZ.out HDZ.out HDL.out HDB.out n1 n3
              have r1 : decide (top < 0) = true := decide_eq_true m1
              have hP := HPL.out
              have hnl : ns.length = nd := by rw [HTP.out.len, HDL.out]
              have hpb := putBack_any (R.take j) ns (R.drop (j + (nd + 1))) dds top w1.heap.size (xs.length + 1 - j) (.slice (some ⟨bd, od, none⟩) nd c1) W2 HTP.out.block (by rw [hnl, HDL.out]) (by rw [HDL.out]; exact q8)
                (fun W hg => HDW.out q' W (grownBy_trans HTP.out.grown hg)) HTP.out.digs HDD.out m2 m3 (by rw [HDL.out]; omega) (by rw [hP]; omega)
              rw [hP, HDL.out] at hpb
              have HPB := Lib.hid hpb
              obtain ⟨k, hk⟩ : ∃ k : Nat, (g : Int) - 1 = (k : Int) := ⟨((g : Int) - 1).toNat, by
                have h1 : (0 : Int) ≤ (g : Int) - 1 := by rw [n2]; exact Int.ediv_nonneg (by omega) (by omega)
                omega⟩
              have hk9 : k < 1000000000 := by omega
              rw [hk] at n3 n4
              have HN := Lib.hid (And.intro hk (And.intro n3 n4))
              have hr2 : IntKind.i64.wrap ((g : Int) - 1) = (k : Int) := w_nat hk (by omega)
              have hk2 := hk
              clear hP hnl hpb n1 n2 n3 n4 m1 m2 m3 hk
              go_wp2_with fail
              refine HPB.out.mono ?_
              rintro e W3 ⟨ns', top', rfl, hPB⟩
              have HB3 := Lib.hid hPB
              obtain ⟨rfl, hvz⟩ := pb_done HTP.out hPB HVZ.out HDZ.out HDL.out HDB.out (by rw [HN.out.1]; exact HN.out.2.1) (by rw [HN.out.1]; exact HN.out.2.2)
              have HVN := Lib.hid hvz
              have hgrow := grownBy_trans HTP.out.grown hPB.grown
              have hnx := HMM.out.next (g := k) (W := W3) (R' := R.take j ++ ((ns' ++ [0]) ++ R.drop (j + (nd + 1)))) (grownBy_trans (grownBy_drewN (grownBy_refl wr _) q') hgrow) hPB.block
                (by
                  have h1 := hPB.len
                  rw [HDL.out] at h1
                  simp only [List.length_append, List.length_take, List.length_drop, List.length_cons, List.length_nil, h1]
                  have := HJL.out
                  omega)
                (HMM.out.inv.step HJL.out HDB.out (by rw [hPB.len, HDL.out]) hPB.digs ⟨by omega, by omega⟩ (by rw [hvz, HVZ.out, HN.out.1]) (by rw [hvz, HN.out.1]; exact HN.out.2.2))
              have HNX := Lib.hid hnx
              have hq3 : IntsB W3 w4.heap.size (List.replicate (j + 1) 0 ++ qs) := Has.kept HMM.out.qk (grownBy_trans (grownBy_drewN (grownBy_refl wr _) q') hgrow) (by have := HMM.out.qn; simp; omega)
              obtain ⟨s1, s2⟩ := hq3.cells j (by simp; omega)
              generalize (List.replicate (j + 1) 0 ++ qs)[j]'_ = u at s1
              have hjq : j < lq := by have := HIJ.out; omega
              clear hPB hvz hgrow hnx hq3
              go_wp2_with fail
              go_roundw
              case rel => exact ⟨i + 1, j, _, _, by go_num, by have := HIJ.out; omega, HNX.out⟩
              case measure => have := HIJ.out; simp [intOf]; omega
            · obtain ⟨rfl, m2⟩ := tk_pos HTP.out HVZ.out HDZ.out HDL.out HDB.out n1 n3
              have hgrow := HTP.out.grown
              have hnx := HMM.out.next (g := g) (W := W2) (R' := R.take j ++ ((ns ++ [0]) ++ R.drop (j + (nd + 1)))) (grownBy_trans (grownBy_drewN (grownBy_refl wr _) q') hgrow) HTP.out.block
                (by
                  have h1 := HTP.out.len
                  rw [HDL.out] at h1
                  simp only [List.length_append, List.length_take, List.length_drop, List.length_cons, List.length_nil, h1]
                  have := HJL.out
                  omega)
                (HMM.out.inv.step HJL.out HDB.out (by rw [HTP.out.len, HDL.out]) HTP.out.digs ⟨by omega, by omega⟩ (by rw [m2, HVZ.out]) (by rw [m2]; exact n3))
              have HNX := Lib.hid hnx
              have hq3 : IntsB W2 w4.heap.size (List.replicate (j + 1) 0 ++ qs) := Has.kept HMM.out.qk (grownBy_trans (grownBy_drewN (grownBy_refl wr _) q') hgrow) (by have := HMM.out.qn; simp; omega)
              obtain ⟨s1, s2⟩ := hq3.cells j (by simp; omega)
              generalize (List.replicate (j + 1) 0 ++ qs)[j]'_ = u at s1
              have hjq : j < lq := by have := HIJ.out; omega
              clear n1 n2 n3 m2 hgrow hnx hq3
              rw [show decide ((0 : Int) < 0) = false from rfl]
              go_wp2_with fail
              go_roundw
              case rel => exact ⟨i + 1, j, _, _, by go_num, by have := HIJ.out; omega, HNX.out⟩
              case measure => have := HIJ.out; simp [intOf]; omega
    | zero =>
      obtain rfl : i = lq := by omega
      have HMM := Lib.hid hM
      obtain ⟨hvq, hvr⟩ := hM.inv.done
      rw [HDE.out, HNE.out, Nat.mul_div_mul_right _ _ hs0] at hvq
      rw [HDE.out, HNE.out, Nat.mul_mod_mul_right] at hvr
      have hsl := hM.rb.slice (cap := xs.length + 1) (by rw [hM.rl]; exact Nat.le_refl _)
      rw [hM.rl] at hsl
      have HTR := Lib.hid (trimmed_any _ _ _ hsl (by rw [hM.rl]; omega))
      have hqk : IntsB wr w4.heap.size qs := hM.qk
      have hql : qs.length = i := by have := hM.ql; omega
      have hsq := hqk.slice (cap := i) (by omega)
      rw [hql] at hsq
      have HSQ := Lib.hid hsq
      have HVQ := Lib.hid hvq
      have HVR := Lib.hid hvr
      have HQL := Lib.hid hql
      have hnlt : n < bsN ^ K := HU.out.lt
      have HQB : Hid (n / m < bsN ^ K) := Lib.hid (Nat.lt_of_le_of_lt (Nat.div_le_self _ _) hnlt)
      have HRB : Hid (n % m < bsN ^ K) := Lib.hid (Nat.lt_of_le_of_lt (Nat.mod_le _ _) hnlt)
      have hxl3 : xs.length + 1 ≤ K + 1 := by omega
      have hik : i ≤ K + 1 := by have := HLQ.out; omega
      have HPA := Lib.hid (fun v W h => part_any v (n % m * s) s (K + 1) W h hs0 hs1 (by omega))
      obtain ⟨rr, hrr⟩ : ∃ rr, rr = n % m * s % s := ⟨_, rfl⟩
      rw [← hrr, Nat.mul_div_cancel _ hs0] at HPA
      clear hM hvq hvr hsl hqk hql hsq hnlt hij hrr
      go_wp2_with fail
      refine HTR.out.mono ?_
      rintro e W1 ⟨a6, c6, rfl, rfl, hs6⟩
      have hn6 : NatAt wr (.slice a6 (trimD R).length c6) (n % m * s) (K + 1) := trimD_nat hs6 HMM.out.inv.rd HVR.out (by rw [HMM.out.rl]; exact hxl3)
      have HN6 := Lib.hid hn6
      clear hs6 hn6
      go_wp2_with fail
      refine (HPA.out _ _ HN6.out).mono ?_
      rintro e W2 ⟨a7, l7, c7, rfl, hr7, hb7⟩
      have HR7 := Lib.hid (hr7.shrink HRB.out)
      have HB7 := Lib.hid hb7
      have HTQ := Lib.hid (trimmed_any _ _ _ (SliceAt.stable intR_stable HSQ.out hb7) (by rw [HQL.out]; omega))
      clear hr7 hb7
      go_wp2_with fail
      refine HTQ.out.mono ?_
      rintro e W3 ⟨a8, c8, rfl, rfl, hs8⟩
      have hn8 : NatAt W2 (.slice a8 (trimD qs).length c8) (n / m) (K + 1) := trimD_nat hs8 HMM.out.inv.qd HVQ.out (by rw [HQL.out]; exact hik)
      have HN8 := Lib.hid (hn8.shrink HQB.out)
      clear hs8 hn8
      go_wp2_with fail
      go_ret2
      exact ⟨a8, _, c8, a7, l7, c7, rfl, HN8.out, HR7.out, below_up (below_up HB1.out HMM.out.below HB1.out.size) HB7.out (Nat.le_trans HB1.out.size HMM.out.below.size)⟩

end Go.Proofs.YtfoehmieklldkaaDoor
