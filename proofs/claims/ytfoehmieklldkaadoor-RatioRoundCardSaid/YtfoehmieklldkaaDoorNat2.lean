/- The walks of staff's whole numbers: plus. -/
import Derived.Test.YtfoehmieklldkaaDoorNat
namespace Go.Proofs.YtfoehmieklldkaaDoor
open Go.RowKit

theorem bs_pos (i : Nat) : 0 < bsN ^ i := Nat.pow_pos (by unfold bsN; omega)
theorem val_lt : ∀ (ds : List Int), Digs ds → val ds < bsN ^ ds.length
  | [], _ => by simp [val]
  | d :: r, h => by
    have h1 := val_lt r (fun x hx => h x (List.mem_cons_of_mem _ hx))
    have h2 := h d List.mem_cons_self
    have h3 : d.toNat < bsN := by unfold bsN; have := h2.2; have := h2.1; omega
    simp only [val, List.length_cons, Nat.pow_succ]
    have h4 : bsN * (val r + 1) ≤ bsN * bsN ^ r.length := Nat.mul_le_mul_left _ h1
    rw [Nat.mul_comm (bsN ^ r.length)]
    rw [Nat.mul_add] at h4
    omega
/-- a trimmed row of digits: its value has no fewer digits -/
theorem val_ge (ds : List Int) (hd : Digs ds) (ht : Trim ds) (h0 : ds ≠ []) : bsN ^ (ds.length - 1) ≤ val ds := by
  have h1 := ht h0
  have h2 := hd _ (List.getLast_mem h0)
  have e := List.dropLast_concat_getLast h0
  generalize ds.getLast h0 = d at *
  have : 1 ≤ d.toNat := by have := h2.1; omega
  rw [← e, val_append]
  simp only [val, Nat.mul_zero, Nat.add_zero, List.length_append, List.length_dropLast, List.length_singleton]
  have hp := bs_pos (ds.length - 1)
  have : bsN ^ (ds.length - 1) * 1 ≤ bsN ^ (ds.length - 1) * d.toNat := Nat.mul_le_mul_left _ this
  rw [show ds.length - 1 + 1 - 1 = ds.length - 1 from by omega]
  omega
theorem trim_of_ge (ds : List Int) (hd : Digs ds) (h : ds ≠ [] → bsN ^ (ds.length - 1) ≤ val ds) : Trim ds := by
  intro h0 hz
  have hg := h h0
  have e := List.dropLast_concat_getLast h0
  have hl := val_lt ds.dropLast (fun x hx => hd x (List.dropLast_subset _ hx))
  rw [hz] at e
  rw [← e, val_append] at hg
  simp only [val, List.length_append, List.length_dropLast, List.length_singleton] at hg
  rw [List.length_dropLast] at hl
  rw [show ds.length - 1 + 1 - 1 = ds.length - 1 from by omega] at hg
  simp at hg
  omega

theorem set_mid (os : List Int) (x : Int) (r : List Int) (i : Nat) (h : os.length = i) (v : Int) : (os ++ x :: r).set i v = (os ++ [v]) ++ r := by
  subst h
  rw [List.set_append_right _ _ (Nat.le_refl _), Nat.sub_self, List.set_cons_zero]
  simp

/-! ### plus -/
structure PlusInv (w wr : World) (B : Nat) (xs ys os : List Int) (i : Nat) (c : Int) : Prop where
  le : i ≤ xs.length
  len : os.length = i
  digs : Digs os
  c0 : 0 ≤ c
  c1 : c ≤ 1
  eq : val os + bsN ^ i * c.toNat = val (xs.take i) + val (ys.take i)
  block : IntsB wr B (os ++ (xs.drop i ++ [0]))
  below : Below w.heap.size w wr
  size : B < wr.heap.size

theorem PlusInv.step {w wr : World} {B : Nat} {xs ys os : List Int} {i : Nat} {c : Int} (h : PlusInv w wr B xs ys os i c) (ha : Digs xs) (hlt : i < xs.length) (hB : w.heap.size ≤ B) (x y t : Int) (hx : xs[i] = x)
    (hy : Dig y) (hyv : val (ys.take (i + 1)) = val (ys.take i) + bsN ^ i * y.toNat) (ht : t = x + c + y) :
    PlusInv w (wr.setCell ⟨B, i, none⟩ (.int .i64 (t % 1000000000))) B xs ys (os ++ [t % 1000000000]) (i + 1) (t / 1000000000) := by
  obtain ⟨hx1, hx2⟩ := ha xs[i] (List.getElem_mem hlt)
  have hxt : xs.take (i + 1) = xs.take i ++ [xs[i]] := List.take_succ_eq_append_getElem hlt
  rw [hx] at hx1 hx2 hxt
  obtain ⟨hy1, hy2⟩ := hy
  have hc0 := h.c0
  have hc1 := h.c1
  have hdig : Dig (t % 1000000000) := ⟨by omega, by omega⟩
  refine ⟨hlt, by simp [h.len], ?_, by omega, by omega, ?_, ?_, h.below.setCell hB _, by simpa using h.size⟩
  · intro d hd'
    rw [List.mem_append, List.mem_singleton] at hd'
    rcases hd' with hd' | rfl
    · exact h.digs d hd'
    · exact hdig
  · have e := dm_split (t := t) (by omega)
    rw [val_append, h.len, hxt, val_append, List.length_take, Nat.min_eq_left h.le, hyv]
    simp only [val, Nat.mul_zero, Nat.add_zero]
    rw [Nat.pow_succ, Nat.mul_assoc (bsN ^ i) bsN]
    have e1 : t.toNat = x.toNat + c.toNat + y.toNat := by omega
    have e2 : bsN ^ i * ((t % 1000000000).toNat + bsN * (t / 1000000000).toNat) = bsN ^ i * (x.toNat + c.toNat + y.toNat) := by rw [e, e1]
    rw [Nat.mul_add, Nat.mul_add, Nat.mul_add] at e2
    have := h.eq
    omega
  · have := h.block.set i (t % 1000000000)
    generalize t % 1000000000 = v at *
    have hl := h.len
    have e : (os ++ (xs.drop i ++ [0])).set i v = (os ++ [v]) ++ (xs.drop (i + 1) ++ [0]) := by
      rw [List.drop_eq_getElem_cons hlt, List.cons_append, set_mid _ _ _ _ hl]
    rwa [e] at this

/-- the digits when the loop has ended, and their value -/
theorem PlusInv.done {w wr : World} {B : Nat} {xs ys os : List Int} {i : Nat} {c : Int} (h : PlusInv w wr B xs ys os i c) (hle : ys.length ≤ xs.length) (hend : i = xs.length ∨ (ys.length ≤ i ∧ c = 0)) :
    (os ++ xs.drop i).length = xs.length ∧ val (os ++ xs.drop i) + bsN ^ xs.length * c.toNat = val xs + val ys := by
  refine ⟨by simp [h.len]; have := h.le; omega, ?_⟩
  have e := h.eq
  rw [List.take_of_length_le (l := ys) (by omega)] at e
  rw [val_append, h.len]
  have e2 : val xs = val (xs.take i) + bsN ^ i * val (xs.drop i) := by
    have := val_append (xs.take i) (xs.drop i)
    rw [List.take_append_drop, List.length_take, Nat.min_eq_left h.le] at this
    exact this
  rcases hend with h1 | ⟨_, rfl⟩
  · subst h1
    rw [List.drop_length] at e2 ⊢
    simp only [val, Nat.mul_zero, Nat.add_zero] at e2 ⊢
    omega
  · simp at e ⊢
    omega
theorem IntsB.owns {w : World} {b base : Nat} {F : List Int} {z : Int} (h : IntsB w b (F ++ [z])) (hB : base ≤ b) (hl : F.length ≤ 1000000) : w.ownsRow base 3 1 (.slice (some ⟨b, 0, none⟩) F.length (F.length + 1)) F.length (F.map (Value.int .i64)) :=
  ⟨by simp, .inr ⟨b, F.length + 1, _, rfl, hB, h, by omega, by unfold maxLen; omega, by simp, by simp⟩⟩

/-- what the two numbers are when the longer one has come to be the first -/
structure PlusArgs (w : World) (av bv : Value) (xs ys : List Int) (n K : Nat) : Prop where
  a : SliceAt 1 intR w av xs
  b : SliceAt 1 intR w bv ys
  da : Digs xs
  db : Digs ys
  ta : Trim xs
  le : ys.length ≤ xs.length
  eq : val xs + val ys = n
  k : xs.length ≤ K

theorem infoIntA : (Tryd.prog.info? 3).map (fun i => (i.zero, i.size, i.bytes)) = some (some (.int .i64 0), 1, 8) := infoInt

theorem PlusInv.digsF {w wr : World} {B : Nat} {xs ys os : List Int} {i : Nat} {c : Int} (h : PlusInv w wr B xs ys os i c) (hd : Digs xs) : Digs (os ++ xs.drop i) := by
  intro d hd'
  rw [List.mem_append] at hd'
  rcases hd' with hd' | hd'
  · exact h.digs d hd'
  · exact hd d (List.mem_of_mem_drop hd')
theorem PlusInv.ret0 {w wr w0 : World} {B : Nat} {av bv : Value} {xs ys os : List Int} {i n K : Nat} {c : Int} (h : PlusInv w wr B xs ys os i c) (hP : PlusArgs w0 av bv xs ys n K) (hc : c = 0) (hend : i = xs.length ∨ ys.length ≤ i) :
    NatAt wr (.slice (some ⟨B, 0, none⟩) xs.length (xs.length + 1)) n (K + 1) := by
  subst hc
  obtain ⟨hl, hv⟩ := h.done hP.le (hend.imp id (fun h => ⟨h, rfl⟩))
  have hb := h.block
  rw [← List.append_assoc] at hb
  have hs := hb.slice (cap := xs.length + 1) (by rw [List.length_append, hl]; exact Nat.le_refl _)
  have hs2 := ints_take hs (n := xs.length) (by rw [List.length_append, hl]; exact Nat.le_add_right _ _)
  rw [List.take_append_of_le_length (by rw [hl]; exact Nat.le_refl _), List.take_of_length_le (by rw [hl]; exact Nat.le_refl _)] at hs2
  have hd := h.digsF hP.da
  have hvv : val (os ++ xs.drop i) = n := by have := hP.eq; simp at hv; omega
  refine ⟨_, hs2, hd, trim_of_ge _ hd (fun h0 => ?_), hvv, by rw [hl]; have := hP.k; omega⟩
  have hx0 : xs ≠ [] := by
    intro e
    apply h0
    apply List.eq_nil_of_length_eq_zero
    rw [hl, e]; rfl
  have := val_ge xs hP.da hP.ta hx0
  have := hP.eq
  rw [hl, hvv]
  omega
theorem PlusInv.ret1 {w wr w0 : World} {B : Nat} {av bv : Value} {xs ys os : List Int} {i n K : Nat} {c : Int} (h : PlusInv w wr B xs ys os i c) (hP : PlusArgs w0 av bv xs ys n K) (hc : 0 < c) (hend : i = xs.length)
    {w' : World} {v' : Value} (hs : SliceAt 1 intR w' v' ((os ++ xs.drop i) ++ [c])) : NatAt w' v' n (K + 1) := by
  have hc1 := h.c1
  have hce : c = 1 := by omega
  subst hce
  obtain ⟨hl, hv⟩ := h.done hP.le (.inl hend)
  have hd := h.digsF hP.da
  refine ⟨_, hs, ?_, ?_, ?_, ?_⟩
  · intro d hd'
    rw [List.mem_append, List.mem_singleton] at hd'
    rcases hd' with hd' | rfl
    · exact hd d hd'
    · exact ⟨by omega, by omega⟩
  · intro h0
    simp
  · rw [val_append, hl]
    have := hP.eq
    simp [val] at hv ⊢
    omega
  · rw [List.length_append, hl]
    have := hP.k
    simp; omega

set_option maxRecDepth 100000 in
set_option maxHeartbeats 1000000 in
theorem plus_any (u v : Value) (n m K : Nat) (w : World) (hu : NatAt w u n K) (hv : NatAt w v m K) (hK : K ≤ 100000) :
    Calls Tryd.prog 45 #[u, v] w (NatPost (n + m) (K + 1) w) := by
  obtain ⟨as0, hs0, hd0, ht0, hv0, hl0⟩ := hu
  obtain ⟨bs0, hs1, hd1, ht1, hv1, hl1⟩ := hv
  obtain ⟨a, cap, rfl, -⟩ := ints_at hs0
  obtain ⟨b, cap', rfl, -⟩ := ints_at hs1
  have ha : (as0.length < bs0.length → PlusArgs w (.slice b bs0.length cap') (.slice a as0.length cap) bs0 as0 (n + m) K) := (fun h => ⟨hs1, hs0, hd1, hd0, ht1, by omega, by omega, by omega⟩)
  have hb : (¬ as0.length < bs0.length → PlusArgs w (.slice a as0.length cap) (.slice b bs0.length cap') as0 bs0 (n + m) K) := (fun h => ⟨hs0, hs1, hd0, hd1, ht0, by omega, by omega, by omega⟩)
  have HA := Lib.hid ha
  have HB := Lib.hid hb
  clear hs0 hd0 ht0 hv0 hs1 hd1 ht1 hv1 ha hb
  go_enter Tryd.func45, Tryd.ntmps45
  go_upto_if 13 with fail
  go_cut [0, 1] (fun av bv wx => w = wx ∧ ∃ xs ys a capa b capb, av = .slice a xs.length capa ∧ bv = .slice b ys.length capb ∧ PlusArgs w av bv xs ys (n + m) K)
  case first =>
    by_cases hlt : as0.length < bs0.length
    · have hltb : (decide ((as0.length : Int) < (bs0.length : Int))) = true := by simpa using hlt
      go_wp2_with fail
      go_meet
      exact ⟨rfl, bs0, as0, b, cap', a, cap, rfl, rfl, HA.out hlt⟩
    · have hltb : (decide ((as0.length : Int) < (bs0.length : Int))) = false := by simpa using hlt
      go_wp2_with fail
      go_meet
      exact ⟨rfl, as0, bs0, a, cap, b, cap', rfl, rfl, HB.out hlt⟩
  case rest =>
    clear HA HB hl0 hl1
    obtain ⟨rfl, xs, ys, a', capa, b', capb, rfl, rfl, hP⟩ := hcut
    have hk := hP.k
    have hle := hP.le
    have hmk := make_nat w (xs.length : Int) ((xs.length : Int) + 1) (by omega) (by omega) (by omega)
    rw [show ((xs.length : Int) + 1).toNat = xs.length + 1 from by omega, Int.toNat_natCast] at hmk
    have hmi := madeInts w (xs.length + 1)
    have hbl : Below w.heap.size w (w.alloc (.cells (madeCells #[.int .i64 0] (xs.length + 1)) 3)) := (Below.refl _ _).alloc (Nat.le_refl _) _
    obtain ⟨w1, hcp, hI1, hbl1⟩ := copy_ints hmi (hP.a.stable intR_stable hbl) xs.length (xs.length + 1) (by omega) (by simp)
    have hbl2 := hbl1 w.heap.size w (Nat.le_refl _) hbl
    rw [show (List.replicate (xs.length + 1) (0 : Int)).drop xs.length = [0] from by simp] at hI1
    have HP := Lib.hid hP
    have HI1 := Lib.hid hI1
    have HB2 := Lib.hid hbl2
    obtain ⟨_, _, ea, hca⟩ := ints_at hP.a
    obtain ⟨_, _, eb, hcb⟩ := ints_at hP.b
    cases ea
    cases eb
    have HCA := Lib.hid hca
    have HCB := Lib.hid hcb
    clear hca hcb hP hI1 hbl2 hbl1 hmi hbl
    go_wp2_with fail
    clear hmk hcp
    go_loopw [6, 7, 8] (fun cv iv _ wr => ∃ (i : Nat) (c : Int) (os : List Int), cv = .int .i64 c ∧ iv = .int .i64 i ∧ PlusInv w wr w.heap.size xs ys os i c) (fun _ iv _ _ => xs.length - (intOf iv).toNat)
    case atStart => exact ⟨0, 0, [], rfl, rfl, ⟨by omega, rfl, (fun d h => by cases h), by omega, by omega, by simp [val], HI1.out, HB2.out, Has.lt HI1.out⟩⟩
    case round =>
      obtain ⟨i, c, os, rfl, rfl, hI⟩ := hrel
      have HI := Lib.hid hI
      have hi := hI.le
      have hc0 := hI.c0
      have hc1 := hI.c1
      clear hI
      by_cases hlt : i < xs.length
      · obtain ⟨hx0, hx1⟩ := HP.out.da xs[i] (List.getElem_mem hlt)
        have k0 := HI.out.block.cells i (by have := HI.out.len; simp; omega)
        obtain ⟨k0, k1⟩ := k0
        have e : (os ++ (xs.drop i ++ [0]))[i]'(by have := HI.out.len; simp; omega) = xs[i] := by
          rw [List.getElem_append_right (by rw [HI.out.len]; exact Nat.le_refl _)]
          simp [HI.out.len, List.getElem_append, Nat.sub_pos_of_lt hlt]
        rw [e] at k0
        clear e
        by_cases hlt2 : i < ys.length
        · obtain ⟨hy0, hy1⟩ := HP.out.db ys[i] (List.getElem_mem hlt2)
          obtain ⟨b, off, rfl, hc, hb, hcell⟩ := HCB.out (by omega)
          have k2 := (below_cell HI.out.below hb).trans (hcell i hlt2)
          have HS := Lib.hid (HI.out.step HP.out.da hlt (Nat.le_refl _) xs[i] ys[i] (xs[i] + c + ys[i]) rfl ⟨hy0, hy1⟩ (by rw [List.take_succ_eq_append_getElem hlt2, val_append]; simp [val, Nat.min_eq_left (Nat.le_of_lt hlt2)]) rfl)
          have hb' : w.heap.size ≠ b := by omega
          clear hcell
          generalize xs[i] = x at *
          generalize ys[i] = y at *
          go_wp2
          exact ⟨⟨i + 1, _, _, rfl, by simp, HS.out⟩, by simp [intOf]; omega⟩
        · by_cases hcp : 0 < c
          · have HS := Lib.hid (HI.out.step HP.out.da hlt (Nat.le_refl _) xs[i] 0 (xs[i] + c) rfl ⟨by omega, by omega⟩ (by rw [List.take_of_length_le (by omega), List.take_of_length_le (by omega)]; simp) (by omega))
            generalize xs[i] = x at *
            go_wp2
            exact ⟨⟨i + 1, _, _, rfl, by simp, HS.out⟩, by simp [intOf]; omega⟩
          · have hr := HI.out.ret0 HP.out (by omega) (.inr (by omega))
            have hbl := HI.out.below
            have HR := Lib.hid hr
            have HBL := Lib.hid hbl
            clear hr hbl
            go_wp2_with fail
            go_ret
            exact ⟨_, _, _, rfl, HR.out, HBL.out⟩
      · by_cases hcp : 0 < c
        · have hie : i = xs.length := by omega
          have hF := (HI.out.done hle (.inl hie)).1
          have hb := HI.out.block
          rw [← List.append_assoc] at hb
          have hown := hb.owns (base := w.heap.size) (Nat.le_refl _) (by omega)
          rw [hF] at hown
          have hbl := HI.out.below
          have hbs := HI.out.size
          have HOWN := Lib.hid hown
          have HBL := Lib.hid hbl
          clear hown hbl hb
          go_wp2_with (at_builtin; go_must (refine append_one rfl _ _ 80 rfl w.heap.size 3 (.int .i64 0) 1 8 Tryd.underlying80 infoInt rfl (by decide) w wr _ _ _ rfl HOWN.out _ rfl rfl rfl (by simp [Value.oneCell']) (by omega) (by omega) (by omega) HBL.out ?_); intro v' w' ho hb _ _)
          go_ret
          obtain ⟨a2, c2, rfl⟩ := owns_slice ho
          have hs2 := slice_of_owns1 (R := intR) (l := (os ++ xs.drop i) ++ [c]) (Value.int .i64) (by
            have e : ((os ++ xs.drop i) ++ [c]).length = xs.length + 1 := by rw [List.length_append, hF]; rfl
            rw [e, List.map_append]
            exact ho) (fun _ _ => rfl)
          have hr := HI.out.ret1 HP.out hcp hie hs2
          exact ⟨_, _, _, rfl, hr, hb⟩
        · have hr := HI.out.ret0 HP.out (by omega) (.inl (by omega))
          have hbl := HI.out.below
          have HR := Lib.hid hr
          have HBL := Lib.hid hbl
          clear hr hbl
          go_wp2_with fail
          go_ret
          exact ⟨_, _, _, rfl, HR.out, HBL.out⟩

end Go.Proofs.YtfoehmieklldkaaDoor
