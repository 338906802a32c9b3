/- The walk of nat.part: division by a number below base. -/
import Derived.Test.YtfoehmieklldkaaDoorKnuth
namespace Go.Proofs.YtfoehmieklldkaaDoor
open Go.RowKit

structure PtM (w wr : World) (B : Nat) (ds os : List Int) (m : Int) (i : Nat) (rest : Int) : Prop where
  inv : PtInv ds m os i rest
  block : IntsB wr B (List.replicate i 0 ++ os)
  below : Below w.heap.size w wr
theorem set_zeros (i : Nat) (os : List Int) (x : Int) : (List.replicate (i + 1) 0 ++ os).set i x = List.replicate i 0 ++ (x :: os) := by
  rw [List.replicate_succ', List.append_assoc, List.set_append_right _ _ (by simp), List.length_replicate, Nat.sub_self]
  rfl
theorem PtM.step {w wr : World} {B : Nat} {ds os : List Int} {m : Int} {i : Nat} {rest : Int} (h : PtM w wr B ds os m (i + 1) rest) (hm : 0 < m) (hi : i < ds.length) (hd : Digs ds) (hB : w.heap.size ≤ B) :
    PtM w (wr.setCell ⟨B, i, none⟩ (.int .i64 ((rest * 1000000000 + ds[i]) / m))) B ds ((rest * 1000000000 + ds[i]) / m :: os) m i ((rest * 1000000000 + ds[i]) % m) := by
  refine ⟨h.inv.step hm hi (hd _ (List.getElem_mem hi)), ?_, h.below.setCell hB _⟩
  have := h.block.set i ((rest * 1000000000 + ds[i]) / m)
  rw [set_zeros] at this
  exact this
theorem PtM.drew {w wr : World} {B : Nat} {ds os : List Int} {m : Int} {i : Nat} {rest : Int} (h : PtM w wr B ds os m i rest) : PtM w wr.drew B ds os m i rest := ⟨h.inv, h.block, h.below.drew⟩
theorem pt_done {ds os : List Int} {m : Nat} {rest : Int} {n : Nat} (h : PtInv ds (m : Int) os 0 rest) (hd : Digs ds) (hv : val ds = n) (hm : 0 < m) : val os = n / m ∧ rest = ((n % m : Nat) : Int) := by
  have e := h.eq
  rw [List.drop_zero, vz_val ds hd, vz_val os h.digs, hv] at e
  have h0 := h.r0
  have h1 := h.r1
  obtain ⟨r, rfl⟩ : ∃ r : Nat, rest = r := ⟨rest.toNat, by omega⟩
  have e2 : n = m * val os + r := by
    have : ((n : Nat) : Int) = ((m * val os + r : Nat) : Int) := by rw [e, Int.natCast_add, Int.natCast_mul]
    omega
  have hr : r < m := by omega
  constructor
  · rw [e2, Nat.mul_add_div hm, Nat.div_eq_of_lt hr, Nat.add_zero]
  · rw [e2, Nat.mul_add_mod, Nat.mod_eq_of_lt hr]

def PartPost (q r K : Nat) (w : World) (e : Ending) (w' : World) : Prop := ∃ a l c, e = .returned (.tuple #[.slice a l c, .int .i64 (r : Nat)]) ∧ NatAt w' (.slice a l c) q K ∧ Below w.heap.size w w'

set_option maxRecDepth 100000 in
set_option maxHeartbeats 2000000 in
theorem part_any (v : Value) (n m K : Nat) (w : World) (h : NatAt w v n K) (hm0 : 0 < m) (hm : m < 1000000000) (hK : K ≤ 100000) :
    Calls Tryd.prog 65 #[v, .int .i64 (m : Nat)] w (PartPost (n / m) (n % m) K w) := by
  obtain ⟨ds, hs, hd, htr, hv, hl⟩ := h
  obtain ⟨a, cap, rfl, hat⟩ := ints_at hs
  have HD := Lib.hid hd
  have HV := Lib.hid hv
  have HA := Lib.hid hat
  have hmk := make_nat w (ds.length : Int) (ds.length : Int) (by omega) (by omega) (by omega)
  rw [Int.toNat_natCast] at hmk
  have hmi := madeInts w ds.length
  have hbl : Below w.heap.size w (w.alloc (.cells (madeCells #[.int .i64 0] ds.length) 3)) := (Below.refl _ _).alloc (Nat.le_refl _) _
  have HMI := Lib.hid hmi
  have HBL := Lib.hid hbl
  have s0 : IntKind.i64.wrap ((ds.length : Int) - 1) = (ds.length : Int) - 1 := IntWalk.i64_in _ (by omega)
  clear hs hd htr hv hat hmi hbl
  go_enter Tryd.func65, Tryd.ntmps65
  go_wp2_with fail
  clear hmk s0
  generalize w.alloc (.cells (madeCells #[.int .i64 0] ds.length) 3) = w1 at *
  go_loopw [7, 8, 9] (fun rv iv _ wr => ∃ (i : Nat) (rest : Int) (os : List Int), rv = .int .i64 rest ∧ iv = .int .i64 ((i : Int) - 1) ∧ i ≤ ds.length ∧ PtM w wr w.heap.size ds os (m : Nat) i rest) (fun _ iv _ _ => (intOf iv + 1).toNat)
  case atStart => exact ⟨ds.length, 0, [], rfl, rfl, Nat.le_refl _, ⟨PtInv.start ds (by omega), by simpa using HMI.out, HBL.out⟩⟩
  case round =>
    obtain ⟨i, rest, os, rfl, rfl, hi, hI⟩ := hrel
    have HI := Lib.hid hI
    have hr0 := hI.inv.r0
    have hr1 := hI.inv.r1
    clear hI
    cases i with
    | succ i =>
      have hlt : i < ds.length := hi
      obtain ⟨b, off, rfl, hc, hb, hcell⟩ := HA.out (by omega)
      have e0 := (below_cell HI.out.below hb).trans (hcell i hlt)
      have hx := HD.out ds[i] (List.getElem_mem hlt)
      have hx0 := hx.1
      have hx1 := hx.2
      obtain ⟨k0, k1⟩ := HI.out.block.cells i (by simp; omega)
      generalize (List.replicate (i + 1) 0 ++ os)[i]'_ = u at k0
      have hstep := HI.out.step (by omega) hlt HD.out (Nat.le_refl _)
      have HS := Lib.hid hstep
      rw [show ((i + 1 : Nat) : Int) - 1 = (i : Int) by omega]
      have s1 : IntKind.i64.wrap (rest * 1000000000 + ds[i]) = rest * 1000000000 + ds[i] := IntWalk.i64_in _ (by omega)
      have s2 : (0 : Int) ≤ rest * 1000000000 + ds[i] := by omega
      have s3 : rest * 1000000000 + ds[i] ≤ 2000000000000000000 := by omega
      have hbB : b ≠ w.heap.size := by omega
      clear hcell hstep hx
      go_upto_region 7 with fail
      generalize ds[i] = x at *
      generalize rest * 1000000000 + x = t at *
      have hm1 : (0 : Int) < (m : Int) := by omega
      have q2 : wrap64 (t.tdiv (m : Int)) = t / (m : Int) := by
        have h1 := Int.ediv_nonneg s2 (Int.le_of_lt hm1)
        have h2 : t / (m : Int) ≤ t := Int.ediv_le_self _ s2
        rw [Int.tdiv_eq_ediv_of_nonneg s2]
        have h3 : t ≤ 4000000000000000000 := by omega
        generalize t / (m : Int) = q at *
        unfold wrap64
        omega
      clear s1 e0
      go_region
      all_goals
        go_wp2
        go_roundw
        case rel => exact ⟨i, _, _, rfl, rfl, by omega, HS.out.drew⟩
        case measure => simp [intOf]
    | zero =>
      have hsl := HI.out.block.slice (cap := ds.length) (by have := HI.out.inv.len; simp; omega)
      rw [List.replicate_zero, List.nil_append, show os.length = ds.length from HI.out.inv.len] at hsl
      obtain ⟨hq, hr⟩ := pt_done HI.out.inv HD.out HV.out hm0
      have HT := Lib.hid (trimmed_any _ _ _ hsl (by have := HI.out.inv.len; omega))
      have HQ := Lib.hid hq
      obtain ⟨r, hrr⟩ : ∃ r, r = n % m := ⟨_, rfl⟩
      rw [← hrr] at hr
      have HR := Lib.hid hrr
      clear hrr
      obtain rfl : rest = ((r : Nat) : Int) := hr
      have hlo : os.length = ds.length := HI.out.inv.len
      have HLO := Lib.hid hlo
      clear hsl hq hlo
      rw [show ((0 : Nat) : Int) - 1 = (-1 : Int) from rfl]
      go_wp2_with fail
      refine HT.out.mono ?_
      rintro e w' ⟨a', c', rfl, rfl, hs'⟩
      have HS' := Lib.hid hs'
      clear hs'
      go_wp2_with fail
      go_ret2
      exact ⟨a', _, c', by rw [HR.out]; rfl, trimD_nat HS'.out HI.out.inv.digs HQ.out (by rw [HLO.out]; exact hl), HI.out.below⟩

end Go.Proofs.YtfoehmieklldkaaDoor
