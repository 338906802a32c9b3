/- The walks of staff's whole numbers: trimmed, small, plus, times, compare, natOf. -/
import Derived.Test.YtfoehmieklldkaaDoorRows
import Derived.Test.YtfoehmieklldkaaDoorBase
import Derived.BigQuiet
import Derived.Deep.QuietTactic
import Derived.Deep.DeepCutAuto
import Derived.Deep.CutBlock
import Derived.Deep.LoopGhost
import Derived.Laws.IdiomCopy
namespace Go.Proofs.YtfoehmieklldkaaDoor
open Go.RowKit

def bsN : Nat := 1000000000
/-- the value of digits, the lowest one first -/
def val : List Int → Nat
  | [] => 0
  | d :: r => d.toNat + bsN * val r
def Dig (d : Int) : Prop := 0 ≤ d ∧ d < 1000000000
def Digs (ds : List Int) : Prop := ∀ d ∈ ds, Dig d
/-- without a 0 at the end -/
def Trim (ds : List Int) : Prop := ∀ h : ds ≠ [], ds.getLast h ≠ 0

theorem val_append : ∀ (a b : List Int), val (a ++ b) = val a + bsN ^ a.length * val b
  | [], b => by simp [val]
  | d :: a, b => by
    simp only [List.cons_append, val, val_append a b, List.length_cons, Nat.pow_succ]
    rw [Nat.mul_add, ← Nat.mul_assoc, Nat.mul_comm bsN (bsN ^ a.length)]
    omega
theorem val_zeros : ∀ n, val (List.replicate n 0) = 0
  | 0 => rfl
  | n + 1 => by simp [List.replicate_succ, val, val_zeros n]

/-- the digits without the zeros at their end -/
def trimD (ds : List Int) : List Int := (ds.reverse.dropWhile (· == 0)).reverse
theorem trimD_snoc (ds : List Int) (d : Int) : trimD (ds ++ [d]) = if d = 0 then trimD ds else ds ++ [d] := by
  unfold trimD
  rw [List.reverse_append, List.reverse_singleton, List.singleton_append, List.dropWhile_cons]
  by_cases h : d = 0
  · simp [h]
  · simp [h]
theorem trimD_nil : trimD [] = [] := rfl
theorem revInd {α : Type} {p : List α → Prop} (h0 : p []) (h1 : ∀ l a, p l → p (l ++ [a])) (l : List α) : p l := by
  have h : ∀ l : List α, p l.reverse := by
    intro l
    induction l with
    | nil => exact h0
    | cons a l ih => rw [List.reverse_cons]; exact h1 _ _ ih
  have := h l.reverse
  rwa [List.reverse_reverse] at this
theorem trimD_val (ds : List Int) : val (trimD ds) = val ds := by
  induction ds using revInd with
  | h0 => rfl
  | h1 ds d ih =>
    rw [trimD_snoc]
    split
    · rename_i h
      rw [ih, val_append, h]
      simp [val]
    · rfl
theorem trimD_trim (ds : List Int) : Trim (trimD ds) := by
  induction ds using revInd with
  | h0 => intro h; exact absurd rfl h
  | h1 ds d ih =>
    rw [trimD_snoc]
    split
    · exact ih
    · rename_i h
      intro _
      simpa using h
theorem trimD_prefix (ds : List Int) : ∃ n, n ≤ ds.length ∧ trimD ds = ds.take n := by
  induction ds using revInd with
  | h0 => exact ⟨0, by simp, rfl⟩
  | h1 ds d ih =>
    rw [trimD_snoc]
    split
    · obtain ⟨n, hn, e⟩ := ih
      exact ⟨n, by simp; omega, by rw [e, List.take_append_of_le_length hn]⟩
    · exact ⟨ds.length + 1, by simp, by rw [List.take_of_length_le (by simp)]⟩

/-- a slice of ints, cell by cell: a plain form for the walks -/
theorem ints_at {w : World} {v : Value} {ds : List Int} (h : SliceAt 1 intR w v ds) :
    ∃ a cap, v = .slice a ds.length cap ∧ (0 < ds.length → ∃ b off, a = some ⟨b, off, none⟩ ∧ ds.length ≤ cap ∧ b < w.heap.size ∧ ∀ j (hj : j < ds.length), w.cell? ⟨b, off + j, none⟩ = some (.int .i64 ds[j])) := by
  rcases h with ⟨a, cap, rfl, rfl⟩ | ⟨b, off, cap, rfl, hc, hb, h⟩
  · exact ⟨a, cap, rfl, fun h => absurd h (by simp)⟩
  · exact ⟨_, cap, rfl, fun _ => ⟨b, off, rfl, hc, hb, fun j hj => ints_cell h j ds[j] (List.getElem?_eq_getElem hj)⟩⟩
theorem ints_take {w : World} {a : Option Addr} {cap n : Nat} {ds : List Int} (h : SliceAt 1 intR w (.slice a ds.length cap) ds) (hn : n ≤ ds.length) : SliceAt 1 intR w (.slice a n cap) (ds.take n) := by
  rcases h with ⟨a', cap', hv, rfl⟩ | ⟨b, off, cap', hv, hc, hb, h⟩
  · cases hv
    have : n = 0 := by simpa using hn
    subst this
    exact .inl ⟨a, cap, rfl, rfl⟩
  · cases hv
    have hl : (ds.take n).length = n := by simp; omega
    refine .inr ⟨b, off, cap, by rw [hl], by omega, hb, fun i hi => ?_⟩
    obtain ⟨cs, h1, h2⟩ := h i (by omega)
    exact ⟨cs, h1, by simpa using h2⟩

/-! ### trimmed -/
def TrimPost (ds : List Int) (w : World) (e : Ending) (w' : World) : Prop := ∃ a c, e = .returned (.slice a (trimD ds).length c) ∧ w = w' ∧ SliceAt 1 intR w' (.slice a (trimD ds).length c) (trimD ds)
/-- what has not been left out yet -/
structure TrimInv (ds : List Int) (k : Nat) : Prop where
  le : k ≤ ds.length
  eq : trimD (ds.take k) = trimD ds
theorem TrimInv.zero {ds : List Int} {k : Nat} (h : TrimInv ds (k + 1)) (hz : ds[k]'(h.le) = 0) : TrimInv ds k := by
  refine ⟨Nat.le_of_succ_le h.le, ?_⟩
  have := h.eq
  rw [List.take_succ_eq_append_getElem h.le, trimD_snoc, if_pos hz] at this
  exact this
theorem TrimInv.stop {ds : List Int} {k : Nat} (h : TrimInv ds k) (hz : k = 0 ∨ ∃ j, ∃ hj : j < ds.length, k = j + 1 ∧ ds[j] ≠ 0) : ds.take k = trimD ds := by
  rw [← h.eq]
  rcases hz with rfl | ⟨j, hj, rfl, hz⟩
  · rfl
  · rw [List.take_succ_eq_append_getElem hj, trimD_snoc, if_neg hz]

set_option maxRecDepth 100000 in
set_option maxHeartbeats 400000 in
theorem trimmed_any (v : Value) (ds : List Int) (w : World) (h : SliceAt 1 intR w v ds) (hl : ds.length ≤ 1000000) :
    Calls Tryd.prog 69 #[v] w (TrimPost ds w) := by
  obtain ⟨a, cap, rfl, hat⟩ := ints_at h
  have H := Lib.hid h
  have HA := Lib.hid hat
  clear h hat
  go_enter Tryd.func69, Tryd.ntmps69
  go_wp2_with fail
  go_loop [0] (fun s => ∃ k : Nat, s = .slice a k cap ∧ TrimInv ds k) (fun s => match s with | .slice _ k _ => k | _ => 0)
  case atStart => exact ⟨_, rfl, Nat.le_refl _, by rw [List.take_length]⟩
  case round =>
    obtain ⟨k, rfl, hI⟩ := hrel
    have HI := Lib.hid hI
    have hkl := hI.le
    clear hI
    cases k with
    | zero =>
      go_wp2
      go_ret
      have e : ([] : List Int) = trimD ds := by simpa using HI.out.stop (.inl rfl)
      exact ⟨a, cap, by rw [← e]; rfl, rfl, by rw [← e]; exact .inl ⟨a, cap, rfl, rfl⟩⟩
    | succ k =>
      obtain ⟨b, off, rfl, hc, hb, hcell⟩ := HA.out (by omega)
      have c0 := hcell k (by omega)
      have s1 : IntKind.i64.wrap (((k + 1 : Nat) : Int) - 1) = (k : Int) := by rw [IntWalk.i64_in _ (by omega)]; omega
      by_cases hz : ds[k] = 0
      · have hz' : (ds[k] == 0) = true := by simpa using hz
        have HZ := Lib.hid hz
        clear hz hcell
        go_wp2
        exact ⟨⟨k, rfl, HI.out.zero HZ.out⟩, Nat.lt_succ_self k⟩
      · have hz' : (ds[k] == 0) = false := by simpa using hz
        have HZ := Lib.hid hz
        clear hz hcell
        go_wp2
        go_ret
        have e := HI.out.stop (.inr ⟨k, by omega, rfl, HZ.out⟩)
        have el : (trimD ds).length = k + 1 := by rw [← e, List.length_take]; omega
        refine ⟨some ⟨b, off, none⟩, cap, ?_, rfl, ?_⟩
        · rw [el]; rfl
        · rw [el, ← e]
          exact ints_take H.out hkl

/-! ### small: times a number below the base -/
/-- a block of ints -/
def IntsB (w : World) (b : Nat) (os : List Int) : Prop := Has w b (os.map (Value.int .i64)).toArray 3
theorem IntsB.cells {w : World} {b : Nat} {os : List Int} (h : IntsB w b os) (j : Nat) (hj : j < os.length) : w.cell? ⟨b, j, none⟩ = some (.int .i64 os[j]) ∧ w.frozen? ⟨b, j, none⟩ = false := by
  refine ⟨?_, h.fz j⟩
  rw [h.cell j]
  simp [hj]
theorem IntsB.set {w : World} {b : Nat} {os : List Int} (h : IntsB w b os) (j : Nat) (n : Int) : IntsB (w.setCell ⟨b, j, none⟩ (.int .i64 n)) b (os.set j n) := by
  have := Has.set h j (.int .i64 n)
  unfold IntsB
  rw [List.map_set, ← List.setIfInBounds_toArray]
  exact this
theorem IntsB.slice {w : World} {b cap : Nat} {os : List Int} (h : IntsB w b os) (hc : os.length ≤ cap) : SliceAt 1 intR w (.slice (some ⟨b, 0, none⟩) os.length cap) os :=
  .inr ⟨b, 0, cap, rfl, hc, h.lt, fun i hi => ⟨[.int .i64 os[i]], ⟨rfl, fun j hj => by
    have hj0 : j = 0 := by simpa using hj
    subst hj0
    have := (h.cells i hi).1
    simpa using this⟩, rfl⟩⟩
theorem madeInts (w : World) (n : Nat) : IntsB (w.alloc (.cells (madeCells #[.int .i64 0] n) 3)) w.heap.size (List.replicate n 0) := by
  have : (madeCells #[.int .i64 0] n) = ((List.replicate n (0 : Int)).map (Value.int .i64)).toArray := by
    apply Array.ext
    · simp [madeCells]
    · intro i h1 h2
      simp [madeCells, Nat.mod_one]
  unfold IntsB
  rw [← this]
  exact Has.new _ _ _

/-- 'v' is a whole number: its digits, without a 0 at the end, at most K -/
def NatAt (w : World) (v : Value) (n K : Nat) : Prop := ∃ ds, SliceAt 1 intR w v ds ∧ Digs ds ∧ Trim ds ∧ val ds = n ∧ ds.length ≤ K
theorem NatAt.below {w w' : World} {v : Value} {n K : Nat} (h : NatAt w v n K) (hb : Below w.heap.size w w') : NatAt w' v n K := by
  obtain ⟨ds, h1, h2⟩ := h
  exact ⟨ds, h1.stable intR_stable hb, h2⟩
theorem trimD_nat {w : World} {v : Value} {ds : List Int} {n K : Nat} (h : SliceAt 1 intR w v (trimD ds)) (hd : Digs ds) (hv : val ds = n) (hl : ds.length ≤ K) : NatAt w v n K := by
  obtain ⟨k, hk, e⟩ := trimD_prefix ds
  refine ⟨trimD ds, h, fun d hd' => hd d ?_, trimD_trim ds, by rw [trimD_val, hv], ?_⟩
  · rw [e] at hd'; exact List.mem_of_mem_take hd'
  · rw [e, List.length_take]; omega
theorem NatAt.le {w : World} {v : Value} {n K K' : Nat} (h : NatAt w v n K) (hk : K ≤ K') : NatAt w v n K' := by
  obtain ⟨ds, h1, h2, h3, h4, h5⟩ := h
  exact ⟨ds, h1, h2, h3, h4, by omega⟩
def NatPost (n K : Nat) (w : World) (e : Ending) (w' : World) : Prop := ∃ a l c, e = .returned (.slice a l c) ∧ NatAt w' (.slice a l c) n K ∧ Below w.heap.size w w'

theorem infoInt : (Tryd.prog.info? 3).map (fun i => (i.zero, i.size, i.bytes)) = some (some (.int .i64 0), 1, 8) := by kernel_rfl

theorem make_nat (w : World) (l c : Int) (h0 : 0 ≤ l) (hlc : l ≤ c) (hc : c ≤ 1000000) :
    (Instr.makeSlice 80 (.int .i64 l) (.int .i64 c)).run Tryd.prog w = .ok (.slice (some ⟨w.heap.size, 0, none⟩) l.toNat c.toNat) (w.alloc (.cells (madeCells #[.int .i64 0] c.toNat) 3)) := by
  obtain ⟨i0, hi, hz0, hz1, hz2⟩ := info_parts infoInt
  have h := run_make (P := Tryd.prog) w 80 3 i0 (.int .i64 0) Tryd.underlying80 hi hz0 .i64 .i64 l c h0 hlc (by rw [hz2]; omega) (by omega)
  rw [h, hz1, Nat.mul_one]
  rfl

structure SmallInv (w wr : World) (B : Nat) (ds os : List Int) (m : Nat) (i : Nat) (c : Int) : Prop where
  le : i ≤ ds.length
  len : os.length = i
  digs : Digs os
  eq : val os + bsN ^ i * c.toNat = val (ds.take i) * m
  c0 : 0 ≤ c
  c1 : c ≤ m
  block : IntsB wr B (os ++ List.replicate (ds.length + 1 - i) 0)
  below : Below w.heap.size w wr

theorem dm_split {t : Int} (h : 0 ≤ t) : (t % 1000000000).toNat + bsN * (t / 1000000000).toNat = t.toNat := by
  unfold bsN
  omega
theorem set_app (os : List Int) (n : Nat) (v : Int) (hn : 0 < n) : (os ++ List.replicate n 0).set os.length v = (os ++ [v]) ++ List.replicate (n - 1) 0 := by
  obtain ⟨k, rfl⟩ : ∃ k, n = k + 1 := ⟨n - 1, by omega⟩
  rw [List.set_append_right _ _ (Nat.le_refl _), Nat.sub_self, List.replicate_succ, List.set_cons_zero, List.append_assoc]
  rfl

theorem SmallInv.step {w wr : World} {B : Nat} {ds os : List Int} {m i : Nat} {c : Int} (h : SmallInv w wr B ds os m i c) (hd : Digs ds) (hm : m < 1000000000) (hlt : i < ds.length) (hB : w.heap.size ≤ B) :
    SmallInv w (wr.setCell ⟨B, i, none⟩ (.int .i64 ((ds[i] * (m : Int) + c) % 1000000000))) B ds (os ++ [(ds[i] * (m : Int) + c) % 1000000000]) m (i + 1) ((ds[i] * (m : Int) + c) / 1000000000) := by
  obtain ⟨hx1, hx2⟩ := hd ds[i] (List.getElem_mem hlt)
  have hxt : ds.take (i + 1) = ds.take i ++ [ds[i]] := List.take_succ_eq_append_getElem hlt
  generalize hx : ds[i] = x at *
  clear hx
  have hxm : 0 ≤ x * (m : Int) := Int.mul_nonneg hx1 (by omega)
  have hxm2 : x * (m : Int) ≤ 999999999 * (m : Int) := Int.mul_le_mul_of_nonneg_right (by omega) (by omega)
  have hc0 := h.c0
  have hc1 := h.c1
  have ht : 0 ≤ x * (m : Int) + c := by omega
  have htm : x * (m : Int) + c < 1000000000 * (m : Int) + 1 := by omega
  have e1 : (x * (m : Int) + c).toNat = x.toNat * m + c.toNat := by
    obtain ⟨y, rfl⟩ : ∃ y : Nat, x = y := ⟨x.toNat, by omega⟩
    rw [show ((y : Int) * (m : Int)) = ((y * m : Nat) : Int) from (Int.natCast_mul y m).symm, Int.toNat_natCast]
    generalize y * m = ym
    omega
  generalize x * (m : Int) + c = t at *
  have hdig : Dig (t % 1000000000) := ⟨by omega, by omega⟩
  refine ⟨hlt, by simp [h.len], ?_, ?_, ?_, ?_, ?_, h.below.setCell hB _⟩
  · intro d hd'
    rw [List.mem_append, List.mem_singleton] at hd'
    rcases hd' with hd' | rfl
    · exact h.digs d hd'
    · exact hdig
  · have e := dm_split ht
    rw [val_append, h.len, hxt, val_append, List.length_take, Nat.min_eq_left h.le]
    simp only [val, Nat.mul_zero, Nat.add_zero]
    rw [Nat.pow_succ, Nat.add_mul, ← h.eq, Nat.mul_assoc (bsN ^ i) x.toNat m, Nat.mul_assoc (bsN ^ i) bsN]
    have e2 : bsN ^ i * ((t % 1000000000).toNat + bsN * (t / 1000000000).toNat) = bsN ^ i * (x.toNat * m + c.toNat) := by rw [e, e1]
    rw [Nat.mul_add, Nat.mul_add] at e2
    omega
  · omega
  · omega
  · have := h.block.set i (t % 1000000000)
    generalize t % 1000000000 = v at *
    have hl := h.len
    have e : (os ++ List.replicate (ds.length + 1 - i) 0).set i v = (os ++ [v]) ++ List.replicate (ds.length + 1 - i - 1) 0 := by
      have := set_app os (ds.length + 1 - i) v (by omega)
      rw [hl] at this
      exact this
    rw [e] at this
    rw [show ds.length + 1 - (i + 1) = ds.length + 1 - i - 1 from by omega]
    exact this

set_option maxRecDepth 100000 in
set_option maxHeartbeats 1000000 in
theorem small_any (v : Value) (n m K : Nat) (w : World) (h : NatAt w v n K) (hm : m < 1000000000) (hK : K ≤ 100000) :
    Calls Tryd.prog 66 #[v, .int .i64 (m : Nat)] w (NatPost (n * m) (K + 1) w) := by
  obtain ⟨ds, hs, hd, htr, hv, hl⟩ := h
  obtain ⟨a, cap, rfl, hat⟩ := ints_at hs
  have HD := Lib.hid hd
  have HV := Lib.hid hv
  have HA := Lib.hid hat
  have hmk := make_nat w ((ds.length : Int) + 1) ((ds.length : Int) + 1) (by omega) (by omega) (by omega)
  rw [show ((ds.length : Int) + 1).toNat = ds.length + 1 from by omega] at hmk
  have hmi := madeInts w (ds.length + 1)
  have hbl : Below w.heap.size w (w.alloc (.cells (madeCells #[.int .i64 0] (ds.length + 1)) 3)) := (Below.refl _ _).alloc (Nat.le_refl _) _
  have HMI := Lib.hid hmi
  have HBL := Lib.hid hbl
  clear hs hd htr hv hat hmi hbl
  go_enter Tryd.func66, Tryd.ntmps66
  go_wp2_with fail
  clear hmk
  generalize w.alloc (.cells (madeCells #[.int .i64 0] (ds.length + 1)) 3) = w1 at *
  go_loopw [6, 16] (fun cv iv wr => ∃ (i : Nat) (c : Int) (os : List Int), cv = .int .i64 c ∧ iv = .int .i64 i ∧ SmallInv w wr w.heap.size ds os m i c) (fun _ iv _ => ds.length - (intOf iv).toNat)
  case atStart => exact ⟨0, 0, [], rfl, rfl, ⟨by omega, rfl, (fun d h => by cases h), by simp [val], by omega, by omega, HMI.out, HBL.out⟩⟩
  case round =>
    obtain ⟨i, c, os, rfl, rfl, hI⟩ := hrel
    have HI := Lib.hid hI
    have hi := hI.le
    have hc0 := hI.c0
    have hc1 := hI.c1
    clear hI
    by_cases hlt : i < ds.length
    · obtain ⟨b, off, rfl, hc, hb, hcell⟩ := HA.out (by omega)
      have e0 := (below_cell HI.out.below hb).trans (hcell i hlt)
      have hx := HD.out ds[i] (List.getElem_mem hlt)
      have hx0 := hx.1
      have hx1 := hx.2
      have p0 : 0 ≤ ds[i] * (m : Int) := Int.mul_nonneg hx0 (by omega)
      have p1 : ds[i] * (m : Int) ≤ 999999999 * (m : Int) := Int.mul_le_mul_of_nonneg_right (by omega) (by omega)
      have hos : os.length = i := HI.out.len
      have hcl := HI.out.block.cells i (by simp; omega)
      obtain ⟨k0, k1⟩ := hcl
      generalize (os ++ List.replicate (ds.length + 1 - i) 0)[i]'_ = u at k0
      have hstep := HI.out.step HD.out hm hlt (Nat.le_refl _)
      have HS := Lib.hid hstep
      clear hcell hstep hx hos
      go_wp2
      exact ⟨⟨i + 1, _, _, rfl, by simp, HS.out⟩, by simp [intOf]; omega⟩
    · have hie : i = ds.length := by omega
      subst hie
      have hcl := HI.out.block.cells ds.length (by have := HI.out.len; simp; omega)
      obtain ⟨k0, k1⟩ := hcl
      generalize (os ++ List.replicate (ds.length + 1 - ds.length) 0)[ds.length]'_ = u at k0
      have hset : IntsB (wr.setCell ⟨w.heap.size, ds.length, none⟩ (.int .i64 c)) w.heap.size (os ++ [c]) := by
        have := HI.out.block.set ds.length c
        have e : (os ++ List.replicate (ds.length + 1 - ds.length) 0).set ds.length c = (os ++ [c]) := by
          have := set_app os (ds.length + 1 - ds.length) c (by omega)
          rw [HI.out.len] at this
          rw [this, show ds.length + 1 - ds.length - 1 = 0 from by omega]
          simp
        rwa [e] at this
      have hl1 : (os ++ [c]).length = ds.length + 1 := by simp [HI.out.len]
      have hsl := hset.slice (cap := ds.length + 1) (by omega)
      rw [hl1] at hsl
      have hbl : Below w.heap.size w (wr.setCell ⟨w.heap.size, ds.length, none⟩ (.int .i64 c)) := HI.out.below.setCell (Nat.le_refl _) _
      have htr := trimmed_any _ _ _ hsl (by omega)
      have HT := Lib.hid htr
      have HB := Lib.hid hbl
      clear htr hbl hsl hset
      go_wp2_with fail
      refine HT.out.mono ?_
      rintro e w' ⟨a', c', rfl, rfl, hs'⟩
      go_wp2
      go_ret
      refine ⟨a', _, c', rfl, trimD_nat hs' ?_ ?_ (by omega), HB.out⟩
      · intro d hd
        rw [List.mem_append, List.mem_singleton] at hd
        rcases hd with hd | rfl
        · exact HI.out.digs d hd
        · exact ⟨hc0, by omega⟩
      · have e := HI.out.eq
        rw [List.take_length, HV.out] at e
        rw [val_append, HI.out.len, ← e]
        simp [val]

/-! ### copy -/
theorem IntsB.setCells {w : World} {b : Nat} : ∀ (vs p q : List Int), IntsB w b (p ++ q) → vs.length ≤ q.length → IntsB (w.setCells b p.length (vs.map (Value.int .i64))) b (p ++ (vs ++ q.drop vs.length))
  | [], p, q, h, _ => by simpa [World.setCells] using h
  | v :: vs, p, q, h, hl => by
    cases q with
    | nil => simp at hl
    | cons x q =>
      have h1 := h.set p.length v
      rw [List.set_append_right _ _ (Nat.le_refl _), Nat.sub_self, List.set_cons_zero] at h1
      have h2 : IntsB (w.setCell ⟨b, p.length, none⟩ (.int .i64 v)) b ((p ++ [v]) ++ q) := by simpa using h1
      have h3 := IntsB.setCells vs (p ++ [v]) q h2 (by simpa using hl)
      rw [List.length_append] at h3
      simpa [World.setCells] using h3
theorem below_setCells {B b : Nat} (hB : B ≤ b) : ∀ (vs : List Value) (o : Nat) (a w : World), Below B a w → Below B a (w.setCells b o vs)
  | [], _, _, _, h => h
  | v :: r, o, a, w, h => by
    have h' : Below B a (w.setCell ⟨b, o, none⟩ v) := h.setCell hB v
    exact below_setCells hB r (o + 1) a _ h'

theorem copy_ints {w : World} {b : Nat} {os ds : List Int} (hI : IntsB w b os) {v : Value} (hs : SliceAt 1 intR w v ds) (dLen dCap : Nat) (h1 : ds.length ≤ dLen) (h2 : dLen ≤ os.length) :
    ∃ W', (∀ ty, (Builtin.copy_ #[80, 80] ty #[.slice (some ⟨b, 0, none⟩) dLen dCap, v]).run Tryd.prog w = .ok (goInt ds.length) W') ∧ IntsB W' b (ds ++ os.drop ds.length) ∧ ∀ B a, B ≤ b → Below B a w → Below B a W' := by
  obtain ⟨a, cap, rfl, hat⟩ := ints_at hs
  by_cases h0 : 0 < ds.length
  · obtain ⟨b', off, rfl, hc, hb, hcell⟩ := hat h0
    refine ⟨w.setCells b 0 (ds.map (Value.int .i64)), fun ty => ?_, ?_, fun B a hB hbl => below_setCells hB _ _ _ _ hbl⟩
    · have := run_copy_cells (P := Tryd.prog) w 80 80 ty 3 b 0 dLen dCap ⟨b', off, none⟩ ds.length cap (ds.map (Value.int .i64)) Tryd.underlying80
        (by obtain ⟨i0, hi, hz0, hz1, hz2⟩ := info_parts infoInt; rw [hi]; simp [hz1]) (by rw [List.length_map]; exact (Nat.min_eq_left h1).symm)
        (by
          intro j u hj
          rw [List.getElem?_map, Option.map_eq_some_iff] at hj
          obtain ⟨x, hx, rfl⟩ := hj
          obtain ⟨hj', rfl⟩ := List.getElem?_eq_some_iff.1 hx
          have e : (⟨b', off, none⟩ : Addr).add j = ⟨b', off + j, none⟩ := by unfold Addr.add; split <;> simp_all
          rw [e]
          exact hcell j hj')
        (by
          intro j hj
          rw [List.length_map] at hj
          rw [Nat.zero_add, (hI.cells j (by omega)).1]
          rfl)
        (by
          intro j hj
          rw [List.length_map] at hj
          rw [Nat.zero_add]
          exact (hI.cells j (by omega)).2)
        (by
          intro u hu
          rw [List.mem_map] at hu
          obtain ⟨x, _, rfl⟩ := hu
          rfl)
      rwa [List.length_map] at this
    · have := IntsB.setCells (w := w) (b := b) ds [] os hI (by omega)
      exact this
  · have : ds = [] := List.eq_nil_of_length_eq_zero (by omega)
    subst this
    refine ⟨w, fun ty => ?_, by simpa using hI, fun B a _ h => h⟩
    exact run_copy_none w _ _ ty 3 _ a dLen dCap 0 cap Tryd.underlying80 (by obtain ⟨i0, hi, hz0, hz1, hz2⟩ := info_parts infoInt; rw [hi]; simp [hz1]) (by simp)

end Go.Proofs.YtfoehmieklldkaaDoor
