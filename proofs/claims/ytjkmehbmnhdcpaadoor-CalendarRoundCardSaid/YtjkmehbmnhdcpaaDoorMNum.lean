/- The walks of cal's numbers: Itoa, number, at the numerals that are written. -/
import Derived.Test.YtjkmehbmnhdcpaaDoorCalChk
import Derived.Test.YtjkmehbmnhdcpaaDoorShelf
import Derived.Lib.AppendIntMem
import Derived.WalkSmall
namespace Go.Proofs.YtjkmehbmnhdcpaaDoor
open Go.RowKit

def bs (l : List UInt8) : ByteArray := ⟨l.toArray⟩
theorem bs_data (l : List UInt8) : (bs l).data.toList = l := rfl
theorem bs_size (l : List UInt8) : (bs l).size = l.length := by simp [bs, ByteArray.size]
theorem bs_inj {a b : ByteArray} (h : a.data.toList = b.data.toList) : a = b := by
  cases a; cases b
  simp only at h
  congr 1
  exact Array.toList_inj.1 h
theorem bs_append (a b : List UInt8) : bs a ++ bs b = bs (a ++ b) := bs_inj (by simp [bs])

/-- what the library's own variables hold -/
structure Env (w : World) : Prop where
  ml : ∃ m, w.cell? ⟨0, 0, none⟩ = some (.int .i64 m)
  tab : Lib.TabIs Tryd.prog w "internal/strconv.uint64pow10" .u64 Lib.pow10Tab
theorem Env.below {w w' : World} (h : Env w) (hb : Below w.heap.size w w') : Env w' := by
  obtain ⟨m, hm⟩ := h.ml
  refine ⟨⟨m, (below_cell hb (World.block_lt_of_cell? w _ hm)).trans hm⟩, ?_⟩
  have hg : Tryd.prog.globalNamed "internal/strconv.uint64pow10" = some 1 := by kernel_rfl
  have ht := h.tab
  have hlt : 1 < w.heap.size := by
    unfold Lib.TabIs World.var? at ht
    rw [hg] at ht
    simp only [Option.bind_some] at ht
    rcases Nat.lt_or_ge 1 w.heap.size with h' | h'
    · exact h'
    · rw [Array.getElem?_eq_none h'] at ht; simp at ht
  exact var?_below hb hg hlt ht

theorem itoa_any (n : Int) (h0 : -9223372036854775808 ≤ n) (h1 : n ≤ 9223372036854775807) (w : World) (hE : Env w) :
    Calls Tryd.prog 11 #[.int .i64 n] w fun e w' => e = .returned (.string (bs (Lib.itoa n))) ∧ Below w.heap.size w w' :=
  (Tryd.strconv_Itoa n h0 h1 w hE.tab).mono fun _ _ ⟨h, k, os, hw⟩ => ⟨h, by rw [hw]; exact Lib.below_grow _ _ (Nat.le_refl _) _ _⟩
theorem trim_any (l : List UInt8) (w : World) :
    Calls Tryd.prog 35 #[.string (bs l), .string ⟨#[45]⟩] w fun e w' => e = .returned (.string (bs (Lib.trimPrefix l [45]))) ∧ w = w' :=
  (Tryd.strings_TrimPrefix (bs l) ⟨#[45]⟩ w).mono fun _ _ ⟨h, hw⟩ => ⟨h, hw.symm⟩
theorem atoi_any (n : Int) (hl : (Lib.itoa n).length ≤ 18) (w : World) :
    Calls Tryd.prog 34 #[.string (bs (Lib.itoa n))] w fun e w' => e = .returned (.tuple #[.int .i64 n, .nilIface]) ∧ Below w.heap.size w w' :=
  (Tryd.strconv_Atoi (bs (Lib.itoa n)) n (by rw [bs_size]; exact hl) (atoi_itoa n) w).mono fun _ _ ⟨h, t, hw⟩ => ⟨h, by rw [hw]; exact below_bytesWorld _ _ _⟩
theorem cut_any (l : List UInt8) (c : UInt8) (hl : l.length < 4294967281) (w : World) (hE : Env w) :
    Calls Tryd.prog 15 #[.string (bs l), .string ⟨#[c]⟩] w fun e w' => e = .returned (.tuple #[.string (bs (Lib.cut l [c]).1), .string (bs (Lib.cut l [c]).2.1), .bool (Lib.cut l [c]).2.2]) ∧ Below w.heap.size w w' := by
  obtain ⟨m, hm⟩ := hE.ml
  exact (Tryd.strings_Cut (bs l) ⟨#[c]⟩ m w (by rw [bs_size]; exact hl) hm).mono fun _ _ ⟨h, n, hw⟩ => ⟨h, by rw [hw]; exact drewN_below (Below.refl _ _) n⟩

set_option maxRecDepth 100000 in
set_option maxHeartbeats 1000000 in
theorem number_ok (n : Int) (k : Nat) (hn : n.natAbs < 10 ^ (k + 1)) (hk : k ≤ 10) (w : World) (hE : Env w) :
    Calls Tryd.prog 28 #[.string (bs (Lib.itoa n)), .int .i64 ((k + 1 : Nat) : Int)] w fun e w' => e = .returned (.tuple #[.int .i64 n, .bool true]) ∧ Below w.heap.size w w' := by
  have hp : 10 ^ (k + 1) ≤ 10 ^ 11 := Nat.pow_le_pow_right (by omega) (by omega)
  have hp2 : (10 : Nat) ^ 11 = 100000000000 := by decide
  have hln := itoa_len n k hn
  have hln2 : (Lib.itoa n).length ≤ 18 := by
    rw [trim_itoa] at hln
    unfold Lib.itoa
    split
    · rw [List.length_cons]; omega
    · rw [show n.toNat = n.natAbs by omega]; omega
  have hi := fun W hW => itoa_any n (by omega) (by omega) W hW
  have ha := fun W => atoi_any n hln2 W
  have ht := fun W => trim_any (Lib.itoa n) W
  have hts : ((bs (Lib.trimPrefix (Lib.itoa n) [45])).size : Int) ≤ ((k + 1 : Nat) : Int) := by rw [bs_size]; omega
  have HI := Lib.hid hi
  have HA := Lib.hid ha
  have HT := Lib.hid ht
  have HE := Lib.hid hE
  generalize bs (Lib.trimPrefix (Lib.itoa n) [45]) = t at *
  generalize bs (Lib.itoa n) = s at *
  have hq : decide ((k : Int) + 1 < (t.size : Int)) = false := by simp; omega
  have hq2 : decide (k + 1 < t.size) = false := by simp; omega
  clear hi ha ht hE hp hp2 hln hln2 hn
  go_enter Tryd.func28, Tryd.ntmps28
  go_wp2_with fail
  refine (HA.out w).mono ?_
  rintro e w1 ⟨rfl, hb1⟩
  have HB1 := Lib.hid hb1
  clear hb1
  go_wp2_with fail
  refine (HI.out w1 (HE.out.below HB1.out)).mono ?_
  rintro e w2 ⟨rfl, hb2⟩
  have HB2 := Lib.hid (below_up' HB1.out hb2)
  clear hb2
  go_wp2_with fail
  refine (HT.out w2).mono ?_
  rintro e w3 ⟨rfl, rfl⟩
  go_wp2_with fail
  go_ret2
  exact ⟨rfl, HB2.out⟩

end Go.Proofs.YtjkmehbmnhdcpaaDoor
