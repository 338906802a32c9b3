/- The walks of cal's numbers: Itoa, number, at the numerals that are written. -/
import Derived.Test.YtllcgcnebofdoaaGreatDoorCalChk
import Derived.Test.YtllcgcnebofdoaaGreatDoorTools
import Derived.Test.YtllcgcnebofdoaaGreatDoorShelf
import Derived.Lib.AppendIntMem
import Derived.WalkSmall
namespace Go.Proofs.YtllcgcnebofdoaaGreatDoor
open Go.RowKit

def bs (l : List UInt8) : ByteArray := ⟨l.toArray⟩
theorem bs_data (l : List UInt8) : (bs l).data.toList = l := rfl
theorem bs_size (l : List UInt8) : (bs l).size = l.length := by simp [bs, ByteArray.size]
theorem bs_inj {a b : ByteArray} (h : a.data.toList = b.data.toList) : a = b := by
  cases a; cases b
  simp only at h
  congr 1
  exact Array.toList_inj.1 h
theorem bs_append (a b : List UInt8) : bs a ++ bs b = bs (a ++ b) := bs_inj (by simp [bs])

/-- what the library's own variables hold -/
structure Env (w : World) : Prop where
  ml : ∃ m, w.cell? ⟨0, 0, none⟩ = some (.int .i64 m)
  tab : Lib.TabIs Tryz.prog w "internal/strconv.uint64pow10" .u64 Lib.pow10Tab
theorem Env.below {w w' : World} (h : Env w) (hb : Below w.heap.size w w') : Env w' := by
  obtain ⟨m, hm⟩ := h.ml
  refine ⟨⟨m, (below_cell hb (World.block_lt_of_cell? w _ hm)).trans hm⟩, ?_⟩
  have hg : Tryz.prog.globalNamed "internal/strconv.uint64pow10" = some 1 := by kernel_rfl
  have ht := h.tab
  have hlt : 1 < w.heap.size := by
    unfold Lib.TabIs World.var? at ht
    rw [hg] at ht
    simp only [Option.bind_some] at ht
    rcases Nat.lt_or_ge 1 w.heap.size with h' | h'
    · exact h'
    · rw [Array.getElem?_eq_none h'] at ht; simp at ht
  exact var?_below hb hg hlt ht

theorem itoa_any (n : Int) (h0 : -9223372036854775808 ≤ n) (h1 : n ≤ 9223372036854775807) (w : World) (hE : Env w) :
    Calls Tryz.prog 22 #[.int .i64 n] w fun e w' => e = .returned (.string (bs (Lib.itoa n))) ∧ Below w.heap.size w w' :=
  (Tryz.strconv_Itoa n h0 h1 w hE.tab).mono fun _ _ ⟨h, k, os, hw⟩ => ⟨h, by rw [hw]; exact Lib.below_grow _ _ (Nat.le_refl _) _ _⟩
theorem trim_any (l : List UInt8) (w : World) :
    Calls Tryz.prog 69 #[.string (bs l), .string ⟨#[45]⟩] w fun e w' => e = .returned (.string (bs (Lib.trimPrefix l [45]))) ∧ w = w' :=
  (Tryz.strings_TrimPrefix (bs l) ⟨#[45]⟩ w).mono fun _ _ ⟨h, hw⟩ => ⟨h, hw.symm⟩
theorem atoi_any (n : Int) (hl : (Lib.itoa n).length ≤ 18) (w : World) :
    Calls Tryz.prog 91 #[.string (bs (Lib.itoa n))] w fun e w' => e = .returned (.tuple #[.int .i64 n, .nilIface]) ∧ Below w.heap.size w w' :=
  (Tryz.strconv_Atoi (bs (Lib.itoa n)) n (by rw [bs_size]; exact hl) (atoi_itoa n) w).mono fun _ _ ⟨h, t, hw⟩ => ⟨h, by rw [hw]; exact below_bytesWorld _ _ _⟩
theorem strcut_any (l : List UInt8) (c : UInt8) (hl : l.length < 4294967281) (w : World) (hE : Env w) :
    Calls Tryz.prog 39 #[.string (bs l), .string ⟨#[c]⟩] w fun e w' => e = .returned (.tuple #[.string (bs (Lib.cut l [c]).1), .string (bs (Lib.cut l [c]).2.1), .bool (Lib.cut l [c]).2.2]) ∧ Below w.heap.size w w' := by
  obtain ⟨m, hm⟩ := hE.ml
  exact (Tryz.strings_Cut (bs l) ⟨#[c]⟩ m w (by rw [bs_size]; exact hl) hm).mono fun _ _ ⟨h, n, hw⟩ => ⟨h, by rw [hw]; exact drewN_below (Below.refl _ _) n⟩

end Go.Proofs.YtllcgcnebofdoaaGreatDoor
