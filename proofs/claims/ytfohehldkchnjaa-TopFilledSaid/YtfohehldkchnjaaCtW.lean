/- The walk of WriteByte. -/
import Derived.Test.YtfohehldkchnjaaCtB
namespace Go.Proofs.Ytfohehldkchnjaa
open Go.RowKit

set_option maxRecDepth 100000 in
set_option maxHeartbeats 2000000 in
theorem writeByte_any (B : Nat) (l : List UInt8) (c : UInt8) (z : Int) (hz : (c.toNat : Int) = z) (w : World) (h : BuildsAt w B l) (hlen : l.length ≤ 100000000) :
    Calls Try.prog 44 #[.pointer (some ⟨B, 0, none⟩), .int .u8 z] w fun e w' => e = .returned .nilIface ∧ BuildsAt w' B (l ++ [c]) ∧ Below B w w' ∧ KeepsU B w w' := by
  have hlt := h.lt
  have hbl := Lib.byteCells_length l
  have HZ := Lib.hid hz
  clear hz
  go_enter Try.func44, Try.ntmps44
  go_wp2_with fail
  refine (copyCheck_any B B (Lib.byteCells l) _ h).mono ?_
  rintro e w1 ⟨rfl, h1, hb1, hku⟩
  obtain ⟨hB, v, hbk, hown, hne⟩ := h1
  have c0 : w1.cell? ⟨B, 0, none⟩ = some (.pointer (some ⟨B, 0, none⟩)) := by rw [Lib.cell_of_heap hbk]; rfl
  have c1 : w1.cell? ⟨B, 1, none⟩ = some v := by rw [Lib.cell_of_heap hbk]; rfl
  have hB1 : B ≤ w1.heap.size := by have := hb1.size; omega
  have HKU := Lib.hid hku
  have HBK := Lib.hid hbk
  have HOW := Lib.hid hown
  have HNE := Lib.hid hne
  have HB1 := Lib.hid hb1
  obtain ⟨av, cv, rfl⟩ := owns_slice hown
  have hn : (Lib.byteCells l).length < 100000001 := by omega
  clear h hku hbk hown hne hb1 hbl
  generalize hn0 : (Lib.byteCells l).length = n at *
  have HN := Lib.hid hn0
  clear hn0
  go_wp2_with (at_builtin; go_must (refine append_one rfl _ _ 44 rfl B 5 (.int .u8 0) 1 1 Try.underlying44 byteInfo rfl (by decide) w1 w1 _ _ _ rfl HOW.out [.int .u8 z] rfl rfl rfl (by simp [Value.oneCell']) (by omega) (by omega) hB1 (Below.refl _ _) ?_); intro v' w2 ho hb2 hg2 hnn; have hg2 : w1.grownBy w2 (Value.slice av n cv).ownBlock := hg2; obtain ⟨a2, c2, rfl⟩ := owns_slice ho; have hbk2 : w2.heap[B]? = some (.cells #[.pointer (some ⟨B, 0, none⟩), .slice av n cv] 46 (0, 0)) := (hg2.block B (Array.getElem?_eq_some_iff.1 HBK.out).1 (fun e => HNE.out e.symm)).trans HBK.out; have d0 : w2.cell? ⟨B, 0, none⟩ = some (.pointer (some ⟨B, 0, none⟩)) := (by rw [Lib.cell_of_heap hbk2]; rfl); have d1 : w2.cell? ⟨B, 1, none⟩ = some (.slice av n cv) := (by rw [Lib.cell_of_heap hbk2]; rfl); have f1 : w2.frozen? ⟨B, 1, none⟩ = false := Lib.frozen_of_heap hbk2 1; have HBK2 := Lib.hid hbk2; have HO2 := Lib.hid ho; have HG2 := Lib.hid hg2; have HB2 := Lib.hid hb2; clear hbk2 ho hg2 hb2 hnn)
  go_ret
  refine ⟨rfl, .inr ?_, (HB1.out.trans HB2.out).setCell (p := ⟨B, 1, none⟩) hB _, (HKU.out.trans (KeepsU.row HOW.out HG2.out)).trans (KeepsU.set _ _)⟩
  have e : Lib.byteCells (l ++ [c]) = Lib.byteCells l ++ [.int .u8 z] := by rw [Lib.byteCells_append, ← HZ.out]; rfl
  rw [e]
  refine Lib.BuilderAt.put (T := 46) (e := 5) hB HBK2.out (bs' := Lib.byteCells l ++ [.int .u8 z]) ?_ (by decide)
  have hl2 : (Lib.byteCells l ++ [Value.int .u8 z]).length = n + 1 := by rw [List.length_append, HN.out]; rfl
  rw [hl2]
  exact HO2.out
end Go.Proofs.Ytfohehldkchnjaa
