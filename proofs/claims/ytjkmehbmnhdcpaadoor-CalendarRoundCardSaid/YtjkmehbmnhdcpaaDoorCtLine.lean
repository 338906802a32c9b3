/- The walks of WriteByte, and of the closure that writes a line of a calendar. -/
import Derived.Test.YtjkmehbmnhdcpaaDoorCtB
import Derived.Test.YtjkmehbmnhdcpaaDoorCtLaw
namespace Go.Proofs.YtjkmehbmnhdcpaaDoor
open Go.RowKit

set_option maxRecDepth 100000 in
set_option maxHeartbeats 2000000 in
theorem writeByte_any (B : Nat) (l : List UInt8) (c : UInt8) (z : Int) (hz : (c.toNat : Int) = z) (w : World) (h : BuildsAt w B l) (hlen : l.length ≤ 100000000) :
    Calls Tryd.prog 12 #[.pointer (some ⟨B, 0, none⟩), .int .u8 z] w fun e w' => e = .returned .nilIface ∧ BuildsAt w' B (l ++ [c]) ∧ Below B w w' ∧ KeepsU B w w' := by
  have hlt := h.lt
  have hbl := Lib.byteCells_length l
  have HZ := Lib.hid hz
  clear hz
  go_enter Tryd.func12, Tryd.ntmps12
  go_wp2_with fail
  refine (copyCheck_any B B (Lib.byteCells l) _ h).mono ?_
  rintro e w1 ⟨rfl, h1, hb1, hku⟩
  obtain ⟨hB, v, hbk, hown, hne⟩ := h1
  have c0 : w1.cell? ⟨B, 0, none⟩ = some (.pointer (some ⟨B, 0, none⟩)) := by rw [Lib.cell_of_heap hbk]; rfl
  have c1 : w1.cell? ⟨B, 1, none⟩ = some v := by rw [Lib.cell_of_heap hbk]; rfl
  have hB1 : B ≤ w1.heap.size := by have := hb1.size; omega
  have HKU := Lib.hid hku
  have HBK := Lib.hid hbk
  have HOW := Lib.hid hown
  have HNE := Lib.hid hne
  have HB1 := Lib.hid hb1
  obtain ⟨av, cv, rfl⟩ := owns_slice hown
  have hn : (Lib.byteCells l).length < 100000001 := by omega
  clear h hku hbk hown hne hb1 hbl
  generalize hn0 : (Lib.byteCells l).length = n at *
  have HN := Lib.hid hn0
  clear hn0
  go_wp2_with (at_builtin; go_must (refine append_one rfl _ _ 40 rfl B 5 (.int .u8 0) 1 1 Tryd.underlying40 byteInfo rfl (by decide) w1 w1 _ _ _ rfl HOW.out [.int .u8 z] rfl rfl rfl (by simp [Value.oneCell']) (by omega) (by omega) hB1 (Below.refl _ _) ?_); intro v' w2 ho hb2 hg2 hnn; have hg2 : w1.grownBy w2 (Value.slice av n cv).ownBlock := hg2; obtain ⟨a2, c2, rfl⟩ := owns_slice ho; have hbk2 : w2.heap[B]? = some (.cells #[.pointer (some ⟨B, 0, none⟩), .slice av n cv] 42 (0, 0)) := (hg2.block B (Array.getElem?_eq_some_iff.1 HBK.out).1 (fun e => HNE.out e.symm)).trans HBK.out; have d0 : w2.cell? ⟨B, 0, none⟩ = some (.pointer (some ⟨B, 0, none⟩)) := (by rw [Lib.cell_of_heap hbk2]; rfl); have d1 : w2.cell? ⟨B, 1, none⟩ = some (.slice av n cv) := (by rw [Lib.cell_of_heap hbk2]; rfl); have f1 : w2.frozen? ⟨B, 1, none⟩ = false := Lib.frozen_of_heap hbk2 1; have HBK2 := Lib.hid hbk2; have HO2 := Lib.hid ho; have HG2 := Lib.hid hg2; have HB2 := Lib.hid hb2; clear hbk2 ho hg2 hb2 hnn)
  go_ret
  refine ⟨rfl, .inr ?_, (HB1.out.trans HB2.out).setCell (p := ⟨B, 1, none⟩) hB _, (HKU.out.trans (KeepsU.row HOW.out HG2.out)).trans (KeepsU.set _ _)⟩
  have e : Lib.byteCells (l ++ [c]) = Lib.byteCells l ++ [.int .u8 z] := by rw [Lib.byteCells_append, ← HZ.out]; rfl
  rw [e]
  refine Lib.BuilderAt.put (T := 42) (e := 5) hB HBK2.out (bs' := Lib.byteCells l ++ [.int .u8 z]) ?_ (by decide)
  have hl2 : (Lib.byteCells l ++ [Value.int .u8 z]).length = n + 1 := by rw [List.length_append, HN.out]; rfl
  rw [hl2]
  exact HO2.out

theorem itoa_short (n : Int) (h : n.natAbs < 10 ^ 9) : (Lib.itoa n).length ≤ 10 := by
  have hln := itoa_len n 8 h
  rw [trim_itoa] at hln
  unfold Lib.itoa
  split
  · rw [List.length_cons]; omega
  · rw [show n.toNat = n.natAbs by omega]; omega
theorem nums_short : ∀ (ns : List Int), (∀ n ∈ ns, n.natAbs < 10 ^ 9) → (numsL ns).length ≤ 11 * ns.length
  | [], _ => by simp [numsL]
  | n :: r, h => by
    have ih := nums_short r (fun m hm => h m (List.mem_cons_of_mem _ hm))
    have h1 := itoa_short n (h n List.mem_cons_self)
    have e : numsL (n :: r) = 32 :: (Lib.itoa n ++ numsL r) := by unfold numsL; rw [List.flatMap_cons]; rfl
    rw [e, List.length_cons, List.length_append, List.length_cons]
    omega
theorem nums_next {ns : List Int} {i : Nat} (hi : i < ns.length) : numsL (ns.take (i + 1)) = numsL (ns.take i) ++ (32 :: Lib.itoa ns[i]) := by
  rw [List.take_succ_eq_append_getElem hi]
  unfold numsL
  rw [List.flatMap_append]
  simp
structure LiInv (w0 w wr : World) (B : Nat) (l : List UInt8) (v : Value) (ns : List Int) (i : Nat) : Prop where
  le : i ≤ ns.length
  b : BuildsAt wr B (l ++ numsL (ns.take i))
  below : Below w0.heap.size w0 wr
  nums : NumsAt wr v ns
  keeps : KeepsU B w wr
def LiPost (w0 w : World) (B : Nat) (out : List UInt8) (e : Ending) (w' : World) : Prop := (∃ u, e = .returned u) ∧ BuildsAt w' B out ∧ Below w0.heap.size w0 w' ∧ KeepsU B w w'

set_option maxRecDepth 100000 in
set_option maxHeartbeats 2000000 in
theorem line_any (B : Nat) (l word : List UInt8) (ns : List Int) (v : Value) (w0 w : World) (hE : Env w0) (hb0 : Below w0.heap.size w0 w) (hB0 : w0.heap.size ≤ B) (h : BuildsAt w B l) (hv : NumsAt w v ns) (hbd : ∀ n ∈ ns, n.natAbs < 10 ^ 9)
    (hns : ns.length ≤ 25) (hw : word.length ≤ 10) (hlen : l.length ≤ 10000000) :
    Calls Tryd.prog 9 #[.string (bs word), v, .pointer (some ⟨B, 0, none⟩)] w (LiPost w0 w B (l ++ (word ++ numsL ns ++ [10]))) := by
  obtain ⟨X, c, cells, fr, rfl, hx, hc⟩ := hv
  have HV := Lib.hid (show NumsAt w (.slice (some ⟨X, 0, none⟩) ns.length c) ns from ⟨X, c, cells, fr, rfl, hx, hc⟩)
  have HE := Lib.hid hE
  have HB0 := Lib.hid hb0
  have HBD := Lib.hid hbd
  have HNS := Lib.hid (nums_short ns hbd)
  have hw1 := write_any B l word w h (by omega)
  have H := Lib.hid h
  clear hx hc hE hb0 hbd h
  go_enter Tryd.func9, Tryd.ntmps9
  go_wp2_with fail
  refine hw1.mono ?_
  clear hw1
  rintro e w1 ⟨rfl, hbu, hbb, hku⟩
  have HST := Lib.hid (show LiInv w0 w w1 B (l ++ word) (.slice (some ⟨X, 0, none⟩) ns.length c) ns 0 from ⟨Nat.zero_le _, by rw [List.take_zero, show numsL [] = [] from rfl, List.append_nil]; exact hbu, HB0.out.trans (hbb.mono hB0), HV.out.keepsU H.out hku, hku⟩)
  clear hbu hbb hku
  go_wp2_with fail
  go_loopw [11] (fun iv wr => ∃ i : Nat, iv = .int .i64 i ∧ LiInv w0 w wr B (l ++ word) (.slice (some ⟨X, 0, none⟩) ns.length c) ns i) (fun iv _ => ns.length - (intOf iv).toNat)
  case atStart => exact ⟨0, rfl, HST.out⟩
  case round =>
    obtain ⟨i, rfl, hI⟩ := hrel
    have HI := Lib.hid hI
    have hi := hI.le
    clear hI HST
    by_cases hlt : i < ns.length
    · have c0 := HI.out.nums.cell i hlt
      have hn := HBD.out _ (List.getElem_mem hlt)
      have HNX := Lib.hid (nums_next hlt)
      have HTK := Lib.hid (show (numsL (ns.take i)).length ≤ 300 by
        have := nums_short (ns.take i) (fun m hm => HBD.out m (List.mem_of_mem_take hm))
        rw [List.length_take] at this
        omega)
      generalize ns[i] = n at *
      have hsh := itoa_short n hn
      have hit := itoa_any n (by omega) (by omega) wr (HE.out.below HI.out.below)
      have hcat : (⟨#[32]⟩ : ByteArray) ++ bs (Lib.itoa n) = bs (32 :: Lib.itoa n) := bs_append [32] (Lib.itoa n)
      have HCAT := Lib.hid hcat
      have HIT := Lib.hid hit
      have htz : (bs (Lib.itoa n)).size ≤ 10 := by rw [bs_size]; exact hsh
      have HSH := Lib.hid hsh
      clear hit hcat hn hsh
      go_wp2_with fail
      refine HIT.out.mono ?_
      clear HIT
      rintro e w2 ⟨rfl, hb2⟩
      have hw2 := write_any B (l ++ word ++ numsL (ns.take i)) (32 :: Lib.itoa n) w2 (HI.out.b.below hb2) (by
        have h1 := HTK.out
        have h2 := HSH.out
        rw [List.length_append, List.length_append, List.length_cons]
        omega)
      rw [← HCAT.out] at hw2
      have HW2 := Lib.hid hw2
      have HB2 := Lib.hid hb2
      clear hw2 hb2 c0
      generalize bs (Lib.itoa n) = t at *
      go_wp2_with fail
      refine HW2.out.mono ?_
      clear HW2
      rintro e w3 ⟨rfl, hbu, hbb, hku⟩
      have hku2 := (KeepsU.of_below (B := B) HB2.out).trans hku
      have HST := Lib.hid (show LiInv w0 w w3 B (l ++ word) (.slice (some ⟨X, 0, none⟩) ns.length c) ns (i + 1) from ⟨hlt, by rw [HNX.out, ← List.append_assoc]; exact hbu, (below_up HI.out.below HB2.out HI.out.below.size).trans (hbb.mono hB0), HI.out.nums.keepsU HI.out.b hku2, HI.out.keeps.trans hku2⟩)
      clear hbu hbb hku hku2
      go_wp2_with fail
      go_roundw
      case rel => exact ⟨i + 1, by go_num, HST.out⟩
      case measure => simp [intOf]; omega
    · obtain rfl : i = ns.length := by omega
      have hb := HI.out.b
      rw [List.take_length] at hb
      have hwb := writeByte_any B (l ++ word ++ numsL ns) 10 10 rfl wr hb (by
        have h1 := HNS.out
        rw [List.length_append, List.length_append]
        omega)
      have HWB := Lib.hid hwb
      clear hb hwb
      go_wp2_with fail
      refine HWB.out.mono ?_
      rintro e w3 ⟨rfl, hbu, hbb, hku⟩
      have HP := Lib.hid (show LiPost w0 w B (l ++ (word ++ numsL ns ++ [10])) (.returned (.tuple #[])) w3 from ⟨⟨_, rfl⟩, by simpa [List.append_assoc] using hbu, HI.out.below.trans (hbb.mono hB0), HI.out.keeps.trans hku⟩)
      clear hbu hbb hku
      go_wp2_with fail
      go_end0
      exact HP.out

end Go.Proofs.YtjkmehbmnhdcpaaDoor
