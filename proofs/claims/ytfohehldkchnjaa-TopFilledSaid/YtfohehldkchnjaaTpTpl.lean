/- The walks of know.plain, names, template, CheckTemplate at a template that is made of quoted texts and fields. -/
import Derived.Test.YtfohehldkchnjaaTpPrs
import Derived.Test.YtfohehldkchnjaaTpNam
namespace Go.Proofs.Ytfohehldkchnjaa
open Go.RowKit

def plB (c : UInt8) : Bool := !((decide (c.toNat < 32) || c.toNat == 127) && c.toNat != 10)
def plainF (l : List UInt8) : Bool := l.all plB
theorem plB_int (c : UInt8) : plB c = !((decide ((c.toNat : Int) < 32) || (c.toNat : Int) == 127) && (c.toNat : Int) != 10) := by
  unfold plB
  rw [Bool.eq_iff_iff]
  simp
  omega
theorem data_get3 (s : ByteArray) {i : Nat} (h : i < s.size) : s.data.toList[i]'(by simpa using h) = s[i] := by simp; rfl
theorem plain_next {s : ByteArray} {i : Nat} (h : i < s.size) (ha : plainF (s.data.toList.take i) = true) (hb : plB s[i] = true) : plainF (s.data.toList.take (i + 1)) = true := by
  unfold plainF at ha ⊢
  rw [List.take_succ_eq_append_getElem (by simpa using h), List.all_append, ha, data_get3 s h]
  simp [hb]
theorem plain_false {s : ByteArray} {i : Nat} (h : i < s.size) (hb : plB s[i] = false) : plainF s.data.toList = false := by
  unfold plainF
  rw [List.all_eq_false]
  refine ⟨s[i], ?_, by simp [hb]⟩
  rw [← data_get3 s h]
  exact List.getElem_mem _
set_option maxRecDepth 100000 in
set_option maxHeartbeats 2000000 in
theorem plain_any (s : ByteArray) (hs : s.size ≤ 90000000) (w : World) :
    Calls Try.prog 20 #[.string s, .bool true] w fun e w' => e = .returned (.bool (plainF s.data.toList)) ∧ w = w' := by
  go_enter Try.func20, Try.ntmps20
  go_wp2_with fail
  go_loopw [8] (fun iv wr => ∃ i : Nat, iv = .int .i64 ((i : Nat) : Int) ∧ i ≤ s.size ∧ plainF (s.data.toList.take i) = true ∧ wr = w) (fun iv _ => s.size - (intOf iv).toNat)
  case atStart => exact ⟨0, rfl, Nat.zero_le _, rfl, rfl⟩
  case round =>
    obtain ⟨i, rfl, hi, hall, rfl⟩ := hrel
    by_cases hlt : i < s.size
    · have HNF := Lib.hid (fun h => plain_false (s := s) hlt h)
      have HNX := Lib.hid (fun h => plain_next hlt hall h)
      go_upto_region 4 with fail
      have HNI := Lib.hid (plB_int s[i])
      go_cut [30] (fun v wx => v = .bool (!plB s[i]) ∧ wx = wr)
      case first =>
        clear HNF HNX hall
        go_wp2_with fail
        all_goals go_meet
        all_goals (refine ⟨?_, rfl⟩; rw [HNI.out]; congr 1; rw [Bool.eq_iff_iff]; simp; omega)
      case rest =>
        obtain ⟨rfl, rfl⟩ := hcut
        cases hb : plB s[i] with
        | true =>
          have HNX2 := Lib.hid (HNX.out hb)
          clear HNI HNF HNX hall hb
          go_wp2_with fail
          go_roundw
          case rel => exact ⟨i + 1, by go_num, hlt, HNX2.out, by trivial⟩
          case measure => simp [intOf]; omega
        | false =>
          have HNX2 := Lib.hid (HNF.out hb)
          clear HNI HNF HNX hall hb
          go_wp2_with fail
          go_ret
          exact ⟨by rw [HNX2.out]; rfl, rfl⟩
    · obtain rfl : i = s.size := by omega
      have hfull : plainF s.data.toList = true := by
        rw [List.take_of_length_le (by rw [Array.length_toList]; exact Nat.le_refl _)] at hall
        exact hall
      have HN := Lib.hid hfull
      clear hall hfull
      go_wp2_with fail
      go_ret
      exact ⟨by rw [HN.out]; rfl, rfl⟩

/-- a slice of fields in memory -/
def fdR (_ : World) (cs : List Value) (f : Fd) : Prop := cs = encF f
theorem fdR_stable : Stable fdR := fun _ _ _ _ h _ => h
def Flds (w : World) (v : Value) (l : List Fd) : Prop := SliceAt 4 fdR w v l
theorem Flds.below {w w' : World} {v : Value} {l : List Fd} (h : Flds w v l) (hb : Below w.heap.size w w') : Flds w' v l := SliceAt.stable fdR_stable h hb
theorem Flds.of {w : World} {B : Nat} {v : Value} {l : List Fd} (h : w.ownsRow B 48 4 v l.length (l.flatMap encF)) : Flds w v l := slice_of_owns encF h (fun _ _ => rfl) (fun _ _ => rfl)
theorem Flds.at {w : World} {v : Value} {l : List Fd} (h : Flds w v l) (hl : 0 < l.length) : ∃ b off cap, v = .slice (some ⟨b, off, none⟩) l.length cap ∧ b < w.heap.size ∧
    ∀ i (hi : i < l.length), w.cell? ⟨b, off + i * 4, none⟩ = some (.string (bs l[i].name)) ∧ w.cell? ⟨b, off + i * 4 + 1, none⟩ = some (.int .u8 l[i].kind) ∧ w.cell? ⟨b, off + i * 4 + 2, none⟩ = some (.string (bs l[i].one)) ∧ w.cell? ⟨b, off + i * 4 + 3, none⟩ = some (.string (bs l[i].two)) := by
  obtain ⟨b, off, cap, hv, hc, hb, hel⟩ := SliceAt.at h hl
  refine ⟨b, off, cap, hv, hb, fun i hi => ?_⟩
  obtain ⟨cs, ⟨_, h2⟩, hr⟩ := hel i hi
  cases hr
  exact ⟨h2 0 (by show 0 < 4; decide), h2 1 (by show 1 < 4; decide), h2 2 (by show 2 < 4; decide), h2 3 (by show 3 < 4; decide)⟩
theorem bs_isEmpty (u : List UInt8) : (bs u).toList.isEmpty = u.isEmpty := by rw [ByteArray.toList_eq]; rfl
theorem namesF_snoc (l : List Fd) (i : Nat) (hi : i < l.length) : namesF (l.take (i + 1)) = namesF (l.take i) ++ (if l[i].name = [] then [] else [l[i].name]) := by
  rw [List.take_succ_eq_append_getElem hi, namesF_append]
  congr 1
  unfold namesF
  by_cases e : l[i].name = [] <;> simp [e]

set_option maxRecDepth 100000 in
set_option maxHeartbeats 4000000 in
theorem names_any (l : List Fd) (v : Value) (w : World) (h : Flds w v l) (hl : l.length ≤ 100000) :
    Calls Try.prog 22 #[v] w fun e w' => (∃ a c, e = .returned (.slice a (namesF l).length c) ∧ w'.ownsRow w.heap.size 9 1 (.slice a (namesF l).length c) (namesF l).length ((namesF l).map fun u => Value.string (bs u))) ∧ Below w.heap.size w w' := by
  obtain ⟨va, vc, rfl⟩ := SliceAt.len h
  have H := Lib.hid h
  clear h
  go_enter Try.func22, Try.ntmps22
  go_wp2_with fail
  go_loopw [3, 8] (fun ov iv wr => ∃ i : Nat, iv = .int .i64 ((i : Nat) : Int) ∧ i ≤ l.length ∧ wr.ownsRow w.heap.size 9 1 ov (namesF (l.take i)).length ((namesF (l.take i)).map fun u => Value.string (bs u)) ∧ Below w.heap.size w wr) (fun _ iv _ => l.length - (intOf iv).toNat)
  case atStart => exact ⟨0, rfl, Nat.zero_le _, World.ownsRow_nil _ _ _ _, Below.refl _ _⟩
  case round =>
    obtain ⟨i, rfl, hi, ho, hb⟩ := hrel
    obtain ⟨oa, oc, rfl⟩ := owns_slice ho
    have HO := Lib.hid ho
    have HB := Lib.hid hb
    clear ho hb
    by_cases hlt : i < l.length
    · obtain ⟨b, of', cap', hv, hb, hel⟩ := Flds.at H.out (by omega)
      cases hv
      obtain ⟨e0, e1, e2, e3⟩ := hel i hlt
      have c0 := (below_cell HB.out hb).trans e0
      have c1 := (below_cell HB.out hb).trans e1
      have c2 := (below_cell HB.out hb).trans e2
      have c3 := (below_cell HB.out hb).trans e3
      have HNS := Lib.hid (namesF_snoc l i hlt)
      have hnl : (namesF (l.take i)).length ≤ 100000 := by
        unfold namesF
        rw [List.length_map]
        have h1 := List.length_filter_le (fun f : Fd => f.name != []) (l.take i)
        rw [List.length_take] at h1
        omega
      clear hel e0 e1 e2 e3
      generalize l[i] = f at *
      generalize hnm : namesF (l.take i) = nm at *
      clear hnm
      obtain ⟨bx, bbl⟩ := box1 wr #[.string (bs f.name), .int .u8 f.kind, .string (bs f.one), .string (bs f.two)] 48
      have HB4 := Lib.hid (below_up HB.out bbl HB.out.size)
      have HO4 := Lib.hid (owns_below HO.out bbl)
      have hs4 : w.heap.size ≤ (wr.alloc (.cells #[.string (bs f.name), .int .u8 f.kind, .string (bs f.one), .string (bs f.two)] 48)).heap.size := HB4.out.size
      have k0 := bx.cell 0
      go_upto_region 5 with fail
      generalize wr.alloc (.cells #[.string (bs f.name), .int .u8 f.kind, .string (bs f.one), .string (bs f.two)] 48) = w4 at *
      generalize wr.heap.size = D at *
      clear bx bbl c0 c1 c2 c3 HO HB
      have hem := bs_isEmpty f.name
      generalize hbn : bs f.name = bn at *
      cases hf : f.name.isEmpty with
      | true =>
        rw [hf] at hem
        have HFE := Lib.hid (show f.name = [] from List.isEmpty_iff.1 hf)
        clear hf hbn
        go_wp2_with fail
        go_roundw
        case rel => exact ⟨i + 1, by go_num, hlt, by rw [HNS.out, if_pos HFE.out, List.append_nil]; exact HO4.out, HB4.out⟩
        case measure => simp [intOf]; omega
      | false =>
        rw [hf] at hem
        have HFE := Lib.hid (show f.name ≠ [] from fun e => by rw [e] at hf; cases hf)
        have HBN := Lib.hid hbn
        clear hf hbn
        go_wp2_with (at_builtin; go_must (refine append_one rfl _ _ 22 rfl w.heap.size 9 (.string ⟨#[]⟩) 1 16 Try.underlying22 infoStr rfl (by decide) w4 w4 _ _ _ rfl HO4.out [.string bn] rfl rfl rfl (by simp [Value.oneCell']) (by omega) (by omega) hs4 (Below.refl _ _) ?_); intro v' w6 ho hb6 hg6 hnn; obtain ⟨na, nc, rfl⟩ := owns_slice ho; have HO6 := Lib.hid ho; have HB6 := Lib.hid hb6; clear ho hb6 hg6 hnn)
        go_roundw
        case rel =>
          refine ⟨i + 1, by go_num, hlt, ?_, HB4.out.trans HB6.out⟩
          rw [HNS.out, if_neg HFE.out, List.length_append, List.map_append]
          have h := HO6.out
          rw [← HBN.out] at h
          exact h
        case measure => simp [intOf]; omega
    · obtain rfl : i = l.length := by omega
      have hoo := HO.out
      rw [List.take_length] at hoo
      have HOO := Lib.hid hoo
      clear hoo
      rw [List.take_length]
      clear HO
      go_wp2_with fail
      go_ret
      exact ⟨⟨oa, oc, rfl, HOO.out⟩, HB.out⟩
end Go.Proofs.Ytfohehldkchnjaa
