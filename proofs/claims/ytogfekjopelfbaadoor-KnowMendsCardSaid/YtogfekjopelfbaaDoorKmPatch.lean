/- The walks of know.checkEdit and know.Patch, at edits that mend. -/
import Derived.Test.YtogfekjopelfbaaDoorKmDiff
import Derived.Test.YtogfekjopelfbaaDoorWords
namespace Go.Proofs.YtogfekjopelfbaaDoor
open Go.RowKit

theorem idxB_none : ∀ (l : List UInt8) (c : UInt8), c ∉ l → Lib.indexByte l c = -1
  | [], _, _ => rfl
  | b :: l, c, h => by
    have h1 : ¬ (b == c) = true := fun q => h (by rw [beq_iff_eq.1 q]; exact List.mem_cons_self)
    have h2 := idxB_none l c (fun q => h (List.mem_cons_of_mem _ q))
    rw [Lib.indexByte, if_neg h1, h2]
    rfl
theorem idxB_at : ∀ (q : List UInt8) (c : UInt8), c ∉ q → Lib.indexByte (q ++ [c]) c = q.length
  | [], c, _ => by simp [Lib.indexByte]
  | b :: q, c, h => by
    have h1 : ¬ (b == c) = true := fun e => h (by rw [beq_iff_eq.1 e]; exact List.mem_cons_self)
    have h2 := idxB_at q c (fun e => h (List.mem_cons_of_mem _ e))
    rw [List.cons_append, Lib.indexByte, if_neg h1, h2]
    have h3 : ¬ (((q.length : Nat) : Int) == -1) = true := fun e => by have := beq_iff_eq.1 e; omega
    rw [if_neg h3]
    simp
/-- a line with its feed at its end, or none -/
def LineB (s : ByteArray) : Prop := s.data.toList ≠ [] ∧ ((10 : UInt8) ∉ s.data.toList ∨ IsLine s.data.toList)
theorem line_idx {s : ByteArray} (h : LineB s) : Lib.indexByte s.data.toList 10 = -1 ∨ Lib.indexByte s.data.toList 10 = (s.size : Int) - 1 := by
  rcases h.2 with g | ⟨q, hq, hn⟩
  · exact .inl (idxB_none _ _ g)
  · right
    have hs : s.size = s.data.toList.length := rfl
    rw [hs, hq, idxB_at q 10 hn]
    simp

theorem idx_line (s : ByteArray) (e1 : Int) (w : World) (h : Lib.indexByte s.data.toList 10 = e1) :
    Calls Tryd.prog 21 #[.string s, .int .u8 10] w fun e w' => e = .returned (.int .i64 e1) ∧ w = w' := by
  rw [← h]; exact (Tryd.strings_IndexByte s 10 w).mono fun e w' ⟨h1, h2⟩ => ⟨h1, h2.symm⟩

/-- what stands ahead of an edit -/
def Ahead (w : World) (d : Ed) (bv : Value) : Prop := bv = .pointer none ∨ ∃ b o p c : Nat, bv = .pointer (some ⟨b, o, none⟩) ∧ w.cell? ⟨b, o, none⟩ = some (.int .i64 (p : Nat)) ∧ w.cell? ⟨b, o + 1, none⟩ = some (.int .i64 (c : Nat)) ∧ p + c < d.pos ∧ b < w.heap.size

set_option maxRecDepth 100000 in
set_option maxHeartbeats 4000000 in
theorem checkEdit_ok (d : Ed) (v bv : Value) (n : Nat) (w : World) (hv : SliceAt 1 strR w v d.add) (hb : Ahead w d bv) (hn : d.pos + d.cut ≤ n) (hn2 : n ≤ 5000) (hs : d.cut ≠ 0 ∨ d.add ≠ []) (hl : ∀ s ∈ d.add, LineB s) (hal : d.add.length ≤ 100000) (hsz : ∀ s ∈ d.add, s.size ≤ 1000000) :
    Calls Tryd.prog 14 #[.agg #[.int .i64 (d.pos : Nat), .int .i64 (d.cut : Nat), v], bv, .int .i64 (n : Nat)] w fun e w' => e = .returned (.int .i64 0) ∧ Below w.heap.size w w' := by
  obtain ⟨va, vc, rfl⟩ := hv.len
  obtain ⟨pos, cut, add⟩ := d
  simp only at hv hn hs hl hal hsz ⊢
  have hbx := box1 w #[.int .i64 (pos : Nat), .int .i64 (cut : Nat), .slice va add.length vc] 38
  have HV := Lib.hid hv
  have HL := Lib.hid hl
  have HSZ := Lib.hid hsz
  have HAB := Lib.hid hb
  have hs1 : decide ((0 : Int) ≤ (pos : Int)) = true := by simp
  clear hv hl hb hsz
  have q1 : (decide ((0 : Int) ≤ (pos : Int)) && decide ((pos : Int) ≤ (n : Int))) = true := by simp; omega
  have q2 : (decide ((0 : Int) ≤ (cut : Int)) && decide ((cut : Int) ≤ (n : Int) - (pos : Int))) = true := by simp; omega
  have hw1 := within_any (pos : Int) 0 (n : Int)
  have hw2 := within_any (cut : Int) 0 ((n : Int) - (pos : Int))
  rw [q1] at hw1
  rw [q2] at hw2
  have HW1 := Lib.hid hw1
  have HW2 := Lib.hid hw2
  clear q1 q2 hw1 hw2
  go_enter Tryd.func14, Tryd.ntmps14
  go_upto_region 1 with fail
  generalize w.alloc (.cells #[.int .i64 (pos : Nat), .int .i64 (cut : Nat), .slice va add.length vc] 38) = w1 at *
  obtain ⟨hx, hbl⟩ := hbx
  have k0 := hx.cell 0
  have k1 := hx.cell 1
  have k2 := hx.cell 2
  have HX := Lib.hid hx
  have HB1 := Lib.hid hbl
  clear hx hbl
  go_wp2_with fail
  refine (HW1.out _).mono ?_
  rintro e w2 ⟨rfl, rfl⟩
  go_wp2_with fail
  refine (HW2.out _).mono ?_
  rintro e w2 ⟨rfl, rfl⟩
  go_upto_region 3 with fail
  go_cut [40] (fun u wx => u = .bool false ∧ ∃ m, wx = w1.drewN m)
  case first =>
    rcases HAB.out with rfl | ⟨b, o, p, c, rfl, e1, e2, hlt, hbw⟩
    · go_quiet (fail)
      go_wp2_with fail
      go_meet
      exact ⟨rfl, _, rfl⟩
    · have e1' := (below_cell HB1.out hbw).trans e1
      have e2' := (below_cell HB1.out hbw).trans e2
      simp only at hlt
      have u1 : IntKind.i64.wrap ((p : Int) + (c : Int)) = (p : Int) + (c : Int) := IntWalk.i64_in _ (by omega)
      have u2 : decide ((pos : Int) ≤ (p : Int) + (c : Int)) = false := by simp; omega
      go_quiet (fail)
      go_wp2_with fail
      go_meet
      exact ⟨by first | rfl | simp, _, rfl⟩
  case rest =>
    obtain ⟨rfl, m, rfl⟩ := hcut
    have HB2 := Lib.hid (drewN_below HB1.out m)
    have hc : (((cut : Int) == 0) = false) ∨ (((cut : Int) == 0) = true ∧ ((add.length : Int) == 0) = false) := by
      rcases hs with g | g
      · left; simpa using g
      · by_cases e : cut = 0
        · right
          refine ⟨by simpa using e, ?_⟩
          simpa using g
        · left; simpa using e
    have k1' : (w1.drewN m).cell? ⟨w.heap.size, 1, none⟩ = some (.int .i64 (cut : Nat)) := k1
    have k2' : (w1.drewN m).cell? ⟨w.heap.size, 2, none⟩ = some (.slice va add.length vc) := k2
    generalize w1.drewN m = w2 at *
    clear k0 k1 k2 hs
    go_upto_region 5 with fail
    go_cut [49] (fun u wx => u = .bool false ∧ wx = w2)
    case first =>
      rcases hc with g | ⟨g, g'⟩
      · have g2 : (cut == 0) = false := by simpa using g
        go_wp2_with fail
        go_meet
        exact ⟨by first | rfl | simp, rfl⟩
      · have g2 : (cut == 0) = true := by simpa using g
        have g3 : (add.length == 0) = false := by simpa using g'
        go_wp2_with fail
        go_meet
        exact ⟨by first | rfl | simp, rfl⟩
    case rest =>
      obtain ⟨rfl, rfl⟩ := hcut
      clear hc
      go_wp2_with fail
      go_loop [53, 8, 9] (fun iv _ _ => ∃ i : Nat, iv = .int .i64 i ∧ i ≤ add.length) (fun iv _ _ => add.length - (intOf iv).toNat)
      case atStart => exact ⟨0, rfl, Nat.zero_le _⟩
      case round =>
        obtain ⟨i, rfl, hi⟩ := hrel
        by_cases hlt : i < add.length
        · obtain ⟨b, off, cap', hvv, hcap, hb, hel⟩ := HV.out.at (by omega)
          cases hvv
          have c0 := (below_cell HB2.out hb).trans (strs_cell hel i add[i] (List.getElem?_eq_getElem hlt))
          have hli := HL.out add[i] (List.getElem_mem hlt)
          have hzi := HSZ.out add[i] (List.getElem_mem hlt)
          generalize add[i] = s at *
          have h1 : s.toList.isEmpty = false := by
            rw [List.isEmpty_eq_false_iff, Lib.toList_data]; exact hli.1
          have h2 : ¬ s.toList = [] := by rw [Lib.toList_data]; exact hli.1
          have hz0 : 0 < s.size := by
            have : 0 < s.data.toList.length := List.length_pos_iff.2 hli.1
            exact this
          obtain ⟨z, hz, hz2⟩ : ∃ z, Lib.indexByte s.data.toList 10 = z ∧ (z < 0 ∨ (0 ≤ z ∧ z = (s.size : Int) - 1)) := by
            rcases line_idx hli with g | g
            · exact ⟨_, g, .inl (by omega)⟩
            · exact ⟨_, g, .inr ⟨by omega, rfl⟩⟩
          have HCALL := Lib.hid (idx_line s z wc hz)
          have hzb : -5000000 ≤ z ∧ z ≤ 5000000 ∨ True := .inr trivial
          clear hel hli hz hzb
          rcases hz2 with hz | ⟨hz, hz3⟩
          · have z1 : decide ((0 : Int) ≤ z) = false := by simp; omega
            go_wp2_with fail
            refine HCALL.out.mono ?_
            rintro e w' ⟨rfl, rfl⟩
            go_wp2_with fail
            go_round
            case rel => exact ⟨i + 1, by go_num, by omega⟩
            case measure => simp [intOf]; omega
          · have z1 : decide ((0 : Int) ≤ z) = true := by simp; omega
            have z2 : decide (z < (s.size : Int) - 1) = false := by simp; omega
            have HZ3 := Lib.hid hz3
            clear hz3
            go_wp2_with fail
            refine HCALL.out.mono ?_
            rintro e w' ⟨rfl, rfl⟩
            go_wp2_with fail
            go_round
            case rel => exact ⟨i + 1, by go_num, by omega⟩
            case measure => simp [intOf]; omega
        · obtain rfl : i = add.length := by omega
          go_wp2_with fail
          go_ret
          exact ⟨rfl, HB2.out⟩

/-- what is patched so far -/
structure PI (x y : List ByteArray) (es : List Ed) (w wr : World) (ov : Value) (i : Nat) : Prop where
  own : wr.ownsRow w.heap.size 9 1 ov (madeOf x (es.take i)).1.length ((madeOf x (es.take i)).1.map Value.string)
  below : Below w.heap.size w wr

end Go.Proofs.YtogfekjopelfbaaDoor
