/- The walk of cal.Shown, at a right zone and a local time. -/
import Derived.Test.YtbafldhhhbdhhaaDoorParts
namespace Go.Proofs.YtbafldhhhbdhhaaDoor
open Go.RowKit

theorem rowOf_at (l : List Pt) (i : Nat) (hi : i < l.length) : (rowOf l)[i * 3]? = some (.int .i64 l[i].f) ∧ (rowOf l)[i * 3 + 1]? = some (.int .i64 l[i].t) ∧ (rowOf l)[i * 3 + 2]? = some (.int .i64 l[i].o) := by
  have h : ∀ x ∈ l, (partCells x).length = 3 := fun _ _ => rfl
  refine ⟨?_, ?_, ?_⟩
  · have := flatMap_at partCells 3 l h i 0 hi (by omega)
    simpa [rowOf, partCells] using this
  · have := flatMap_at partCells 3 l h i 1 hi (by omega)
    simpa [rowOf, partCells] using this
  · have := flatMap_at partCells 3 l h i 2 hi (by omega)
    simpa [rowOf, partCells] using this
theorem prts_off : ∀ (cs : List (Int × Int)) (at_ off f : Int), ZOk at_ off cs → -1440 ≤ off → off ≤ 1440 → ∀ p ∈ prts f off cs, -1440 ≤ p.o ∧ p.o ≤ 1440
  | [], _, _, _, _, h1, h2, p, hp => by
    simp only [prts, List.mem_singleton] at hp
    subst hp; exact ⟨h1, h2⟩
  | (a, o) :: r, at_, off, f, h, h1, h2, p, hp => by
    obtain ⟨_, h4, _, _, h5⟩ := h
    simp only [prts, List.mem_cons] at hp
    rcases hp with rfl | hp
    · exact ⟨h1, h2⟩
    · exact prts_off r a o a h5 h4.1 h4.2 p hp

theorem infoInt : (Tryd.prog.info? 3).map (fun i => (i.zero, i.size, i.bytes)) = some (some (.int .i64 0), 1, 8) := by kernel_rfl
def intsV (l : List Int) : List Value := l.map (Value.int .i64)
structure ShInv (T : Int) (ps : List Pt) (w3 wr : World) (lv : Value) (i : Nat) : Prop where
  le : i ≤ ps.length
  own : wr.ownsRow w3.heap.size 3 1 lv (shownAt T (ps.take i)).length (intsV (shownAt T (ps.take i)))
  below : Below w3.heap.size w3 wr
def ShownPost (off : Int) (cs : List (Int × Int)) (T : Int) (w : World) (e : Ending) (w' : World) : Prop :=
  ∃ a c, e = .returned (.tuple #[.slice a (shownAt T (prts 0 off cs)).length c, .int .i64 0]) ∧ SliceAt 1 intR w' (.slice a (shownAt T (prts 0 off cs)).length c) (shownAt T (prts 0 off cs)) ∧ Below w.heap.size w w'

set_option maxRecDepth 100000 in
set_option maxHeartbeats 4000000 in
theorem Shown_any (off : Int) (v : Value) (cs : List (Int × Int)) (d mi : Int) (w : World) (h : Changes w v cs) (hz : ZoneOk off cs) (hzc : zcode off cs = 0) (hd1 : -1 ≤ d) (hd2 : d ≤ 2084) (hm1 : 0 ≤ mi) (hm2 : mi ≤ 1439) :
    Calls Tryd.prog 14 #[.agg #[.int .i64 off, v], .int .i64 d, .int .i64 mi] w (ShownPost off cs (d * 1440 + mi) w) := by
  obtain ⟨a, cap, rfl⟩ := SliceAt.len h
  have H := Lib.hid h
  have hcz := CheckZone_any off (.slice a cs.length cap) cs
  rw [hzc] at hcz
  have HCZ := Lib.hid hcz
  have hlt := localTime_any d mi
  rw [show ltI d mi = 0 by unfold ltI; rw [if_pos ⟨⟨hd1, hd2⟩, ⟨hm1, hm2⟩⟩]] at hlt
  have HLT := Lib.hid hlt
  have hlen := hz.len
  have HPO := Lib.hid (prts_off cs 0 off 0 hz.ok hz.o1 hz.o2)
  clear h hz hzc hcz hlt
  have hbx := box1 w #[.int .i64 off, .slice a cs.length cap] 24
  go_enter Tryd.func14, Tryd.ntmps14
  go_upto_region 1 with fail
  generalize w.alloc (.cells #[.int .i64 off, .slice a cs.length cap] 24) = w2 at *
  obtain ⟨hx, hbl⟩ := hbx
  have HX := Lib.hid hx
  have HB2 := Lib.hid hbl
  have k0 := hx.cell 0
  have k1 := hx.cell 1
  clear hx hbl
  go_wp2_with fail
  refine (HCZ.out w2 (H.out.below HB2.out)).mono ?_
  rintro e w3 ⟨rfl, hb3⟩
  have HX3 := Lib.hid (HX.out.below hb3 HX.out.lt)
  have HB3 := Lib.hid (below_up HB2.out hb3 HB2.out.size)
  clear k0 k1 hb3
  go_wp2_with fail
  refine (HLT.out _).mono ?_
  rintro e w4 ⟨rfl, rfl⟩
  go_wp2_with fail
  refine (or_any _ [0, 0] _ (ints2_at w3 _ _ _) (by simp)).mono ?_
  rintro e w5 ⟨rfl, rfl⟩
  rw [show orI [0, 0] = 0 from by decide]
  have hb4 : Below w3.heap.size w3 (w3.alloc (.cells #[.int .i64 0, .int .i64 0] 26)) := (Below.refl _ _).alloc (Nat.le_refl _) _
  have HX4 := Lib.hid (HX3.out.below hb4 HX3.out.lt)
  have HB4 := Lib.hid (below_up HB3.out hb4 HB3.out.size)
  clear hb4
  generalize w3.alloc (.cells #[.int .i64 0, .int .i64 0] 26) = w4 at *
  have k0 := HX4.out.cell 0
  have k1 := HX4.out.cell 1
  go_wp2_with fail
  refine (parts_any off _ cs w4 (H.out.below HB4.out) hlen).mono ?_
  rintro e w5 ⟨a5, c5, rfl, hown5, hb5⟩
  have HB5 := Lib.hid (below_up HB4.out hb5 HB4.out.size)
  obtain ⟨g, cg, hgv⟩ := ownsRow_succ hown5
  cases hgv
  have hps := prts_length cs 0 off
  obtain ⟨T, hT⟩ : ∃ T, T = d * 1440 + mi := ⟨_, rfl⟩
  have HT := Lib.hid hT
  have hT1 : -1440 ≤ T := by omega
  have hT2 : T ≤ 3002399 := by omega
  obtain ⟨ps, hpq⟩ : ∃ ps, ps = prts 0 off cs := ⟨_, rfl⟩
  rw [← hpq] at hps hown5
  have HPQ := Lib.hid hpq
  have HO5 := Lib.hid hown5
  have hg5 := hown5.lt g rfl
  obtain ⟨hg1, hg2⟩ := hg5
  have HPS := Lib.hid hps
  have HT3 := Lib.hid (show d * 1440 + mi = T from hT.symm)
  clear k0 k1 hb5 hown5 hps hpq hT
  go_wp2_with fail
  go_loopw [9, 11, 12, 26] (fun lv _ _ iv wr => ∃ i : Nat, iv = .int .i64 i ∧ ShInv T ps w5 wr lv i) (fun _ _ _ iv _ => cs.length + 1 - (intOf iv).toNat)
  case atStart => exact ⟨0, rfl, Nat.zero_le _, World.ownsRow_nil _ _ _ _, Below.refl _ _⟩
  case round =>
    obtain ⟨i, rfl, hI⟩ := hrel
    have HI := Lib.hid hI
    have hi := hI.le
    rw [HPS.out] at hi
    clear hI
    by_cases hlt : i < cs.length + 1
    · have hltp : i < ps.length := by rw [HPS.out]; exact hlt
      obtain ⟨r0, r1, r2⟩ := rowOf_at ps i hltp
      have c0 := (below_cell HI.out.below hg2).trans ((HO5.out.cellAt (i * 3) (by omega)).trans r0)
      have c1 := (below_cell HI.out.below hg2).trans ((HO5.out.cellAt (i * 3 + 1) (by omega)).trans r1)
      have c2 := (below_cell HI.out.below hg2).trans ((HO5.out.cellAt (i * 3 + 2) (by omega)).trans r2)
      have hpo := HPO.out ps[i] (by rw [← HPQ.out]; exact List.getElem_mem hltp)
      have htk : ps.take (i + 1) = ps.take i ++ [ps[i]] := List.take_succ_eq_append_getElem hltp
      generalize ps[i] = x at *
      obtain ⟨pf, pt, po⟩ := x
      simp only at c0 c1 c2 hpo
      obtain ⟨hp1, hp2⟩ := hpo
      have hsn := shownAt_snoc T ⟨pf, pt, po⟩ (ps.take i)
      rw [← htk] at hsn
      simp only at hsn
      have HSN := Lib.hid hsn
      have hln : (shownAt T (ps.take i)).length ≤ 61 := by
        have h1 := shownAt_length T (ps.take i)
        have h2 : (ps.take i).length ≤ i := List.length_take_le _ _
        omega
      clear r0 r1 r2 htk hsn
      go_upto_region 8 with fail
      obtain ⟨bx, bb⟩ := box1 wr #[.int .i64 pf, .int .i64 pt, .int .i64 po] 79
      have k0 := bx.cell 0
      have k1 := bx.cell 1
      have k2 := bx.cell 2
      have HO6 := Lib.hid (HI.out.own.alloc (.cells #[.int .i64 pf, .int .i64 pt, .int .i64 po] 79))
      have HB6 := Lib.hid (below_up HI.out.below bb HI.out.below.size)
      generalize wr.alloc (.cells #[.int .i64 pf, .int .i64 pt, .int .i64 po] 79) = wb at *
      generalize wr.heap.size = B at *
      clear bx bb c0 c1 c2
      have s1 : IntKind.i64.wrap (d * 1440) = d * 1440 := IntWalk.i64_in _ (by omega)
      have s2 : IntKind.i64.wrap (d * 1440 + mi) = d * 1440 + mi := IntWalk.i64_in _ (by omega)
      have s3 : IntKind.i64.wrap (d * 1440 + mi - po) = d * 1440 + mi - po := IntWalk.i64_in _ (by omega)
      by_cases hin : pf ≤ T - po ∧ T - po < pt
      · have hsn := HSN.out
        rw [if_pos hin] at hsn
        have HS2 := Lib.hid hsn
        rw [← HT3.out] at hin
        obtain ⟨hin1, hin2⟩ := hin
        have q1 : decide (pf ≤ d * 1440 + mi - po) = true := by simpa using hin1
        have q2 : decide (d * 1440 + mi - po < pt) = true := by simpa using hin2
        have hB := HB6.out.size
        clear hsn hin1 hin2
        go_wp2_with (at_builtin; go_must (refine append_one rfl _ _ 44 rfl w5.heap.size 3 (.int .i64 0) 1 8 Tryd.underlying44 infoInt rfl (by decide) w5 wb _ _ _ rfl HO6.out _ rfl rfl rfl (by simp [Value.oneCell']) (by omega) (by omega) hB HB6.out ?_); intro v' w6 ho hb6 _ _)
        go_roundw
        case rel => exact ⟨i + 1, by go_num, by rw [HPS.out]; omega, by rw [HS2.out]; simpa [intsV, HT3.out] using ho, hb6⟩
        case measure => simp [intOf]; omega
      · have hsn := HSN.out
        rw [if_neg hin] at hsn
        have HS2 := Lib.hid hsn
        rw [← HT3.out] at hin
        have HIN := Lib.hid hin
        clear hsn hin
        by_cases q0 : pf ≤ d * 1440 + mi - po
        · have q1 : decide (pf ≤ d * 1440 + mi - po) = true := by simpa using q0
          have q2 : decide (d * 1440 + mi - po < pt) = false := by simpa using fun g => HIN.out ⟨q0, g⟩
          clear q0
          go_wp2_with fail
          go_roundw
          case rel => exact ⟨i + 1, by go_num, by rw [HPS.out]; omega, by rw [HS2.out]; exact HO6.out, HB6.out⟩
          case measure => simp [intOf]; omega
        · have q1 : decide (pf ≤ d * 1440 + mi - po) = false := by simpa using q0
          clear q0
          go_wp2_with fail
          go_roundw
          case rel => exact ⟨i + 1, by go_num, by rw [HPS.out]; omega, by rw [HS2.out]; exact HO6.out, HB6.out⟩
          case measure => simp [intOf]; omega
    · obtain rfl : i = cs.length + 1 := by omega
      have hown := HI.out.own
      rw [List.take_of_length_le (by rw [HPS.out]; exact Nat.le_refl _)] at hown
      obtain ⟨a', c', rfl⟩ := owns_slice hown
      have hsl : SliceAt 1 intR wr (.slice a' (shownAt T ps).length c') (shownAt T ps) := slice_of_owns1 (Value.int .i64) hown (fun _ _ => rfl)
      have HSL := Lib.hid hsl
      clear hown hsl
      go_wp2_with fail
      go_ret2
      refine ⟨a', c', ?_, ?_, below_up HB5.out HI.out.below HB5.out.size⟩
      · rw [← HT.out, ← HPQ.out]; rfl
      · rw [← HT.out, ← HPQ.out]; exact HSL.out

end Go.Proofs.YtbafldhhhbdhhaaDoor
