/- The walks of cal's zones: OffsetAt before time begins, Local; the look whether the package is there. -/
import Derived.Test.YtjnaioellghggaaZone2
namespace Go.Proofs.Ytjnaioellghggaa
open Go.RowKit

theorem changes_nil (w : World) : Changes w (.slice none 0 0) [] := .inl ⟨none, 0, rfl, rfl⟩

set_option maxRecDepth 100000 in
set_option maxHeartbeats 1000000 in
theorem OffsetAt_no (w : World) :
    Calls Try.prog 27 #[.agg #[.int .i64 0, .slice none 0 0], .int .i64 (-1)] w fun e w' => e = .returned (.tuple #[.int .i64 0, .int .i64 2]) ∧ Below w.heap.size w w' := by
  have hz := CheckZone_any 0 (.slice none 0 0) [] (w.alloc (.cells #[.int .i64 0, .slice none 0 0] 24)) (changes_nil _)
  rw [show zcode 0 [] = 0 from by decide] at hz
  have HZ := Lib.hid hz
  clear hz
  go_enter Try.func27, Try.ntmps27
  go_wp2_with fail
  refine HZ.out.mono ?_
  rintro e w1 ⟨rfl, hb1⟩
  have HB1 := Lib.hid (below_up ((Below.refl _ _).alloc (Nat.le_refl _) _) hb1 (by simp))
  clear hb1
  go_wp2_with fail
  refine (moment_any _ _).mono ?_
  rintro e w2 ⟨rfl, rfl⟩
  rw [show momI (-1) = 2 from by decide]
  go_wp2_with fail
  refine (or_any _ [0, 2] _ (ints2_at w1 _ _ _) (by simp)).mono ?_
  rintro e w2 ⟨rfl, rfl⟩
  rw [show orI [0, 2] = 2 from by decide]
  go_wp2_with fail
  go_ret2
  exact ⟨rfl, HB1.out.alloc HB1.out.size _⟩

set_option maxRecDepth 100000 in
theorem awake_any (w : World) : Calls Try.prog 7 #[] w fun e w' => e = .returned (.bool true) ∧ Below w.heap.size w w' := by
  go_enter Try.func7, Try.ntmps7
  go_wp2_with fail
  refine (OffsetAt_no w).mono ?_
  rintro e w1 ⟨rfl, hb⟩
  go_wp2
  go_ret
  exact ⟨rfl, hb⟩

def LocalPost (off : Int) (cs : List (Int × Int)) (m : Int) (w : World) (e : Ending) (w' : World) : Prop :=
  ∃ d mi c : Int, e = .returned (.tuple #[.int .i64 d, .int .i64 mi, .int .i64 c]) ∧ Below w.heap.size w w' ∧ (c ≠ 0 ∨ (c = 0 ∧ ZoneOk off cs ∧ 0 ≤ m ∧ m ≤ 3000000 ∧ d = (m + offAt m off cs) / 1440 ∧ mi = (m + offAt m off cs) % 1440))

set_option maxRecDepth 100000 in
set_option maxHeartbeats 2000000 in
theorem Local_any (off : Int) (v : Value) (cs : List (Int × Int)) (m : Int) (w : World) (h : Changes w v cs) :
    Calls Try.prog 26 #[.agg #[.int .i64 off, v], .int .i64 m] w (LocalPost off cs m w) := by
  obtain ⟨a, cap, rfl⟩ := SliceAt.len h
  have H := Lib.hid h
  clear h
  have hbx := box1 w #[.int .i64 off, .slice a cs.length cap] 24
  go_enter Try.func26, Try.ntmps26
  go_upto_region 1 with fail
  generalize w.alloc (.cells #[.int .i64 off, .slice a cs.length cap] 24) = w2 at *
  obtain ⟨hx, hbl⟩ := hbx
  have HX := Lib.hid hx
  have HB2 := Lib.hid hbl
  have k0 := hx.cell 0
  have k1 := hx.cell 1
  clear hx hbl
  go_wp2_with fail
  refine (CheckZone_any off _ cs w2 (H.out.below HB2.out)).mono ?_
  rintro e w3 ⟨rfl, hb3⟩
  have HX3 := Lib.hid (HX.out.below hb3 HX.out.lt)
  have HB3 := Lib.hid (below_up HB2.out hb3 HB2.out.size)
  clear k0 k1 hb3
  go_wp2_with fail
  refine (moment_any _ _).mono ?_
  rintro e w4 ⟨rfl, rfl⟩
  go_wp2_with fail
  refine (or_any _ [zcode off cs, momI m] _ (ints2_at w3 _ _ _) (by simp)).mono ?_
  rintro e w5 ⟨rfl, rfl⟩
  have ho := orI2 (zcode off cs) (momI m)
  have hb4 : Below w3.heap.size w3 (w3.alloc (.cells #[.int .i64 (zcode off cs), .int .i64 (momI m)] 30)) := (Below.refl _ _).alloc (Nat.le_refl _) _
  have HX4 := Lib.hid (HX3.out.below hb4 HX3.out.lt)
  have HB4 := Lib.hid (below_up HB3.out hb4 HB3.out.size)
  clear hb4
  generalize w3.alloc (.cells #[.int .i64 (zcode off cs), .int .i64 (momI m)] 30) = w4 at *
  by_cases hz : zcode off cs = 0 ∧ momI m = 0
  · obtain ⟨hz, hm⟩ := hz
    have ho2 : orI [zcode off cs, momI m] = 0 := by rw [orI2, if_pos hz, hm]
    have hzo := zcode_ok hz
    have hm' : 0 ≤ m ∧ m ≤ 3000000 := by
      unfold momI at hm
      split at hm
      · assumption
      · cases hm
    obtain ⟨hm1, hm2⟩ := hm'
    rw [ho2]
    have hbd := offAt_bd m cs 0 off off hzo.ok hzo.o1 hzo.o2
    obtain ⟨hb1, hb2⟩ := hbd
    have HZO := Lib.hid hzo
    have hlen := hzo.len
    have k0 := HX4.out.cell 0
    have k1 := HX4.out.cell 1
    clear ho ho2 hz hm hzo
    go_wp2_with fail
    refine (offsetAt_any off _ cs m w4 (H.out.below HB4.out) hlen).mono ?_
    rintro e w5 ⟨rfl, hb5⟩
    have HB5 := Lib.hid (below_up HB4.out hb5 HB4.out.size)
    obtain ⟨oa, hoa⟩ : ∃ oa, oa = offAt m off cs := ⟨_, rfl⟩
    rw [← hoa] at hb1 hb2 ⊢
    have HOA := Lib.hid hoa
    clear hb5 k0 k1 hoa
    go_wp2_with fail
    refine (floor_any (m + oa) (by omega) (by omega) w5).mono ?_
    rintro e w6 ⟨rfl, rfl⟩
    have q1 : -10 ≤ (m + oa) / 1440 := by omega
    have q2 : (m + oa) / 1440 ≤ 10000 := by omega
    have q3 : m + oa - (m + oa) / 1440 * 1440 = (m + oa) % 1440 := by omega
    have Q3 := Lib.hid q3
    clear q3
    go_wp2_with fail
    refine bodyPost_ret (v := .tuple #[.int .i64 ((m + oa) / 1440), .int .i64 ((m + oa) % 1440), .int .i64 0]) ?_ rfl ⟨_, _, _, rfl, HB5.out, .inr ⟨rfl, HZO.out, hm1, hm2, by rw [HOA.out], by rw [HOA.out]⟩⟩
    rw [← Q3.out]
    first | rfl | simp [results, Try.results26, go_sem]
  · have hc : orI [zcode off cs, momI m] ≠ 0 := by
      rw [ho]
      split
      · rename_i g
        exact fun q => hz ⟨g, q⟩
      · rename_i g; exact g
    clear ho hz
    generalize orI [zcode off cs, momI m] = c at *
    have hq0 : (c == 0) = false := by simpa using hc
    have hq1 : (c != 0) = true := by simpa using hc
    have HC := Lib.hid hc
    clear hc
    go_wp2_with fail
    go_ret3
    exact ⟨_, _, _, rfl, HB4.out, .inl HC.out⟩

end Go.Proofs.Ytjnaioellghggaa
