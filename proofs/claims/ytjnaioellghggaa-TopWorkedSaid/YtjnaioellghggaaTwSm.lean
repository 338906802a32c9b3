/- The small walks behind porttop.TopWorked: the look whether the package is there, Local, slices.ContainsFunc and slices.Clone over special days. -/
import Derived.Test.YtjnaioellghggaaTwLaw
import Derived.Test.YtjnaioellghggaaZone3
import Derived.Deep.Slices
namespace Go.Proofs.Ytjnaioellghggaa
open Go.RowKit

set_option maxRecDepth 100000 in
theorem awake_top (w : World) : Calls Try.prog 19 #[] w fun e w' => e = .returned (.bool true) ∧ Below w.heap.size w w' := by
  go_enter Try.func19, Try.ntmps19
  go_wp2_with fail
  refine (OffsetAt_no w).mono ?_
  rintro e w1 ⟨rfl, hb⟩
  go_wp2
  go_ret
  exact ⟨rfl, hb⟩
theorem Local_fine (off : Int) (v : Value) (cs : List (Int × Int)) (m : Int) (w : World) (h : Changes w v cs) (hz : zcode off cs = 0) (hm : momI m = 0) :
    Calls Try.prog 26 #[.agg #[.int .i64 off, v], .int .i64 m] w fun e w' => ∃ mi : Int, e = .returned (.tuple #[.int .i64 ((m + offAt m off cs) / 1440), .int .i64 mi, .int .i64 0]) ∧ Below w.heap.size w w' := by
  obtain ⟨a, cap, rfl⟩ := SliceAt.len h
  have H := Lib.hid h
  have HZM := Lib.hid (And.intro hz hm)
  generalize hoa : offAt m off cs = oa
  have HOA := Lib.hid hoa
  clear h hz hm hoa
  have hbx := box1 w #[.int .i64 off, .slice a cs.length cap] 24
  go_enter Try.func26, Try.ntmps26
  go_upto_region 1 with fail
  generalize w.alloc (.cells #[.int .i64 off, .slice a cs.length cap] 24) = w2 at *
  obtain ⟨hx, hbl⟩ := hbx
  have HX := Lib.hid hx
  have HB2 := Lib.hid hbl
  have k0 := hx.cell 0
  have k1 := hx.cell 1
  have hck := CheckZone_any off _ cs w2 (H.out.below HB2.out)
  rw [HZM.out.1] at hck
  clear hx hbl
  go_wp2_with fail
  refine hck.mono ?_
  clear hck
  rintro e w3 ⟨rfl, hb3⟩
  have HX3 := Lib.hid (HX.out.below hb3 HX.out.lt)
  have HB3 := Lib.hid (below_up HB2.out hb3 HB2.out.size)
  have hmo := moment_any m w3
  rw [HZM.out.2] at hmo
  clear k0 k1 hb3
  go_wp2_with fail
  refine hmo.mono ?_
  clear hmo
  rintro e w4 ⟨rfl, rfl⟩
  go_wp2_with fail
  refine (or_any _ [0, 0] _ (ints2_at w3 _ _ _) (by simp)).mono ?_
  rintro e w5 ⟨rfl, rfl⟩
  rw [show orI [0, 0] = 0 from by decide]
  have hb4 : Below w3.heap.size w3 (w3.alloc (.cells #[.int .i64 0, .int .i64 0] 30)) := (Below.refl _ _).alloc (Nat.le_refl _) _
  have HX4 := Lib.hid (HX3.out.below hb4 HX3.out.lt)
  have HB4 := Lib.hid (below_up HB3.out hb4 HB3.out.size)
  clear hb4
  generalize w3.alloc (.cells #[.int .i64 0, .int .i64 0] 30) = w4 at *
  have hzo := zcode_ok HZM.out.1
  have hm' : 0 ≤ m ∧ m ≤ 3000000 := by
    have hm := HZM.out.2
    unfold momI at hm
    split at hm
    · assumption
    · cases hm
  obtain ⟨hm1, hm2⟩ := hm'
  obtain ⟨hb1, hb2⟩ := offAt_bd m cs 0 off off hzo.ok hzo.o1 hzo.o2
  rw [HOA.out] at hb1 hb2
  have hlen := hzo.len
  have k0 := HX4.out.cell 0
  have k1 := HX4.out.cell 1
  have hof := offsetAt_any off _ cs m w4 (H.out.below HB4.out) hlen
  rw [HOA.out] at hof
  clear hzo
  go_wp2_with fail
  refine hof.mono ?_
  clear hof
  rintro e w5 ⟨rfl, hb5⟩
  have HB5 := Lib.hid (below_up HB4.out hb5 HB4.out.size)
  clear hb5 k0 k1
  go_wp2_with fail
  refine (floor_any (m + oa) (by omega) (by omega) w5).mono ?_
  rintro e w6 ⟨rfl, rfl⟩
  have q1 : -10 ≤ (m + oa) / 1440 := by omega
  have q2 : (m + oa) / 1440 ≤ 10000 := by omega
  have q3 : m + oa - (m + oa) / 1440 * 1440 = (m + oa) % 1440 := by omega
  have Q3 := Lib.hid q3
  clear q3
  go_wp2_with fail
  go_ret3
  exact ⟨_, rfl, HB5.out⟩

/-! ### slices.ContainsFunc -/
set_option maxRecDepth 100000 in
theorem sameday_any (d day : Int) (v : Value) (hv : v.oneCell' = true) (B : Nat) (w : World) (hx : Has w B #[.int .i64 day] 3) :
    Calls Try.prog 22 #[.agg #[.int .i64 d, v], .pointer (some ⟨B, 0, none⟩)] w fun e w' => e = .returned (.bool (d == day)) ∧ Below w.heap.size w w' := by
  obtain ⟨bx, bbl⟩ := box1 w #[.int .i64 d, v] 52
  have kd := (hx.below bbl hx.lt).cell 0
  go_enter Try.func22, Try.ntmps22
  go_upto_region 1 with fail
  generalize w.alloc (.cells #[.int .i64 d, v] 52) = w2 at *
  have k0 := bx.cell 0
  have HB := Lib.hid bbl
  clear bx bbl hx
  go_wp2_with fail
  go_ret
  exact ⟨rfl, HB.out⟩
set_option maxRecDepth 100000 in
set_option maxHeartbeats 2000000 in
theorem idx_any (v : Value) (l : List (Int × List Shf)) (day : Int) (B : Nat) (w : World) (h : Specs w v l) (hl : l.length ≤ 1000) (hx : Has w B #[.int .i64 day] 3) :
    Calls Try.prog 43 #[v, .func (.func 22) #[] #[.pointer (some ⟨B, 0, none⟩)]] w fun e w' =>
      (∃ k : Int, e = .returned (.int .i64 k) ∧ (0 ≤ k ↔ ∃ x ∈ l, x.1 = day)) ∧ Below w.heap.size w w' := by
  obtain ⟨a, cap, rfl⟩ := SliceAt.len h
  have H := Lib.hid h
  have HX := Lib.hid hx
  clear h hx
  go_enter Try.func43, Try.ntmps43
  go_wp2_with fail
  go_loopw [8] (fun iv wr => ∃ i : Nat, iv = .int .i64 i ∧ i ≤ l.length ∧ Below w.heap.size w wr ∧ ∀ x ∈ l.take i, x.1 ≠ day) (fun iv _ => l.length - (intOf iv).toNat)
  case atStart => exact ⟨0, rfl, Nat.zero_le _, Below.refl _ _, by simp⟩
  case round =>
    obtain ⟨i, rfl, hi, hbr, hno⟩ := hrel
    have HBR := Lib.hid hbr
    have HNO := Lib.hid hno
    clear hbr hno
    by_cases hlt : i < l.length
    · obtain ⟨b, of', cap', hv, hb, hel⟩ := Specs.at H.out (by omega)
      cases hv
      obtain ⟨u, e0, e1, hus⟩ := hel i hlt
      have c0 := (below_cell HBR.out hb).trans e0
      have c1 := (below_cell HBR.out hb).trans e1
      obtain ⟨ua, uc, rfl⟩ := SliceAt.len hus
      have HTK := Lib.hid (show l.take (i + 1) = l.take i ++ [l[i]] from List.take_succ_eq_append_getElem hlt)
      have HME := Lib.hid (show l[i] ∈ l from List.getElem_mem hlt)
      have hq := sameday_any l[i].1 day (.slice ua l[i].2.length uc) rfl B wr (HX.out.below HBR.out HX.out.lt)
      generalize l[i] = x at *
      obtain ⟨x1, x2⟩ := x
      simp only at c0 c1 hq
      clear e0 e1 hel hus
      by_cases hd : x1 = day
      · have hb1 : (x1 == day) = true := by simpa using hd
        rw [hb1] at hq
        have HQ := Lib.hid hq
        have HD := Lib.hid hd
        clear hq hd hb1
        go_wp2_with fail
        refine HQ.out.mono ?_
        rintro e w5 ⟨rfl, hb5⟩
        have HB5 := Lib.hid (below_up HBR.out hb5 HBR.out.size)
        clear hb5
        go_wp2_with fail
        go_ret
        exact ⟨⟨i, rfl, ⟨fun _ => ⟨_, HME.out, HD.out⟩, fun _ => by omega⟩⟩, HB5.out⟩
      · have hb1 : (x1 == day) = false := by simpa using hd
        rw [hb1] at hq
        have HQ := Lib.hid hq
        have HD := Lib.hid hd
        clear hq hd hb1
        go_wp2_with fail
        refine HQ.out.mono ?_
        rintro e w5 ⟨rfl, hb5⟩
        have HB5 := Lib.hid (below_up HBR.out hb5 HBR.out.size)
        clear hb5
        go_wp2_with fail
        go_roundw
        case rel =>
          refine ⟨i + 1, by go_num, hlt, HB5.out, ?_⟩
          rw [HTK.out]
          intro y hy
          rcases List.mem_append.1 hy with g | g
          · exact HNO.out y g
          · rw [List.mem_singleton.1 g]; exact HD.out
        case measure => simp [intOf]; omega
    · obtain rfl : i = l.length := by omega
      have hno := HNO.out
      rw [List.take_length] at hno
      have HN := Lib.hid hno
      clear hno
      go_wp2_with fail
      go_ret
      exact ⟨⟨-1, rfl, ⟨fun h => by omega, fun ⟨x, hx, e⟩ => absurd e (HN.out x hx)⟩⟩, HBR.out⟩
set_option maxRecDepth 100000 in
theorem contains_any (v : Value) (l : List (Int × List Shf)) (day : Int) (B : Nat) (w : World) (h : Specs w v l) (hl : l.length ≤ 1000) (hx : Has w B #[.int .i64 day] 3) :
    Calls Try.prog 21 #[v, .func (.func 22) #[] #[.pointer (some ⟨B, 0, none⟩)]] w fun e w' =>
      (∃ b : Bool, e = .returned (.bool b) ∧ (b = true ↔ ∃ x ∈ l, x.1 = day)) ∧ Below w.heap.size w w' := by
  have HI := Lib.hid (idx_any v l day B w h hl hx)
  clear h hx
  go_enter Try.func21, Try.ntmps21
  go_wp2_with fail
  refine HI.out.mono ?_
  rintro e w1 ⟨⟨k, rfl, hk⟩, hb⟩
  have HK := Lib.hid hk
  have HB := Lib.hid hb
  clear hk hb
  by_cases h0 : 0 ≤ k
  · have q : decide (0 ≤ k) = true := decide_eq_true h0
    go_wp2_with fail
    go_ret
    exact ⟨⟨true, rfl, ⟨fun _ => HK.out.1 h0, fun _ => rfl⟩⟩, HB.out⟩
  · have q : decide (0 ≤ k) = false := decide_eq_false h0
    have HN := Lib.hid h0
    clear h0
    go_wp2_with fail
    go_ret
    exact ⟨⟨false, rfl, ⟨fun h => by (cases h), fun h => by have h1 := HK.out.2 h; have h2 := HN.out; omega⟩⟩, HB.out⟩

/-! ### slices.Clone of special days -/
/-- a special day, its slice's value, its shifts -/
abbrev Gs := Int × Value × List Shf
def encG (x : Gs) : List Value := [.int .i64 x.1, x.2.1]
theorem infoSpc : (Try.prog.info? 52).map (fun i => (i.zero, i.size, i.bytes)) = some (some (.agg #[.int .i64 0, .slice none 0 0]), 2, 32) := by kernel_rfl
theorem encG_length (l : List Gs) : (l.flatMap encG).length = l.length * 2 := by
  induction l with
  | nil => rfl
  | cons x r ih => rw [List.flatMap_cons, List.length_append, ih]; simp [encG]; omega
theorem specs_ghost {w : World} {v : Value} {l : List (Int × List Shf)} (h : Specs w v l) : ∃ lg : List Gs, lg.map (fun x => (x.1, x.2.2)) = l ∧ (∀ x ∈ lg, Shifts w x.2.1 x.2.2) ∧
    ((∃ a c, v = .slice a 0 c ∧ lg = []) ∨ ∃ b off cap, v = .slice (some ⟨b, off, none⟩) lg.length cap ∧ b < w.heap.size ∧ ∀ j u, (lg.flatMap encG)[j]? = some u → w.cell? ((⟨b, off, none⟩ : Addr).add j) = some u) := by
  by_cases h0 : 0 < l.length
  · obtain ⟨b, off, cap, hv, hb, hel⟩ := Specs.at h h0
    obtain ⟨f, hf⟩ := Go.Deep.choose_lt (α := Value) (n := l.length) (p := fun i u => ∃ hi : i < l.length, w.cell? ⟨b, off + i * 2, none⟩ = some (.int .i64 l[i].1) ∧ w.cell? ⟨b, off + i * 2 + 1, none⟩ = some u ∧ Shifts w u l[i].2) (fun i hi => by
      obtain ⟨u, h1, h2, h3⟩ := hel i hi
      exact ⟨u, hi, h1, h2, h3⟩)
    refine ⟨(List.range l.length).attach.map (fun i => (l[i.1]'(List.mem_range.1 i.2)).1 |> fun d => (d, f i.1, (l[i.1]'(List.mem_range.1 i.2)).2)), ?_, ?_, ?_⟩
    · apply List.ext_getElem
      · simp
      · intro i h1 h2
        simp
    · intro x hx
      obtain ⟨⟨i, hi⟩, _, rfl⟩ := List.mem_map.1 hx
      obtain ⟨_, _, _, h3⟩ := hf i (List.mem_range.1 hi)
      exact h3
    · refine .inr ⟨b, off, cap, by rw [hv]; simp, hb, ?_⟩
      intro j u hj
      generalize hlg : (List.range l.length).attach.map (fun i => (l[i.1]'(List.mem_range.1 i.2)).1 |> fun d => (d, f i.1, (l[i.1]'(List.mem_range.1 i.2)).2)) = lg at hj
      have hlen : lg.length = l.length := by rw [← hlg]; simp
      have hlt : j < l.length * 2 := by rw [← hlen, ← encG_length]; exact (List.getElem?_eq_some_iff.1 hj).1
      have hi : j / 2 < lg.length := by omega
      have hi' : j / 2 < l.length := by omega
      have e := flatMap_at encG 2 lg (fun _ _ => rfl) (j / 2) (j % 2) hi (Nat.mod_lt _ (by decide))
      rw [Nat.div_add_mod'] at e
      rw [e] at hj
      have hx : lg[j / 2] = (l[j / 2].1, f (j / 2), l[j / 2].2) := by
        subst hlg
        simp
      rw [hx] at hj
      obtain ⟨_, g0, g1, _⟩ := hf (j / 2) hi'
      have ea : (⟨b, off, none⟩ : Addr).add j = ⟨b, off + j, none⟩ := by unfold Addr.add; split <;> simp_all
      rw [ea]
      have hm : j % 2 = 0 ∨ j % 2 = 1 := by omega
      rcases hm with g | g
      · rw [show off + j = off + j / 2 * 2 by omega, g0, ← hj, g]; rfl
      · rw [show off + j = off + j / 2 * 2 + 1 by omega, g1, ← hj, g]; rfl
  · obtain rfl : l = [] := List.eq_nil_of_length_eq_zero (by omega)
    obtain ⟨a, c, rfl⟩ := SliceAt.len h
    exact ⟨[], rfl, (fun x hx => by cases hx), .inl ⟨a, c, rfl, rfl⟩⟩
theorem encG_one {w : World} {l : List Gs} (h : ∀ x ∈ l, Shifts w x.2.1 x.2.2) : ∀ u ∈ l.flatMap encG, u.oneCell' = true := by
  intro u hu
  obtain ⟨x, hx, hu⟩ := List.mem_flatMap.1 hu
  simp [encG] at hu
  rcases hu with rfl | rfl
  · rfl
  · obtain ⟨a, c, e⟩ := SliceAt.len (h x hx)
    rw [e]; rfl
set_option maxRecDepth 100000 in
theorem cloneS_any (v : Value) (lg : List Gs) (w : World) (hg : ∀ x ∈ lg, Shifts w x.2.1 x.2.2) (h : (∃ a c, v = .slice a 0 c ∧ lg = []) ∨ ∃ b off cap, v = .slice (some ⟨b, off, none⟩) lg.length cap ∧ b < w.heap.size ∧ ∀ j u, (lg.flatMap encG)[j]? = some u → w.cell? ((⟨b, off, none⟩ : Addr).add j) = some u) (hl : lg.length ≤ 1000) :
    Calls Try.prog 23 #[v] w fun e w' => (∃ v', e = .returned v' ∧ w'.ownsRow w.heap.size 52 2 v' lg.length (lg.flatMap encG)) ∧ Below w.heap.size w w' := by
  have q22 : ∀ (w : World) (a : Option Addr) (n c n' c' : Nat), (binOp .eql 26 (.slice a n c) (.slice none n' c')).run Try.prog w = .ok (.bool a.isNone) w := fun w a n c n' c' => Lib.run_eql_slice_nil w _ _ a n c n' c' Try.underlying26
  have hown := World.ownsRow_lit (base := w.heap.size) (e := 52) (size := 2) w #[] 0 (Nat.le_refl _) (by unfold maxLen; omega) rfl
  have hb3 := (Below.refl w.heap.size w).alloc (Nat.le_refl _) (.cells #[] 52)
  have HO := Lib.hid hown
  have HB := Lib.hid hb3
  rcases h with ⟨a, c, rfl, rfl⟩ | ⟨b, off, c, rfl, hb, hel⟩
  · clear hown hb3
    cases a with
    | none =>
      go_enter Try.func23, Try.ntmps23
      go_wp2_with fail
      go_ret
      exact ⟨⟨_, rfl, ⟨rfl, .inl ⟨rfl, rfl⟩⟩⟩, Below.refl _ _⟩
    | some ad =>
      go_enter Try.func23, Try.ntmps23
      go_wp2_with (at_builtin; go_must (refine append_all rfl _ _ 26 rfl w.heap.size 52 (.agg #[.int .i64 0, .slice none 0 0]) 2 32 Try.underlying26 infoSpc rfl (by decide) w (w.alloc (.cells #[] 52)) (.slice (some ⟨w.heap.size, 0, none⟩) 0 0) 0 [] rfl HO.out ad 0 c [] rfl rfl (fun j u hj => by cases hj) (fun u hu => by cases hu) (by omega) (by omega) HB.out.size HB.out ?_); intro v' w6 ho hb6)
      go_ret
      exact ⟨⟨_, rfl, ho⟩, hb6⟩
  · have HN := Lib.hid (show ∀ j u, (lg.flatMap encG)[j]? = some u → (w.alloc (.cells #[] 52)).cell? ((⟨b, off, none⟩ : Addr).add j) = some u from fun j u hj => by
      have e := hel j u hj
      have ea : (⟨b, off, none⟩ : Addr).add j = ⟨b, off + j, none⟩ := by unfold Addr.add; split <;> simp_all
      rw [ea] at e ⊢
      exact (below_cell hb3 hb).trans e)
    have H1 := Lib.hid (encG_one hg)
    clear hown hb3 hel hg
    go_enter Try.func23, Try.ntmps23
    go_wp2_with (at_builtin; go_must (refine append_all rfl _ _ 26 rfl w.heap.size 52 (.agg #[.int .i64 0, .slice none 0 0]) 2 32 Try.underlying26 infoSpc rfl (by decide) w (w.alloc (.cells #[] 52)) (.slice (some ⟨w.heap.size, 0, none⟩) 0 0) 0 [] rfl HO.out ⟨b, off, none⟩ lg.length c (lg.flatMap encG) rfl (encG_length lg) HN.out H1.out (by omega) (by omega) HB.out.size HB.out ?_); intro v' w6 ho hb6)
    go_ret
    refine ⟨⟨_, rfl, ?_⟩, hb6⟩
    simpa using ho

end Go.Proofs.Ytjnaioellghggaa
