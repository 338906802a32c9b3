/- The walk of cal's reader of one line: (*Calendar).take. -/
import Derived.Test.YtjkmehbmnhdcpaaDoorCtSplit
import Derived.Test.YtjkmehbmnhdcpaaDoorCtText
import Derived.Test.YtjkmehbmnhdcpaaDoorOrd
import Derived.Deep.RegionLaw
import Derived.Deep.AppendLies
namespace Go.Proofs.YtjkmehbmnhdcpaaDoor
open Go.RowKit

def encCh (x : Int × Int) : List Value := [.int .i64 x.1, .int .i64 x.2]
def encSf (x : Shf) : List Value := [.int .i64 x.1, .int .i64 x.2.1, .int .i64 x.2.2]
/-- a special day, its slice's value, its shifts -/
abbrev Gt := Int × Value × List Shf
def encGt (x : Gt) : List Value := [.int .i64 x.1, x.2.1]
/-- a calendar that is being read -/
structure RdAt (w : World) (B C : Nat) (d : CalD) (lg : List Gt) (vc vk vs : Value) : Prop where
  box : Has w C #[.int .i64 d.off, vc, vk, vs] 28
  cs : w.ownsRow B 52 2 vc d.cs.length (d.cs.flatMap encCh)
  wk : w.ownsRow B 54 3 vk d.wk.length (d.wk.flatMap encSf)
  sp : w.ownsRow B 56 2 vs lg.length (lg.flatMap encGt)
  gs : lg.map (fun x => (x.1, x.2.2)) = d.sps
  each : ∀ x ∈ lg, w.ownsRow B 54 3 x.2.1 x.2.2.length (x.2.2.flatMap encSf)
  le : B ≤ C
theorem RdAt.below {w w' : World} {B C : Nat} {d : CalD} {lg : List Gt} {vc vk vs : Value} (h : RdAt w B C d lg vc vk vs) (hb : Below w.heap.size w w') : RdAt w' B C d lg vc vk vs :=
  ⟨h.box.below hb h.box.lt, owns_below h.cs hb, owns_below h.wk hb, owns_below h.sp hb, h.gs, fun x hx => owns_below (h.each x hx) hb, h.le⟩

theorem infoCh : (Tryd.prog.info? 52).map (fun i => (i.zero, i.size, i.bytes)) = some (some (.agg #[.int .i64 0, .int .i64 0]), 2, 16) := by kernel_rfl
theorem len_two {ns : List Int} (h : ns.length = 2) : ∃ a b, ns = [a, b] := by
  match ns, h with
  | [a, b], _ => exact ⟨a, b, rfl⟩
theorem len_three {ns : List Int} (h : ns.length = 3) : ∃ a b c, ns = [a, b, c] := by
  match ns, h with
  | [a, b, c], _ => exact ⟨a, b, c, rfl⟩
theorem infoSf : (Tryd.prog.info? 54).map (fun i => (i.zero, i.size, i.bytes)) = some (some (.agg #[.int .i64 0, .int .i64 0, .int .i64 0]), 3, 24) := by kernel_rfl
theorem pairs_take : ∀ (m : Nat) (r : List Int) (x y : Int), r[2 * m]? = some x → r[2 * m + 1]? = some y → pairsL (r.take (2 * (m + 1))) = pairsL (r.take (2 * m)) ++ [(0, x, y)]
  | 0, [], x, y, hx, hy => by simp at hx
  | 0, [u], x, y, hx, hy => by simp at hy
  | 0, u :: v :: r, x, y, hx, hy => by
    simp at hx hy
    subst hx hy
    simp [pairsL]
  | m + 1, [], x, y, hx, hy => by simp at hx
  | m + 1, [u], x, y, hx, hy => by
    have := (List.getElem?_eq_some_iff.1 hx).1
    simp only [List.length_cons, List.length_nil] at this
    omega
  | m + 1, u :: v :: r, x, y, hx, hy => by
    rw [show 2 * (m + 1) = 2 * m + 1 + 1 by omega, List.getElem?_cons_succ, List.getElem?_cons_succ] at hx
    rw [show 2 * (m + 1) + 1 = 2 * m + 1 + 1 + 1 by omega, List.getElem?_cons_succ, List.getElem?_cons_succ] at hy
    have ih := pairs_take m r x y hx hy
    rw [show 2 * (m + 1 + 1) = 2 * (m + 1) + 1 + 1 by omega, show 2 * (m + 1) = 2 * m + 1 + 1 by omega]
    simp only [List.take_succ_cons, pairsL, List.cons_append]
    rw [show 2 * m + 1 + 1 = 2 * (m + 1) by omega, ih]
theorem pairs_next {ns r : List Int} {a : Int} {i m : Nat} (h : ns = a :: r) (him : i = 1 + 2 * m) (hi : i + 1 < ns.length) : pairsL (r.take (2 * (m + 1))) = pairsL (r.take (2 * m)) ++ [(0, ns[i]'(by omega), ns[i + 1])] := by
  refine pairs_take m r _ _ ?_ ?_
  · have e := List.getElem?_eq_getElem (l := ns) (i := i) (by omega)
    rw [← e, h, him, Nat.add_comm 1 (2 * m), List.getElem?_cons_succ]
  · have e := List.getElem?_eq_getElem hi
    rw [← e, h, him, Nat.add_comm 1 (2 * m), List.getElem?_cons_succ]
theorem pairs_length : ∀ (m : Nat) (r : List Int), r.length = 2 * m → (pairsL r).length = m
  | 0, r, h => by
    obtain rfl := List.eq_nil_of_length_eq_zero (by omega : r.length = 0)
    rfl
  | m + 1, [], h => by simp at h
  | m + 1, [_], h => by simp at h; omega
  | m + 1, u :: v :: r, h => by
    have ih := pairs_length m r (by simp only [List.length_cons] at h; omega)
    simp [pairsL, ih]
theorem infoSpc : (Tryd.prog.info? 56).map (fun i => (i.zero, i.size, i.bytes)) = some (some (.agg #[.int .i64 0, .slice none 0 0]), 2, 32) := by kernel_rfl
def TakePost (B C k : Nat) (ns : List Int) (d : CalD) (w : World) (e : Ending) (w' : World) : Prop :=
  e = .returned (.tuple #[.int .i64 (k : Nat), .bool true]) ∧ Below B w w' ∧ w.heap.size ≤ w'.heap.size ∧ ∃ lg vc vk vs, RdAt w' B C (pushL d (k, ns)) lg vc vk vs

theorem line_short {p : Int} {k : Nat} {ns : List Int} (h : LnOk p (k, ns)) : (lineL k ns).length ≤ 1000 := by
  have h1 := text_short [(k, ns)] (fun x hx => by rw [List.mem_singleton.1 hx]; exact ⟨h.few, h.nums⟩)
  have e : textL [(k, ns)] = lineL k ns ++ [10] := by simp [textL]
  rw [e] at h1
  simp at h1
  omega

set_option maxRecDepth 100000 in
set_option maxHeartbeats 4000000 in
theorem take_any (k : Nat) (ns : List Int) (p : Int) (d : CalD) (lg : List Gt) (B C : Nat) (vc vk vs : Value) (w : World) (h : RdAt w B C d lg vc vk vs) (hx : LnOk p (k, ns)) (hl : k ≤ 2 → lg = [])
    (h1 : d.cs.length ≤ 100000) (h2 : d.wk.length ≤ 100000) (h3 : lg.length ≤ 100000) (hE : Env w) (hB : B ≤ w.heap.size) :
    Calls Tryd.prog 16 #[.pointer (some ⟨C, 0, none⟩), .string (bs (lineL k ns)), .int .i64 p] w (TakePost B C k ns d w) := by
  have hk3 : k ≤ 3 := hx.kind
  have H := Lib.hid h
  have HE := Lib.hid hE
  have HX := Lib.hid hx
  have HL := Lib.hid hl
  have hsp := split_any k ns (by have := line_short hx; omega) w hE
  have hfew : ns.length ≤ 25 := hx.few
  have HSP := Lib.hid hsp
  have hp0 := hx.le
  have hp1 := hx.first
  have hp2 := hx.next
  simp only at hp0 hp1 hp2
  have hbx := box1 w ((pieces k ns).map Value.string).toArray 9
  have hb0 := hbx.2
  have p0 := hbx.1.cell 0
  have HPC := Lib.hid hbx.1
  rw [show ((pieces k ns).map Value.string).toArray[0]? = some (.string (bs (wordL k))) by simp [pieces]] at p0
  have HL2 := Lib.hid h2
  have HL1 := Lib.hid h1
  have HL3 := Lib.hid h3
  clear h hx hl hE hsp hbx h1 h2 h3
  generalize hT : lineL k ns = T at *
  clear hT
  generalize hW : wordL k = W at *
  go_enter Tryd.func16, Tryd.ntmps16
  go_wp2_with fail
  refine HSP.out.mono ?_
  clear HSP
  rintro e w2 ⟨rfl, rfl⟩
  have hwz : (w.alloc (.cells ((pieces k ns).map Value.string).toArray 9)).heap.size = w.heap.size + 1 := by simp
  have HI := Lib.hid (H.out.below hb0)
  have HE2 := Lib.hid (HE.out.below hb0)
  generalize w.alloc (.cells ((pieces k ns).map Value.string).toArray 9) = w2 at *
  go_wp2_with fail
  have hwd := (box1 w2 #[.string ⟨#[122, 111, 110, 101]⟩, .string ⟨#[99, 104, 97, 110, 103, 101]⟩, .string ⟨#[115, 104, 105, 102, 116]⟩, .string ⟨#[100, 97, 121]⟩] 9).2
  have hkd := kind_new k hk3 W hW w2
  have HWB := Lib.hid hwd
  rw [hwz] at hkd
  refine hkd.mono ?_
  clear hkd hwd
  rintro e w4 ⟨rfl, rfl⟩
  have HI4 := Lib.hid (HI.out.below HWB.out)
  have HE4 := Lib.hid (HE2.out.below HWB.out)
  have HB4 := Lib.hid (below_up hb0 HWB.out (Nat.le_of_lt (by omega)))
  have p4 := (below_cell HWB.out (by show w.heap.size < w2.heap.size; omega)).trans p0
  have HP4 := Lib.hid (HPC.out.below HWB.out (by omega))
  clear HI HE2 HPC p0 hb0
  have hz4 : (w2.alloc (.cells #[.string ⟨#[122, 111, 110, 101]⟩, .string ⟨#[99, 104, 97, 110, 103, 101]⟩, .string ⟨#[115, 104, 105, 102, 116]⟩, .string ⟨#[100, 97, 121]⟩] 9)).heap.size = w.heap.size + 2 := by simp [hwz]
  clear HWB
  generalize w2.alloc (.cells #[.string ⟨#[122, 111, 110, 101]⟩, .string ⟨#[99, 104, 97, 110, 103, 101]⟩, .string ⟨#[115, 104, 105, 102, 116]⟩, .string ⟨#[100, 97, 121]⟩] 9) = w4 at *
  have q0 : decide ((k : Int) < 0) = false := by simp
  have q1 : decide ((k : Int) < p) = false := by simp; omega
  go_upto_region 3 with fail
  go_cut [46] (fun v wx => v = .bool false ∧ wx = w4)
  case first =>
    rcases Int.lt_trichotomy p 0 with g | g | g
    · have q2 : decide (p < 0) = true := decide_eq_true g
      obtain rfl : k = 0 := hp1 g
      have q3 : decide (p = 0) = false := decide_eq_false (by omega)
      have HG := Lib.hid (show decide (0 < p) = false from decide_eq_false (by omega))
      clear g
      go_wp2_with fail
      go_meet
      exact ⟨by rw [HG.out], rfl⟩
    · have q2 : decide (p < 0) = false := decide_eq_false (by omega)
      have q3 : ((k : Int) == 0) = false := by simpa using hp2 g
      subst g
      go_wp2_with fail
      go_meet
      exact ⟨rfl, rfl⟩
    · have q2 : decide (p < 0) = false := decide_eq_false (by omega)
      have q3 : decide (p = 0) = false := decide_eq_false (by omega)
      have q4 : (p == 0) = false := by simpa using (show p ≠ 0 by omega)
      go_wp2_with fail
      go_meet
      exact ⟨rfl, rfl⟩
  case rest =>
    obtain ⟨rfl, rfl⟩ := hcut
    clear q0 q1 hp0 hp1 hp2
    have hns : ¬ ns.length = 0 := by
      have g := HX.out
      rcases (show k = 0 ∨ k = 1 ∨ k = 2 ∨ k = 3 by omega) with e | e | e | e
      · have := g.n0 e; simp only at this; omega
      · have := g.n1 e; simp only at this; omega
      · have := g.n2 e; simp only at this; omega
      · have := g.n3 e; simp only at this; omega
    have q5 : ¬ ns.length + 1 = 1 := by omega
    go_wp2_with fail
    go_loopw [10, 50] (fun nv jv wz => ∃ j : Nat, jv = .int .i64 j ∧ j ≤ ns.length ∧ wz.ownsRow wc.heap.size 3 1 nv j ((ns.take j).map (Value.int .i64)) ∧ Below wc.heap.size wc wz) (fun _ jv _ => ns.length - (intOf jv).toNat)
    case atStart => exact ⟨0, rfl, Nat.zero_le _, World.ownsRow_nil _ _ _ _, Below.refl _ _⟩
    case round =>
      obtain ⟨j, rfl, hj, hro, hbz⟩ := hrel
      have HRO := Lib.hid hro
      have HBZ := Lib.hid hbz
      have hwz' := hbz.size
      obtain ⟨an, cn, rfl⟩ := owns_slice hro
      clear hro hbz
      by_cases hjt : j < ns.length
      · have c0 := (HP4.out.below HBZ.out (by omega)).cell (1 + j)
        rw [show ((pieces k ns).map Value.string).toArray[1 + j]? = some (.string (bs (Lib.itoa ns[j]))) by simp [pieces, Nat.add_comm 1 j, hjt]] at c0
        have hnum := number_ok ns[j] 8 (HX.out.nums _ (List.getElem_mem hjt)) (by decide) wr (HE4.out.below HBZ.out)
        have HNX := Lib.hid (show ns.take (j + 1) = ns.take j ++ [ns[j]] from List.take_succ_eq_append_getElem hjt)
        generalize ns[j] = n at *
        generalize hS : bs (Lib.itoa n) = S at *
        have HN := Lib.hid hnum
        clear hnum hS
        go_wp2_with fail
        refine HN.out.mono ?_
        clear HN
        rintro e w5 ⟨rfl, hb5⟩
        have HBZ5 := Lib.hid (below_up HBZ.out hb5 hwz')
        have HRO5 := Lib.hid (owns_below HRO.out hb5)
        have hwz5 := HBZ5.out.size
        have HRO6 := Lib.hid (HRO5.out.alloc (.cells #[.int .i64 n] 3))
        have HBZ6 := Lib.hid (HBZ5.out.alloc hwz5 (.cells #[.int .i64 n] 3))
        have HNB := Lib.hid (World.news_of_block (heap_alloc_new w5 (.cells #[.int .i64 n] 3)))
        clear hb5 HBZ HRO c0
        go_wp2_with (at_builtin; go_must (refine append_all rfl _ _ 43 rfl wc.heap.size 3 (.int .i64 0) 1 8 Tryd.underlying43 intInfo rfl (by decide) wc (w5.alloc (.cells #[.int .i64 n] 3)) (.slice an j cn) j ((ns.take j).map (Value.int .i64)) rfl HRO6.out ⟨w5.heap.size, 0, none⟩ 1 1 [.int .i64 n] rfl rfl HNB.out (by simp [Value.oneCell']) (by omega) (by omega) HBZ6.out.size HBZ6.out ?_); intro v' w6 ho6 hb6)
        go_roundw
        case rel =>
          refine ⟨j + 1, by go_num, hjt, ?_, hb6⟩
          rw [HNX.out, List.map_append]
          exact ho6
        case measure => simp [intOf]; omega
      · obtain rfl : j = ns.length := by omega
        have hro := HRO.out
        rw [List.take_length] at hro
        have HRN := Lib.hid hro
        have HBW := Lib.hid (below_up HB4.out HBZ.out (by omega))
        have HIW := Lib.hid (HI4.out.below HBZ.out)
        have hwr : w.heap.size ≤ wr.heap.size := HBW.out.size
        have hwc : B ≤ wc.heap.size := by omega
        clear hro HRO HBZ HP4 HI4 HE4 HB4
        --SPLIT
        clear hns q5
        rcases (show k = 0 ∨ k = 1 ∨ k = 2 ∨ k = 3 by omega) with rfl | rfl | rfl | rfl
        · obtain ⟨a, rfl⟩ := List.length_eq_one_iff.1 (HX.out.n0 rfl)
          obtain ⟨g, cap, hv, hg1, hg2⟩ := HRN.out.form (by simp)
          cases hv
          have n0 := HRN.out.cellAt 0 (by simp)
          simp only [List.map_cons, List.map_nil, List.getElem?_cons_zero, List.getElem?_cons_succ] at n0
          have c1 := HIW.out.box.cell 0
          have f1 := HIW.out.box.fz 0
          have hR7 : RdAt (wr.setCell ⟨C, 0, none⟩ (.int .i64 a)) B C (pushL d (0, [a])) lg vc vk vs :=
            ⟨HIW.out.box.set 0 (.int .i64 a), owns_kept_has HIW.out.cs HIW.out.box (by decide) (grownBy_set _ _ _ _), owns_kept_has HIW.out.wk HIW.out.box (by decide) (grownBy_set _ _ _ _), owns_kept_has HIW.out.sp HIW.out.box (by decide) (grownBy_set _ _ _ _), HIW.out.gs, fun x hx => owns_kept_has (HIW.out.each x hx) HIW.out.box (by decide) (grownBy_set _ _ _ _), HIW.out.le⟩
          have hb8 : Below B w (wr.setCell ⟨C, 0, none⟩ (.int .i64 a)) := (HBW.out.mono hB).setCell (p := ⟨C, 0, none⟩) HIW.out.le _
          have HP := Lib.hid (show TakePost B C 0 [a] d w (.returned (.tuple #[.int .i64 ((0 : Nat) : Int), .bool true])) (wr.setCell ⟨C, 0, none⟩ (.int .i64 a)) from ⟨rfl, hb8, hb8.size, _, _, _, _, hR7⟩)
          clear hR7 hb8 HIW HBW HRN
          go_wp2_with fail
          go_ret2
          exact HP.out
        · obtain ⟨a, b, rfl⟩ := len_two (HX.out.n1 rfl)
          obtain ⟨g, cap, hv, hg1, hg2⟩ := HRN.out.form (by simp)
          cases hv
          have n0 := HRN.out.cellAt 0 (by simp)
          have n1 := HRN.out.cellAt 1 (by simp)
          simp only [List.map_cons, List.map_nil, List.getElem?_cons_zero, List.getElem?_cons_succ] at n0 n1
          obtain ⟨va, vcc, rfl⟩ := owns_slice HIW.out.cs
          have c1 := HIW.out.box.cell 1
          have f1 := HIW.out.box.fz 1
          have hClt := HIW.out.box.lt
          obtain ⟨i0, hi0, hz0, hz1, hz2⟩ := info_parts infoCh
          have hl1 := HL1.out
          go_upto_region 18 with fail
          have hS0 : (fun W : World => W.cell? ⟨C, 1, none⟩ = some (.slice va d.cs.length vcc) ∧ W.cell? ⟨g, 0, none⟩ = some (.int .i64 a) ∧ W.cell? ⟨g, 1, none⟩ = some (.int .i64 b)) wr.drew := ⟨c1, n0, n1⟩
          refine anyT_start (S := fun W : World => W.cell? ⟨C, 1, none⟩ = some (.slice va d.cs.length vcc) ∧ W.cell? ⟨g, 0, none⟩ = some (.int .i64 a) ∧ W.cell? ⟨g, 1, none⟩ = some (.int .i64 b)) (t := 18) (by kernel_rfl) ?_
          have hbd : Below wr.heap.size wr wr.drew := (Below.refl _ _).drew
          have HID := Lib.hid (HIW.out.below hbd)
          have HBD := Lib.hid HBW.out.drew
          have HRD := Lib.hid (owns_below HRN.out hbd)
          have hwd : w.heap.size ≤ wr.drew.heap.size := HBD.out.size
          have hgd : g < wr.drew.heap.size := Nat.lt_of_lt_of_le hg2 hbd.size
          have hCd : C < wr.drew.heap.size := HID.out.box.lt
          clear c1 f1 n0 n1 HIW HBW HRN hbd
          generalize wr.drew = wd at *
          refine takeT (i := 0) (v := ?_) rfl rfl (by kernel_rfl) (by kernel_rfl) (by kernel_rfl) (fun _ _ _ h => h) (by decide) (by kernel_rfl) (by kernel_rfl) ?_ hS0 ?_
          rotate_left
          · intro w hSw; (try dsimp only at hSw); go_simp; (try with_reducible rfl)
          simp only [List.setIfInBounds_toArray, List.set_cons_zero, List.set_cons_succ]
          refine takeT (i := 1) (v := ?_) rfl rfl (by kernel_rfl) (by kernel_rfl) (by kernel_rfl) (fun _ _ _ h => h) (by decide) (by kernel_rfl) (by kernel_rfl) ?_ hS0 ?_
          rotate_left
          · intro w hSw; (try dsimp only at hSw); go_simp; (try with_reducible rfl)
          simp only [List.setIfInBounds_toArray, List.set_cons_zero, List.set_cons_succ]
          refine takeT (i := 2) (v := ?_) rfl rfl (by kernel_rfl) (by kernel_rfl) (by kernel_rfl) (fun _ _ _ h => h) (by decide) (by kernel_rfl) (by kernel_rfl) ?_ hS0 ?_
          rotate_left
          · intro w hSw; (try dsimp only at hSw); go_simp; (try with_reducible rfl)
          simp only [List.setIfInBounds_toArray, List.set_cons_zero, List.set_cons_succ]
          refine takeT (i := 3) (v := ?_) rfl rfl (by kernel_rfl) (by kernel_rfl) (by kernel_rfl) (fun _ _ _ h => h) (by decide) (by kernel_rfl) (by kernel_rfl) ?_ hS0 ?_
          rotate_left
          · intro w hSw; (try dsimp only at hSw); go_simp; (try with_reducible rfl)
          simp only [List.setIfInBounds_toArray, List.set_cons_zero, List.set_cons_succ]
          refine takeT (i := 4) (v := ?_) rfl rfl (by kernel_rfl) (by kernel_rfl) (by kernel_rfl) (fun _ _ _ h => h) (by decide) (by kernel_rfl) (by kernel_rfl) ?_ hS0 ?_
          rotate_left
          · intro w hSw; (try dsimp only at hSw); go_simp; (try with_reducible rfl)
          simp only [List.setIfInBounds_toArray, List.set_cons_zero, List.set_cons_succ]
          refine takeT (i := 5) (v := ?_) rfl rfl (by kernel_rfl) (by kernel_rfl) (by kernel_rfl) (fun _ _ _ h => h) (by decide) (by kernel_rfl) (by kernel_rfl) ?_ hS0 ?_
          rotate_left
          · intro w hSw; (try dsimp only at hSw); go_simp; (try with_reducible rfl)
          simp only [List.setIfInBounds_toArray, List.set_cons_zero, List.set_cons_succ]
          refine takeT (i := 6) (v := ?_) rfl rfl (by kernel_rfl) (by kernel_rfl) (by kernel_rfl) (fun _ _ _ h => h) (by decide) (by kernel_rfl) (by kernel_rfl) ?_ hS0 ?_
          rotate_left
          · intro w hSw; (try dsimp only at hSw); go_simp; (try with_reducible rfl)
          simp only [List.setIfInBounds_toArray, List.set_cons_zero, List.set_cons_succ]
          refine takeT (i := 7) (v := ?_) rfl rfl (by kernel_rfl) (by kernel_rfl) (by kernel_rfl) (fun _ _ _ h => h) (by decide) (by kernel_rfl) (by kernel_rfl) ?_ hS0 ?_
          rotate_left
          · intro w hSw; (try dsimp only at hSw); go_simp; (try with_reducible rfl)
          simp only [List.setIfInBounds_toArray, List.set_cons_zero, List.set_cons_succ]
          refine takeT (i := 8) (v := ?_) rfl rfl (by kernel_rfl) (by kernel_rfl) (by kernel_rfl) (fun _ _ _ h => h) (by decide) (by kernel_rfl) (by kernel_rfl) ?_ hS0 ?_
          rotate_left
          · intro w hSw; (try dsimp only at hSw); go_simp; (try with_reducible rfl)
          simp only [List.setIfInBounds_toArray, List.set_cons_zero, List.set_cons_succ]
          refine takeT (i := 9) (v := ?_) rfl rfl (by kernel_rfl) (by kernel_rfl) (by kernel_rfl) (fun _ _ _ h => h) (by decide) (by kernel_rfl) (by kernel_rfl) ?_ hS0 ?_
          rotate_left
          · intro w hSw; (try dsimp only at hSw); go_simp; (try with_reducible rfl)
          simp only [List.setIfInBounds_toArray, List.set_cons_zero, List.set_cons_succ]
          refine takeT (i := 10) (v := ?_) rfl rfl (by kernel_rfl) (by kernel_rfl) (by kernel_rfl) (fun _ _ _ h => h) (by decide) (by kernel_rfl) (by kernel_rfl) ?_ hS0 ?_
          rotate_left
          · intro w hSw; (try dsimp only at hSw); go_simp; (try with_reducible rfl)
          simp only [List.setIfInBounds_toArray, List.set_cons_zero, List.set_cons_succ]
          refine takeT (i := 11) (v := ?_) rfl rfl (by kernel_rfl) (by kernel_rfl) (by kernel_rfl) (fun _ _ _ h => h) (by decide) (by kernel_rfl) (by kernel_rfl) ?_ hS0 ?_
          rotate_left
          · intro w hSw; (try dsimp only at hSw); go_simp; (try with_reducible rfl)
          simp only [List.setIfInBounds_toArray, List.set_cons_zero, List.set_cons_succ]
          refine takeT (i := 12) (v := ?_) rfl rfl (by kernel_rfl) (by kernel_rfl) (by kernel_rfl) (fun _ _ _ h => h) (by decide) (by kernel_rfl) (by kernel_rfl) ?_ hS0 ?_
          rotate_left
          · intro w hSw; (try dsimp only at hSw); go_simp; (try with_reducible rfl)
          simp only [List.setIfInBounds_toArray, List.set_cons_zero, List.set_cons_succ]
          refine oneT (i := 13) rfl (by kernel_rfl) (fun K hK => ?_)
          go_simp
          have hb6 : Below wd.heap.size wd (wd.alloc (.cells #[.int .i64 a, .int .i64 b] 52)) := (Below.refl _ _).alloc (Nat.le_refl _) _
          refine hK.out _ _ (fun _ => ⟨(below_cell hb6 hCd).trans hS0.1, (below_cell hb6 hgd).trans hS0.2.1, (below_cell hb6 hgd).trans hS0.2.2⟩) ?_
          clear hK
          try simp only [List.setIfInBounds_toArray, List.set_cons_zero, List.set_cons_succ, Act.put]
          refine oneT (i := 14) rfl (by kernel_rfl) (fun K hK => ?_)
          refine step_append_lies _ (by rfl) _ _ _ (by rfl) B 52 i0 (.agg #[.int .i64 0, .int .i64 0]) 2 16 Tryd.underlying22 hi0 hz0 hz1 hz2 rfl (by omega) _ _ _ (by rfl) (HID.out.cs.alloc _) ⟨wd.heap.size, 0, none⟩ 1 1 [.int .i64 a, .int .i64 b] (by rfl) rfl (World.news_of_block (heap_alloc_new _ _)) (by simp [Value.oneCell']) (by omega) (by unfold maxLen; omega) (by omega) (by simp; omega) (wd.heap.size + 1) (by simp) ?_
          intro g' c' w6 hown1 hgrow hat hlt'
          have hown4 := HID.out.cs.alloc (.cells #[.int .i64 a, .int .i64 b] 52)
          have box6 := (HID.out.box.alloc (.cells #[.int .i64 a, .int .i64 b] 52)).kept_own hown4 (by decide) hgrow
          have wk6 := owns_kept_own (HID.out.wk.alloc (.cells #[.int .i64 a, .int .i64 b] 52)) hown4 (by decide) hgrow
          have sp6 := owns_kept_own (HID.out.sp.alloc (.cells #[.int .i64 a, .int .i64 b] 52)) hown4 (by decide) hgrow
          have r6 := owns_kept_own (HRD.out.alloc (.cells #[.int .i64 a, .int .i64 b] 52)) hown4 (by decide) hgrow
          have e6 : ∀ x ∈ lg, w6.ownsRow B 54 3 x.2.1 x.2.2.length (x.2.2.flatMap encSf) := fun x hx => owns_kept_own ((HID.out.each x hx).alloc (.cells #[.int .i64 a, .int .i64 b] 52)) hown4 (by decide) hgrow
          have hb7 : Below B w w6 := ((HBD.out.mono hB).alloc (by omega) _).grown hgrow (by simp; omega) (fun q hq => (hown4.lt q hq).1)
          have s0 := r6.cellAt 0 (by simp)
          have s1 := r6.cellAt 1 (by simp)
          simp only [List.map_cons, List.map_nil, List.getElem?_cons_zero, List.getElem?_cons_succ] at s0 s1
          have hS6 : (fun W : World => W.cell? ⟨C, 1, none⟩ = some (.slice va d.cs.length vcc) ∧ W.cell? ⟨g, 0, none⟩ = some (.int .i64 a) ∧ W.cell? ⟨g, 1, none⟩ = some (.int .i64 b)) w6 := ⟨box6.cell 1, s0, s1⟩
          have f6 := box6.fz 1
          have z6 := box6.cell 1
          have hR7 : RdAt (w6.setCell ⟨C, 1, none⟩ (.slice (some ⟨g', 0, none⟩) (d.cs.length + 1) c')) B C (pushL d (1, [a, b])) lg (.slice (some ⟨g', 0, none⟩) (d.cs.length + 1) c') vk vs := by
            refine ⟨box6.set 1 (.slice (some ⟨g', 0, none⟩) (d.cs.length + 1) c'), ?_, owns_kept_has wk6 box6 (by decide) (grownBy_set _ _ _ _), owns_kept_has sp6 box6 (by decide) (grownBy_set _ _ _ _), HID.out.gs, fun x hx => owns_kept_has (e6 x hx) box6 (by decide) (grownBy_set _ _ _ _), HID.out.le⟩
            have h' : w6.ownsRow B 52 2 (.slice (some ⟨g', 0, none⟩) (d.cs.length + 1) c') (d.cs ++ [(a, b)]).length ((d.cs ++ [(a, b)]).flatMap encCh) := by simpa [encCh] using hown1
            exact owns_kept_has h' box6 (by decide) (grownBy_set _ _ _ _)
          have hb8 : Below B w (w6.setCell ⟨C, 1, none⟩ (.slice (some ⟨g', 0, none⟩) (d.cs.length + 1) c')) := hb7.setCell (p := ⟨C, 1, none⟩) HID.out.le _
          have HP := Lib.hid (show TakePost B C 1 [a, b] d w (.returned (.tuple #[.int .i64 ((1 : Nat) : Int), .bool true])) (w6.setCell ⟨C, 1, none⟩ (.slice (some ⟨g', 0, none⟩) (d.cs.length + 1) c')) from ⟨rfl, hb8, hb8.size, _, _, _, _, hR7⟩)
          refine hK.out _ _ (fun _ => hS6) ?_
          clear hK hown1 hgrow hat hlt' hown4 box6 wk6 sp6 r6 e6 hb7 s0 s1 hR7 hb8 hb6 hS0 HID HBD HRD
          try simp only [List.setIfInBounds_toArray, List.set_cons_zero, List.set_cons_succ, Act.put]
          refine oneT (i := 15) rfl (by kernel_rfl) (fun K hK => ?_)
          go_simp
          refine hK.out _ _ (fun _ => hS6) ?_
          clear hK
          try simp only [List.setIfInBounds_toArray, List.set_cons_zero, List.set_cons_succ, Act.put]
          refine oneT (i := 16) rfl (by kernel_rfl) (fun K hK => ?_)
          go_simp
          refine hK.out _ _ (fun _ => hS6) ?_
          clear hK
          try simp only [List.setIfInBounds_toArray, List.set_cons_zero, List.set_cons_succ, Act.put]
          refine oneT (i := 17) rfl (by kernel_rfl) (fun K hK => ?_)
          go_simp
          refine hK.out _ _ (fun _ => hS6) ?_
          clear hK
          try simp only [List.setIfInBounds_toArray, List.set_cons_zero, List.set_cons_succ, Act.put]
          refine oneT (i := 18) rfl (by kernel_rfl) (fun K hK => ?_)
          go_simp
          refine hK.out _ _ (fun q => absurd rfl q) ?_
          refine doneT (by kernel_rfl) ?_ _
          go_wp2_with fail
          go_ret2
          exact HP.out
        · obtain ⟨a, b, c, rfl⟩ := len_three (HX.out.n2 rfl)
          obtain rfl := HL.out (by decide)
          obtain ⟨g, cap, hv, hg1, hg2⟩ := HRN.out.form (by simp)
          cases hv
          have n0 := HRN.out.cellAt 0 (by simp)
          have n1 := HRN.out.cellAt 1 (by simp)
          have n2 := HRN.out.cellAt 2 (by simp)
          simp only [List.map_cons, List.map_nil, List.getElem?_cons_zero, List.getElem?_cons_succ] at n0 n1 n2
          obtain ⟨va, vcc, rfl⟩ := owns_slice HIW.out.wk
          have c1 := HIW.out.box.cell 2
          have f1 := HIW.out.box.fz 2
          have hClt := HIW.out.box.lt
          obtain ⟨i0, hi0, hz0, hz1, hz2⟩ := info_parts infoSf
          have hl1 := HL2.out
          go_upto_region 20 with fail
          have hS0 : (fun W : World => W.cell? ⟨C, 2, none⟩ = some (.slice va d.wk.length vcc) ∧ W.cell? ⟨g, 0, none⟩ = some (.int .i64 a) ∧ W.cell? ⟨g, 1, none⟩ = some (.int .i64 b) ∧ W.cell? ⟨g, 2, none⟩ = some (.int .i64 c)) wr.drew := ⟨c1, n0, n1, n2⟩
          refine anyT_start (S := fun W : World => W.cell? ⟨C, 2, none⟩ = some (.slice va d.wk.length vcc) ∧ W.cell? ⟨g, 0, none⟩ = some (.int .i64 a) ∧ W.cell? ⟨g, 1, none⟩ = some (.int .i64 b) ∧ W.cell? ⟨g, 2, none⟩ = some (.int .i64 c)) (t := 19) (by kernel_rfl) ?_
          have hbd : Below wr.heap.size wr wr.drew := (Below.refl _ _).drew
          have HID := Lib.hid (HIW.out.below hbd)
          have HBD := Lib.hid HBW.out.drew
          have HRD := Lib.hid (owns_below HRN.out hbd)
          have hwd : w.heap.size ≤ wr.drew.heap.size := HBD.out.size
          have hgd : g < wr.drew.heap.size := Nat.lt_of_lt_of_le hg2 hbd.size
          have hCd : C < wr.drew.heap.size := HID.out.box.lt
          clear c1 f1 n0 n1 n2 HIW HBW HRN hbd
          generalize wr.drew = wd at *
          refine takeT (i := 0) (v := ?_) rfl rfl (by kernel_rfl) (by kernel_rfl) (by kernel_rfl) (fun _ _ _ h => h) (by decide) (by kernel_rfl) (by kernel_rfl) ?_ hS0 ?_
          rotate_left
          · intro w hSw; (try dsimp only at hSw); go_simp; (try with_reducible rfl)
          simp only [List.setIfInBounds_toArray, List.set_cons_zero, List.set_cons_succ]
          refine takeT (i := 1) (v := ?_) rfl rfl (by kernel_rfl) (by kernel_rfl) (by kernel_rfl) (fun _ _ _ h => h) (by decide) (by kernel_rfl) (by kernel_rfl) ?_ hS0 ?_
          rotate_left
          · intro w hSw; (try dsimp only at hSw); go_simp; (try with_reducible rfl)
          simp only [List.setIfInBounds_toArray, List.set_cons_zero, List.set_cons_succ]
          refine takeT (i := 2) (v := ?_) rfl rfl (by kernel_rfl) (by kernel_rfl) (by kernel_rfl) (fun _ _ _ h => h) (by decide) (by kernel_rfl) (by kernel_rfl) ?_ hS0 ?_
          rotate_left
          · intro w hSw; (try dsimp only at hSw); go_simp; (try with_reducible rfl)
          simp only [List.setIfInBounds_toArray, List.set_cons_zero, List.set_cons_succ]
          refine takeT (i := 3) (v := ?_) rfl rfl (by kernel_rfl) (by kernel_rfl) (by kernel_rfl) (fun _ _ _ h => h) (by decide) (by kernel_rfl) (by kernel_rfl) ?_ hS0 ?_
          rotate_left
          · intro w hSw; (try dsimp only at hSw); go_simp; (try with_reducible rfl)
          simp only [List.setIfInBounds_toArray, List.set_cons_zero, List.set_cons_succ]
          refine takeT (i := 4) (v := ?_) rfl rfl (by kernel_rfl) (by kernel_rfl) (by kernel_rfl) (fun _ _ _ h => h) (by decide) (by kernel_rfl) (by kernel_rfl) ?_ hS0 ?_
          rotate_left
          · intro w hSw; (try dsimp only at hSw); go_simp; (try with_reducible rfl)
          simp only [List.setIfInBounds_toArray, List.set_cons_zero, List.set_cons_succ]
          refine takeT (i := 5) (v := ?_) rfl rfl (by kernel_rfl) (by kernel_rfl) (by kernel_rfl) (fun _ _ _ h => h) (by decide) (by kernel_rfl) (by kernel_rfl) ?_ hS0 ?_
          rotate_left
          · intro w hSw; (try dsimp only at hSw); go_simp; (try with_reducible rfl)
          simp only [List.setIfInBounds_toArray, List.set_cons_zero, List.set_cons_succ]
          refine takeT (i := 6) (v := ?_) rfl rfl (by kernel_rfl) (by kernel_rfl) (by kernel_rfl) (fun _ _ _ h => h) (by decide) (by kernel_rfl) (by kernel_rfl) ?_ hS0 ?_
          rotate_left
          · intro w hSw; (try dsimp only at hSw); go_simp; (try with_reducible rfl)
          simp only [List.setIfInBounds_toArray, List.set_cons_zero, List.set_cons_succ]
          refine takeT (i := 7) (v := ?_) rfl rfl (by kernel_rfl) (by kernel_rfl) (by kernel_rfl) (fun _ _ _ h => h) (by decide) (by kernel_rfl) (by kernel_rfl) ?_ hS0 ?_
          rotate_left
          · intro w hSw; (try dsimp only at hSw); go_simp; (try with_reducible rfl)
          simp only [List.setIfInBounds_toArray, List.set_cons_zero, List.set_cons_succ]
          refine takeT (i := 8) (v := ?_) rfl rfl (by kernel_rfl) (by kernel_rfl) (by kernel_rfl) (fun _ _ _ h => h) (by decide) (by kernel_rfl) (by kernel_rfl) ?_ hS0 ?_
          rotate_left
          · intro w hSw; (try dsimp only at hSw); go_simp; (try with_reducible rfl)
          simp only [List.setIfInBounds_toArray, List.set_cons_zero, List.set_cons_succ]
          refine takeT (i := 9) (v := ?_) rfl rfl (by kernel_rfl) (by kernel_rfl) (by kernel_rfl) (fun _ _ _ h => h) (by decide) (by kernel_rfl) (by kernel_rfl) ?_ hS0 ?_
          rotate_left
          · intro w hSw; (try dsimp only at hSw); go_simp; (try with_reducible rfl)
          simp only [List.setIfInBounds_toArray, List.set_cons_zero, List.set_cons_succ]
          refine takeT (i := 10) (v := ?_) rfl rfl (by kernel_rfl) (by kernel_rfl) (by kernel_rfl) (fun _ _ _ h => h) (by decide) (by kernel_rfl) (by kernel_rfl) ?_ hS0 ?_
          rotate_left
          · intro w hSw; (try dsimp only at hSw); go_simp; (try with_reducible rfl)
          simp only [List.setIfInBounds_toArray, List.set_cons_zero, List.set_cons_succ]
          refine takeT (i := 11) (v := ?_) rfl rfl (by kernel_rfl) (by kernel_rfl) (by kernel_rfl) (fun _ _ _ h => h) (by decide) (by kernel_rfl) (by kernel_rfl) ?_ hS0 ?_
          rotate_left
          · intro w hSw; (try dsimp only at hSw); go_simp; (try with_reducible rfl)
          simp only [List.setIfInBounds_toArray, List.set_cons_zero, List.set_cons_succ]
          refine takeT (i := 12) (v := ?_) rfl rfl (by kernel_rfl) (by kernel_rfl) (by kernel_rfl) (fun _ _ _ h => h) (by decide) (by kernel_rfl) (by kernel_rfl) ?_ hS0 ?_
          rotate_left
          · intro w hSw; (try dsimp only at hSw); go_simp; (try with_reducible rfl)
          simp only [List.setIfInBounds_toArray, List.set_cons_zero, List.set_cons_succ]
          refine takeT (i := 13) (v := ?_) rfl rfl (by kernel_rfl) (by kernel_rfl) (by kernel_rfl) (fun _ _ _ h => h) (by decide) (by kernel_rfl) (by kernel_rfl) ?_ hS0 ?_
          rotate_left
          · intro w hSw; (try dsimp only at hSw); go_simp; (try with_reducible rfl)
          simp only [List.setIfInBounds_toArray, List.set_cons_zero, List.set_cons_succ]
          refine takeT (i := 14) (v := ?_) rfl rfl (by kernel_rfl) (by kernel_rfl) (by kernel_rfl) (fun _ _ _ h => h) (by decide) (by kernel_rfl) (by kernel_rfl) ?_ hS0 ?_
          rotate_left
          · intro w hSw; (try dsimp only at hSw); go_simp; (try with_reducible rfl)
          simp only [List.setIfInBounds_toArray, List.set_cons_zero, List.set_cons_succ]
          refine oneT (i := 15) rfl (by kernel_rfl) (fun K hK => ?_)
          go_simp
          have hb6 : Below wd.heap.size wd (wd.alloc (.cells #[.int .i64 a, .int .i64 b, .int .i64 c] 54)) := (Below.refl _ _).alloc (Nat.le_refl _) _
          refine hK.out _ _ (fun _ => ⟨(below_cell hb6 hCd).trans hS0.1, (below_cell hb6 hgd).trans hS0.2.1, (below_cell hb6 hgd).trans hS0.2.2.1, (below_cell hb6 hgd).trans hS0.2.2.2⟩) ?_
          clear hK
          try simp only [List.setIfInBounds_toArray, List.set_cons_zero, List.set_cons_succ, Act.put]
          refine oneT (i := 16) rfl (by kernel_rfl) (fun K hK => ?_)
          refine step_append_lies _ (by rfl) _ _ _ (by rfl) B 54 i0 (.agg #[.int .i64 0, .int .i64 0, .int .i64 0]) 3 24 Tryd.underlying25 hi0 hz0 hz1 hz2 rfl (by omega) _ _ _ (by rfl) (HID.out.wk.alloc _) ⟨wd.heap.size, 0, none⟩ 1 1 [.int .i64 a, .int .i64 b, .int .i64 c] (by rfl) rfl (World.news_of_block (heap_alloc_new _ _)) (by simp [Value.oneCell']) (by omega) (by unfold maxLen; omega) (by omega) (by simp; omega) (wd.heap.size + 1) (by simp) ?_
          intro g' c' w6 hown1 hgrow hat hlt'
          have hown4 := HID.out.wk.alloc (.cells #[.int .i64 a, .int .i64 b, .int .i64 c] 54)
          have box6 := (HID.out.box.alloc (.cells #[.int .i64 a, .int .i64 b, .int .i64 c] 54)).kept_own hown4 (by decide) hgrow
          have cs6 := owns_kept_own (HID.out.cs.alloc (.cells #[.int .i64 a, .int .i64 b, .int .i64 c] 54)) hown4 (by decide) hgrow
          have sp6 := owns_kept_own (HID.out.sp.alloc (.cells #[.int .i64 a, .int .i64 b, .int .i64 c] 54)) hown4 (by decide) hgrow
          have r6 := owns_kept_own (HRD.out.alloc (.cells #[.int .i64 a, .int .i64 b, .int .i64 c] 54)) hown4 (by decide) hgrow
          have hb7 : Below B w w6 := ((HBD.out.mono hB).alloc (by omega) _).grown hgrow (by simp; omega) (fun q hq => (hown4.lt q hq).1)
          have s0 := r6.cellAt 0 (by simp)
          have s1 := r6.cellAt 1 (by simp)
          have s2 := r6.cellAt 2 (by simp)
          simp only [List.map_cons, List.map_nil, List.getElem?_cons_zero, List.getElem?_cons_succ] at s0 s1 s2
          have hS6 : (fun W : World => W.cell? ⟨C, 2, none⟩ = some (.slice va d.wk.length vcc) ∧ W.cell? ⟨g, 0, none⟩ = some (.int .i64 a) ∧ W.cell? ⟨g, 1, none⟩ = some (.int .i64 b) ∧ W.cell? ⟨g, 2, none⟩ = some (.int .i64 c)) w6 := ⟨box6.cell 2, s0, s1, s2⟩
          have f6 := box6.fz 2
          have z6 := box6.cell 2
          have hR7 : RdAt (w6.setCell ⟨C, 2, none⟩ (.slice (some ⟨g', 0, none⟩) (d.wk.length + 1) c')) B C (pushL d (2, [a, b, c])) [] vc (.slice (some ⟨g', 0, none⟩) (d.wk.length + 1) c') vs := by
            refine ⟨box6.set 2 (.slice (some ⟨g', 0, none⟩) (d.wk.length + 1) c'), owns_kept_has cs6 box6 (by decide) (grownBy_set _ _ _ _), ?_, owns_kept_has sp6 box6 (by decide) (grownBy_set _ _ _ _), HID.out.gs, (fun x hx => by cases hx), HID.out.le⟩
            have h' : w6.ownsRow B 54 3 (.slice (some ⟨g', 0, none⟩) (d.wk.length + 1) c') (d.wk ++ [(a, b, c)]).length ((d.wk ++ [(a, b, c)]).flatMap encSf) := by simpa [encSf] using hown1
            exact owns_kept_has h' box6 (by decide) (grownBy_set _ _ _ _)
          have hb8 : Below B w (w6.setCell ⟨C, 2, none⟩ (.slice (some ⟨g', 0, none⟩) (d.wk.length + 1) c')) := hb7.setCell (p := ⟨C, 2, none⟩) HID.out.le _
          have HP := Lib.hid (show TakePost B C 2 [a, b, c] d w (.returned (.tuple #[.int .i64 ((2 : Nat) : Int), .bool true])) (w6.setCell ⟨C, 2, none⟩ (.slice (some ⟨g', 0, none⟩) (d.wk.length + 1) c')) from ⟨rfl, hb8, hb8.size, _, _, _, _, hR7⟩)
          refine hK.out _ _ (fun _ => hS6) ?_
          clear hK hown1 hgrow hat hlt' hown4 box6 cs6 sp6 r6 hb7 s0 s1 s2 hR7 hb8 hb6 hS0 HID HBD HRD
          try simp only [List.setIfInBounds_toArray, List.set_cons_zero, List.set_cons_succ, Act.put]
          refine oneT (i := 17) rfl (by kernel_rfl) (fun K hK => ?_)
          go_simp
          refine hK.out _ _ (fun _ => hS6) ?_
          clear hK
          try simp only [List.setIfInBounds_toArray, List.set_cons_zero, List.set_cons_succ, Act.put]
          refine oneT (i := 18) rfl (by kernel_rfl) (fun K hK => ?_)
          go_simp
          refine hK.out _ _ (fun _ => hS6) ?_
          clear hK
          try simp only [List.setIfInBounds_toArray, List.set_cons_zero, List.set_cons_succ, Act.put]
          refine oneT (i := 19) rfl (by kernel_rfl) (fun K hK => ?_)
          go_simp
          refine hK.out _ _ (fun q => absurd rfl q) ?_
          refine doneT (by kernel_rfl) ?_ _
          go_wp2_with fail
          go_ret2
          exact HP.out
        · have hodd : ns.length % 2 = 1 := HX.out.n3 rfl
          obtain ⟨a, r, hcons⟩ : ∃ a r, ns = a :: r := by
            cases ns with
            | nil => simp at hodd
            | cons a r => exact ⟨a, r, rfl⟩
          obtain ⟨g, cap, hv, hg1, hg2⟩ := HRN.out.form (by omega)
          cases hv
          have n0 := HRN.out.cellAt 0 (by omega)
          rw [hcons, List.map_cons, List.getElem?_cons_zero] at n0
          have HC := Lib.hid hcons
          have hpos : 0 < ns.length := by omega
          clear hcons
          have hbx := box1 wr #[.int .i64 a, .slice none 0 0] 56
          have HKEEP := Lib.hid (show ∀ W, Below wr.heap.size (wr.alloc (.cells #[.int .i64 a, .slice none 0 0] 56)) W → RdAt W B C d lg vc vk vs ∧ W.ownsRow wc.heap.size 3 1 (.slice (some ⟨g, 0, none⟩) ns.length cn) ns.length (ns.map (Value.int .i64)) ∧ Below B w W ∧ w.heap.size ≤ W.heap.size from fun W hb => ⟨HIW.out.below (hbx.2.trans hb), owns_below HRN.out (hbx.2.trans hb), (below_up HBW.out (hbx.2.trans hb) hwr).mono hB, (below_up HBW.out (hbx.2.trans hb) hwr).size⟩)
          have HBS := Lib.hid hbx.1
          have HOLD := Lib.hid (show ∀ q, vs.ownBlock = some q → q < wr.heap.size from fun q hq => (HIW.out.sp.lt q hq).2)
          have q6 : ((ns.length : Int) % 2 == 1) = true := by
            have e : (ns.length : Int) % 2 = 1 := by omega
            simp [e]
          clear HIW HBW HRN hbx
          go_wp2_with fail
          clear q6
          have hws : wr.heap.size < (wr.alloc (.cells #[.int .i64 a, .slice none 0 0] 56)).heap.size := by simp
          generalize wr.heap.size = Bs at *
          generalize wr.alloc (.cells #[.int .i64 a, .slice none 0 0] 56) = wb at *
          go_loopw [16] (fun iv wx => ∃ i m vsh, iv = .int .i64 ((i : Nat) : Int) ∧ i = 1 + 2 * m ∧ i ≤ ns.length ∧ Has wx Bs #[.int .i64 a, vsh] 56 ∧ wx.ownsRow wb.heap.size 54 3 vsh m ((pairsL (r.take (2 * m))).flatMap encSf) ∧ Below Bs wb wx) (fun iv _ => ns.length - (intOf iv).toNat)
          case atStart => exact ⟨1, 0, _, rfl, rfl, by omega, HBS.out, by simpa [pairsL] using World.ownsRow_nil _ _ _ _, Below.refl _ _⟩
          case round =>
            obtain ⟨i, m, vsh, rfl, him, hile, hbs, hro, hbz⟩ := hrel
            obtain ⟨sa, sc, rfl⟩ := owns_slice hro
            obtain ⟨hI, hR, hBw, hsz⟩ := HKEEP.out _ hbz
            have hwb : wb.heap.size ≤ wr.heap.size := hbz.size
            by_cases hlt : i < ns.length
            · have hi1 : i + 1 < ns.length := by omega
              have m0 := hR.cellAt i (by omega)
              have m1 := hR.cellAt (i + 1) (by omega)
              rw [List.getElem?_map, List.getElem?_eq_getElem hlt, Option.map_some] at m0
              rw [List.getElem?_map, List.getElem?_eq_getElem hi1, Option.map_some] at m1
              have HPN := Lib.hid (pairs_next HC.out him hi1)
              generalize hx0 : ns[i] = x at *
              generalize hy0 : ns[i + 1] = y at *
              have HX0 := Lib.hid hx0
              have HY0 := Lib.hid hy0
              clear hx0 hy0
              have hm : m ≤ 25 := by omega
              have c1 := hbs.cell 1
              have hgl : g < wr.heap.size := by have := hR.form (by omega); obtain ⟨g', cap', hv, _, h⟩ := this; cases hv; exact h
              have w1 : IntKind.i64.wrap ((i : Int) + 1) = (i : Int) + 1 := IntWalk.i64_in _ (by omega)
              have w2' : IntKind.i64.wrap ((i : Int) + 2) = (i : Int) + 2 := IntWalk.i64_in _ (by omega)
              have t1 : ((i : Int) + 1).toNat = i + 1 := by omega
              have b1 : (i : Int) + 1 < (ns.length : Int) := by omega
              have b2 : (0 : Int) ≤ (i : Int) + 1 := by omega
              have b3 : (i : Int) < (ns.length : Int) := by omega
              obtain ⟨i0, hi0, hz0, hz1, hz2⟩ := info_parts infoSf
              have HIM := Lib.hid him
              clear him hile
              have HBSX := Lib.hid hbs
              have HRX := Lib.hid hR
              have HRO := Lib.hid hro
              have HBZ := Lib.hid hbz
              clear hI hR hBw hbs hro hbz HBS
              go_upto_region 26 with fail
              have hS0 : (fun W : World => W.cell? ⟨Bs, 1, none⟩ = some (.slice sa m sc) ∧ W.cell? ⟨g, i, none⟩ = some (.int .i64 x) ∧ W.cell? ⟨g, i + 1, none⟩ = some (.int .i64 y)) wr.drew := ⟨c1, m0, m1⟩
              refine anyT_start (S := fun W : World => W.cell? ⟨Bs, 1, none⟩ = some (.slice sa m sc) ∧ W.cell? ⟨g, i, none⟩ = some (.int .i64 x) ∧ W.cell? ⟨g, i + 1, none⟩ = some (.int .i64 y)) (t := 15) (by kernel_rfl) ?_
              have hbd : Below wr.heap.size wr wr.drew := (Below.refl _ _).drew
              have HBD := Lib.hid HBZ.out.drew
              have HBSD := Lib.hid (HBSX.out.below hbd HBSX.out.lt)
              have HRD := Lib.hid (owns_below HRX.out hbd)
              have HOD := Lib.hid (owns_below HRO.out hbd)
              have hwd : wb.heap.size ≤ wr.drew.heap.size := HBD.out.size
              have hgd : g < wr.drew.heap.size := Nat.lt_of_lt_of_le hgl hbd.size
              have hBd : Bs < wr.drew.heap.size := HBSD.out.lt
              clear c1 m0 m1 HBSX HRX HRO HBZ hbd
              generalize wr.drew = wd at *
              refine takeT (i := 0) (v := ?_) rfl rfl (by kernel_rfl) (by kernel_rfl) (by kernel_rfl) (fun _ _ _ h => h) (by decide) (by kernel_rfl) (by kernel_rfl) ?_ hS0 ?_
              rotate_left
              · intro w hSw; (try dsimp only at hSw); go_simp; (try with_reducible rfl)
              simp only [List.setIfInBounds_toArray, List.set_cons_zero, List.set_cons_succ]
              refine takeT (i := 1) (v := ?_) rfl rfl (by kernel_rfl) (by kernel_rfl) (by kernel_rfl) (fun _ _ _ h => h) (by decide) (by kernel_rfl) (by kernel_rfl) ?_ hS0 ?_
              rotate_left
              · intro w hSw; (try dsimp only at hSw); go_simp; (try with_reducible rfl)
              simp only [List.setIfInBounds_toArray, List.set_cons_zero, List.set_cons_succ]
              refine takeT (i := 2) (v := ?_) rfl rfl (by kernel_rfl) (by kernel_rfl) (by kernel_rfl) (fun _ _ _ h => h) (by decide) (by kernel_rfl) (by kernel_rfl) ?_ hS0 ?_
              rotate_left
              · intro w hSw; (try dsimp only at hSw); go_simp; (try with_reducible rfl)
              simp only [List.setIfInBounds_toArray, List.set_cons_zero, List.set_cons_succ]
              refine takeT (i := 3) (v := ?_) rfl rfl (by kernel_rfl) (by kernel_rfl) (by kernel_rfl) (fun _ _ _ h => h) (by decide) (by kernel_rfl) (by kernel_rfl) ?_ hS0 ?_
              rotate_left
              · intro w hSw; (try dsimp only at hSw); go_simp; (try with_reducible rfl)
              simp only [List.setIfInBounds_toArray, List.set_cons_zero, List.set_cons_succ]
              refine takeT (i := 4) (v := ?_) rfl rfl (by kernel_rfl) (by kernel_rfl) (by kernel_rfl) (fun _ _ _ h => h) (by decide) (by kernel_rfl) (by kernel_rfl) ?_ hS0 ?_
              rotate_left
              · intro w hSw; (try dsimp only at hSw); go_simp; (try with_reducible rfl)
              simp only [List.setIfInBounds_toArray, List.set_cons_zero, List.set_cons_succ]
              refine takeT (i := 5) (v := ?_) rfl rfl (by kernel_rfl) (by kernel_rfl) (by kernel_rfl) (fun _ _ _ h => h) (by decide) (by kernel_rfl) (by kernel_rfl) ?_ hS0 ?_
              rotate_left
              · intro w hSw; (try dsimp only at hSw); go_simp; (try with_reducible rfl)
              simp only [List.setIfInBounds_toArray, List.set_cons_zero, List.set_cons_succ]
              refine takeT (i := 6) (v := ?_) rfl rfl (by kernel_rfl) (by kernel_rfl) (by kernel_rfl) (fun _ _ _ h => h) (by decide) (by kernel_rfl) (by kernel_rfl) ?_ hS0 ?_
              rotate_left
              · intro w hSw; (try dsimp only at hSw); go_simp; (try with_reducible rfl)
              simp only [List.setIfInBounds_toArray, List.set_cons_zero, List.set_cons_succ]
              refine takeT (i := 7) (v := ?_) rfl rfl (by kernel_rfl) (by kernel_rfl) (by kernel_rfl) (fun _ _ _ h => h) (by decide) (by kernel_rfl) (by kernel_rfl) ?_ hS0 ?_
              rotate_left
              · intro w hSw; (try dsimp only at hSw); go_simp; (try with_reducible rfl)
              simp only [List.setIfInBounds_toArray, List.set_cons_zero, List.set_cons_succ]
              refine takeT (i := 8) (v := ?_) rfl rfl (by kernel_rfl) (by kernel_rfl) (by kernel_rfl) (fun _ _ _ h => h) (by decide) (by kernel_rfl) (by kernel_rfl) ?_ hS0 ?_
              rotate_left
              · intro w hSw; (try dsimp only at hSw); go_simp; (try with_reducible rfl)
              simp only [List.setIfInBounds_toArray, List.set_cons_zero, List.set_cons_succ]
              refine takeT (i := 9) (v := ?_) rfl rfl (by kernel_rfl) (by kernel_rfl) (by kernel_rfl) (fun _ _ _ h => h) (by decide) (by kernel_rfl) (by kernel_rfl) ?_ hS0 ?_
              rotate_left
              · intro w hSw; (try dsimp only at hSw); go_simp; (try with_reducible rfl)
              simp only [List.setIfInBounds_toArray, List.set_cons_zero, List.set_cons_succ]
              refine takeT (i := 10) (v := ?_) rfl rfl (by kernel_rfl) (by kernel_rfl) (by kernel_rfl) (fun _ _ _ h => h) (by decide) (by kernel_rfl) (by kernel_rfl) ?_ hS0 ?_
              rotate_left
              · intro w hSw; (try dsimp only at hSw); go_simp; (try with_reducible rfl)
              simp only [List.setIfInBounds_toArray, List.set_cons_zero, List.set_cons_succ]
              refine takeT (i := 11) (v := ?_) rfl rfl (by kernel_rfl) (by kernel_rfl) (by kernel_rfl) (fun _ _ _ h => h) (by decide) (by kernel_rfl) (by kernel_rfl) ?_ hS0 ?_
              rotate_left
              · intro w hSw; (try dsimp only at hSw); go_simp; (try with_reducible rfl)
              simp only [List.setIfInBounds_toArray, List.set_cons_zero, List.set_cons_succ]
              refine oneT (i := 12) rfl (by kernel_rfl) (fun K hK => ?_)
              go_simp
              have hb6 : Below wd.heap.size wd (wd.alloc (.cells #[.int .i64 0, .int .i64 x, .int .i64 y] 54)) := (Below.refl _ _).alloc (Nat.le_refl _) _
              refine hK.out _ _ (fun _ => ⟨(below_cell hb6 hBd).trans hS0.1, (below_cell hb6 hgd).trans hS0.2.1, (below_cell hb6 hgd).trans hS0.2.2⟩) ?_
              clear hK
              try simp only [List.setIfInBounds_toArray, List.set_cons_zero, List.set_cons_succ, Act.put]
              refine oneT (i := 13) rfl (by kernel_rfl) (fun K hK => ?_)
              refine step_append_lies _ (by rfl) _ _ _ (by rfl) wb.heap.size 54 i0 (.agg #[.int .i64 0, .int .i64 0, .int .i64 0]) 3 24 Tryd.underlying25 hi0 hz0 hz1 hz2 rfl (by omega) _ _ _ (by rfl) (HOD.out.alloc _) ⟨wd.heap.size, 0, none⟩ 1 1 [.int .i64 0, .int .i64 x, .int .i64 y] (by rfl) rfl (World.news_of_block (heap_alloc_new _ _)) (by simp [Value.oneCell']) (by omega) (by unfold maxLen; omega) (by omega) (by simp; omega) (wd.heap.size + 1) (by simp) ?_
              intro g' c' w6 hown1 hgrow hat hlt'
              have hown4 := HOD.out.alloc (.cells #[.int .i64 0, .int .i64 x, .int .i64 y] 54)
              have box6 := (HBSD.out.alloc (.cells #[.int .i64 0, .int .i64 x, .int .i64 y] 54)).kept_own hown4 (by decide) hgrow
              have r6 := owns_kept_own (HRD.out.alloc (.cells #[.int .i64 0, .int .i64 x, .int .i64 y] 54)) hown4 (by decide) hgrow
              have s0 := r6.cellAt i (by omega)
              have s1 := r6.cellAt (i + 1) (by omega)
              rw [List.getElem?_map, List.getElem?_eq_getElem hlt, HX0.out, Option.map_some] at s0
              rw [List.getElem?_map, List.getElem?_eq_getElem hi1, HY0.out, Option.map_some] at s1
              have hb7 : Below Bs wb w6 := (HBD.out.alloc (by omega) _).grown hgrow (by simp; omega) (fun q hq => by have := (hown4.lt q hq).1; omega)
              have hS6 : (fun W : World => W.cell? ⟨Bs, 1, none⟩ = some (.slice sa m sc) ∧ W.cell? ⟨g, i, none⟩ = some (.int .i64 x) ∧ W.cell? ⟨g, i + 1, none⟩ = some (.int .i64 y)) w6 := ⟨box6.cell 1, s0, s1⟩
              have f6 := box6.fz 1
              have z6 := box6.cell 1
              have h' : w6.ownsRow wb.heap.size 54 3 (.slice (some ⟨g', 0, none⟩) (m + 1) c') (m + 1) ((pairsL (r.take (2 * (m + 1)))).flatMap encSf) := by
                rw [HPN.out, List.flatMap_append]
                simpa [encSf] using hown1
              have H7 := Lib.hid (And.intro (box6.set 1 (.slice (some ⟨g', 0, none⟩) (m + 1) c')) (And.intro (owns_kept_has h' box6 (by decide) (grownBy_set _ _ 1 (.slice (some ⟨g', 0, none⟩) (m + 1) c'))) (hb7.setCell (p := ⟨Bs, 1, none⟩) (Nat.le_refl _) (.slice (some ⟨g', 0, none⟩) (m + 1) c'))))
              refine hK.out _ _ (fun _ => hS6) ?_
              clear hK hown1 hgrow hat hlt' hown4 box6 r6 hb7 s0 s1 h' hb6 hS0 HBD HBSD HRD HOD HPN HX0 HY0
              try simp only [List.setIfInBounds_toArray, List.set_cons_zero, List.set_cons_succ, Act.put]
              refine oneT (i := 14) rfl (by kernel_rfl) (fun K hK => ?_)
              go_simp
              refine hK.out _ _ (fun _ => hS6) ?_
              clear hK
              try simp only [List.setIfInBounds_toArray, List.set_cons_zero, List.set_cons_succ, Act.put]
              refine oneT (i := 15) rfl (by kernel_rfl) (fun K hK => ?_)
              go_simp
              refine hK.out _ _ (fun q => absurd rfl q) ?_
              refine doneT (by kernel_rfl) ?_ _
              go_wp2_with fail
              go_roundw
              case rel => exact ⟨i + 2, by omega, m + 1, by have := HIM.out; omega, by have := HIM.out; omega, .slice (some ⟨g', 0, none⟩) (m + 1) c', H7.out.1, H7.out.2.1, H7.out.2.2⟩
              case measure => have := HIM.out; simp [intOf]; omega
            · have hrl : r.length = 2 * m := by
                have e := congrArg List.length HC.out
                rw [List.length_cons] at e
                omega
              rw [List.take_of_length_le (by omega : r.length ≤ 2 * m)] at hro
              have hpl := pairs_length m r hrl
              have hBb : B ≤ wb.heap.size := Nat.le_trans hB (HKEEP.out wb (Below.refl _ _)).2.2.2
              obtain ⟨ta, tc, rfl⟩ := owns_slice hI.sp
              have c1 := hI.box.cell 3
              have b0 := hbs.cell 0
              have b1 := hbs.cell 1
              have hl3 := HL3.out
              obtain ⟨i0, hi0, hz0, hz1, hz2⟩ := info_parts infoSpc
              have hbd : Below wr.heap.size wr wr.drew := (Below.refl _ _).drew
              have HID := Lib.hid (hI.below hbd)
              have HBD := Lib.hid hBw.drew
              have HSD := Lib.hid (hbs.below hbd hbs.lt)
              have HOD := Lib.hid (owns_base (owns_below hro hbd) hBb)
              have hwd : w.heap.size ≤ wr.drew.heap.size := Nat.le_trans hsz hbd.size
              clear hI hR hBw hbs hro hbz HBS him hile
              go_upto_region 27 with fail
              have hS0 : (fun W : World => W.cell? ⟨C, 3, none⟩ = some (.slice ta lg.length tc) ∧ W.cell? ⟨Bs, 0, none⟩ = some (.int .i64 a) ∧ W.cell? ⟨Bs, 1, none⟩ = some (.slice sa m sc)) wr.drew := ⟨c1, b0, b1⟩
              refine anyT_start (S := fun W : World => W.cell? ⟨C, 3, none⟩ = some (.slice ta lg.length tc) ∧ W.cell? ⟨Bs, 0, none⟩ = some (.int .i64 a) ∧ W.cell? ⟨Bs, 1, none⟩ = some (.slice sa m sc)) (t := 10) (by kernel_rfl) ?_
              clear c1 b0 b1 hbd
              have hCd : C < wr.drew.heap.size := HID.out.box.lt
              have hSd : Bs < wr.drew.heap.size := HSD.out.lt
              generalize wr.drew = wd at *
              refine takeT (i := 0) (v := ?_) rfl rfl (by kernel_rfl) (by kernel_rfl) (by kernel_rfl) (fun _ _ _ h => h) (by decide) (by kernel_rfl) (by kernel_rfl) ?_ hS0 ?_
              rotate_left
              · intro w hSw; (try dsimp only at hSw); go_simp; (try with_reducible rfl)
              simp only [List.setIfInBounds_toArray, List.set_cons_zero, List.set_cons_succ]
              refine takeT (i := 1) (v := ?_) rfl rfl (by kernel_rfl) (by kernel_rfl) (by kernel_rfl) (fun _ _ _ h => h) (by decide) (by kernel_rfl) (by kernel_rfl) ?_ hS0 ?_
              rotate_left
              · intro w hSw; (try dsimp only at hSw); go_simp; (try with_reducible rfl)
              simp only [List.setIfInBounds_toArray, List.set_cons_zero, List.set_cons_succ]
              refine takeT (i := 2) (v := ?_) rfl rfl (by kernel_rfl) (by kernel_rfl) (by kernel_rfl) (fun _ _ _ h => h) (by decide) (by kernel_rfl) (by kernel_rfl) ?_ hS0 ?_
              rotate_left
              · intro w hSw; (try dsimp only at hSw); go_simp; (try with_reducible rfl)
              simp only [List.setIfInBounds_toArray, List.set_cons_zero, List.set_cons_succ]
              refine takeT (i := 3) (v := ?_) rfl rfl (by kernel_rfl) (by kernel_rfl) (by kernel_rfl) (fun _ _ _ h => h) (by decide) (by kernel_rfl) (by kernel_rfl) ?_ hS0 ?_
              rotate_left
              · intro w hSw; (try dsimp only at hSw); go_simp; (try with_reducible rfl)
              simp only [List.setIfInBounds_toArray, List.set_cons_zero, List.set_cons_succ]
              refine takeT (i := 4) (v := ?_) rfl rfl (by kernel_rfl) (by kernel_rfl) (by kernel_rfl) (fun _ _ _ h => h) (by decide) (by kernel_rfl) (by kernel_rfl) ?_ hS0 ?_
              rotate_left
              · intro w hSw; (try dsimp only at hSw); go_simp; (try with_reducible rfl)
              simp only [List.setIfInBounds_toArray, List.set_cons_zero, List.set_cons_succ]
              refine takeT (i := 5) (v := ?_) rfl rfl (by kernel_rfl) (by kernel_rfl) (by kernel_rfl) (fun _ _ _ h => h) (by decide) (by kernel_rfl) (by kernel_rfl) ?_ hS0 ?_
              rotate_left
              · intro w hSw; (try dsimp only at hSw); go_simp; (try with_reducible rfl)
              simp only [List.setIfInBounds_toArray, List.set_cons_zero, List.set_cons_succ]
              refine oneT (i := 6) rfl (by kernel_rfl) (fun K hK => ?_)
              go_simp
              have hb6 : Below wd.heap.size wd (wd.alloc (.cells #[.int .i64 a, .slice sa m sc] 56)) := (Below.refl _ _).alloc (Nat.le_refl _) _
              refine hK.out _ _ (fun _ => ⟨(below_cell hb6 hCd).trans hS0.1, (below_cell hb6 hSd).trans hS0.2.1, (below_cell hb6 hSd).trans hS0.2.2⟩) ?_
              clear hK
              try simp only [List.setIfInBounds_toArray, List.set_cons_zero, List.set_cons_succ, Act.put]
              refine oneT (i := 7) rfl (by kernel_rfl) (fun K hK => ?_)
              refine step_append_lies _ (by rfl) _ _ _ (by rfl) B 56 i0 (.agg #[.int .i64 0, .slice none 0 0]) 2 32 Tryd.underlying26 hi0 hz0 hz1 hz2 rfl (by omega) _ _ _ (by rfl) (HID.out.sp.alloc _) ⟨wd.heap.size, 0, none⟩ 1 1 [.int .i64 a, .slice sa m sc] (by rfl) rfl (World.news_of_block (heap_alloc_new _ _)) (by simp [Value.oneCell']) (by omega) (by unfold maxLen; omega) (by omega) (by simp; omega) (wd.heap.size + 1) (by simp) ?_
              intro g' c' w6 hown1 hgrow hat hlt'
              have CE := HOLD.out
              have hown4 := HID.out.sp.alloc (.cells #[.int .i64 a, .slice sa m sc] 56)
              have box6 := (HID.out.box.alloc (.cells #[.int .i64 a, .slice sa m sc] 56)).kept_own hown4 (by decide) hgrow
              have cs6 := owns_kept_own (HID.out.cs.alloc (.cells #[.int .i64 a, .slice sa m sc] 56)) hown4 (by decide) hgrow
              have wk6 := owns_kept_own (HID.out.wk.alloc (.cells #[.int .i64 a, .slice sa m sc] 56)) hown4 (by decide) hgrow
              have n6 := owns_kept_own (HOD.out.alloc (.cells #[.int .i64 a, .slice sa m sc] 56)) hown4 (by decide) hgrow
              have e6 : ∀ x ∈ lg, w6.ownsRow B 54 3 x.2.1 x.2.2.length (x.2.2.flatMap encSf) := fun x hx => owns_kept_own ((HID.out.each x hx).alloc (.cells #[.int .i64 a, .slice sa m sc] 56)) hown4 (by decide) hgrow
              have s6 := (HSD.out.alloc (.cells #[.int .i64 a, .slice sa m sc] 56)).kept hgrow (fun q => Nat.lt_irrefl _ (CE Bs q.symm))
              have hb7 : Below B w w6 := (HBD.out.alloc (by omega) _).grown hgrow (by simp; omega) (fun q hq => (hown4.lt q hq).1)
              have hS6 : (fun W : World => W.cell? ⟨C, 3, none⟩ = some (.slice ta lg.length tc) ∧ W.cell? ⟨Bs, 0, none⟩ = some (.int .i64 a) ∧ W.cell? ⟨Bs, 1, none⟩ = some (.slice sa m sc)) w6 := ⟨box6.cell 3, s6.cell 0, s6.cell 1⟩
              have f6 := box6.fz 3
              have z6 := box6.cell 3
              have hR7 : RdAt (w6.setCell ⟨C, 3, none⟩ (.slice (some ⟨g', 0, none⟩) (lg.length + 1) c')) B C (pushL d (3, ns)) (lg ++ [(a, .slice sa m sc, pairsL r)]) vc vk (.slice (some ⟨g', 0, none⟩) (lg.length + 1) c') := by
                rw [HC.out]
                have h' : w6.ownsRow B 56 2 (.slice (some ⟨g', 0, none⟩) (lg.length + 1) c') (lg ++ [(a, Value.slice sa m sc, pairsL r)]).length ((lg ++ [(a, Value.slice sa m sc, pairsL r)]).flatMap encGt) := by simpa [encGt] using hown1
                refine ⟨box6.set 3 (.slice (some ⟨g', 0, none⟩) (lg.length + 1) c'), owns_kept_has cs6 box6 (by decide) (grownBy_set _ _ _ _), owns_kept_has wk6 box6 (by decide) (grownBy_set _ _ _ _), owns_kept_has h' box6 (by decide) (grownBy_set _ _ _ _), ?_, ?_, HID.out.le⟩
                · simp [HID.out.gs, pushL]
                · intro x hx
                  rcases List.mem_append.1 hx with q | q
                  · exact owns_kept_has (e6 x q) box6 (by decide) (grownBy_set _ _ _ _)
                  · obtain rfl := List.mem_singleton.1 q
                    refine owns_kept_has ?_ box6 (by decide) (grownBy_set _ _ _ _)
                    show w6.ownsRow B 54 3 (.slice sa m sc) (pairsL r).length ((pairsL r).flatMap encSf)
                    rw [hpl]; exact n6
              have hb8 : Below B w (w6.setCell ⟨C, 3, none⟩ (.slice (some ⟨g', 0, none⟩) (lg.length + 1) c')) := hb7.setCell (p := ⟨C, 3, none⟩) HID.out.le _
              have HP := Lib.hid (show TakePost B C 3 ns d w (.returned (.tuple #[.int .i64 ((3 : Nat) : Int), .bool true])) (w6.setCell ⟨C, 3, none⟩ (.slice (some ⟨g', 0, none⟩) (lg.length + 1) c')) from ⟨rfl, hb8, hb8.size, _, _, _, _, hR7⟩)
              refine hK.out _ _ (fun _ => hS6) ?_
              clear hK hown1 hgrow hat hlt' hown4 box6 cs6 wk6 n6 e6 s6 hb7 hR7 hb8 hb6 hS0 HID HBD HSD HOD CE HOLD
              try simp only [List.setIfInBounds_toArray, List.set_cons_zero, List.set_cons_succ, Act.put]
              refine oneT (i := 8) rfl (by kernel_rfl) (fun K hK => ?_)
              go_simp
              refine hK.out _ _ (fun _ => hS6) ?_
              clear hK
              try simp only [List.setIfInBounds_toArray, List.set_cons_zero, List.set_cons_succ, Act.put]
              refine oneT (i := 9) rfl (by kernel_rfl) (fun K hK => ?_)
              go_simp
              refine hK.out _ _ (fun _ => hS6) ?_
              clear hK
              try simp only [List.setIfInBounds_toArray, List.set_cons_zero, List.set_cons_succ, Act.put]
              refine oneT (i := 10) rfl (by kernel_rfl) (fun K hK => ?_)
              go_simp
              refine hK.out _ _ (fun q => absurd rfl q) ?_
              refine doneT (by kernel_rfl) ?_ _
              go_wp2_with fail
              go_ret2
              exact HP.out
end Go.Proofs.YtjkmehbmnhdcpaaDoor
