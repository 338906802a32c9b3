/- The walk of the function that know.Differ tells an edit by. -/
import Derived.Test.YtogfekjopelfbaaDoorKmCom
import Derived.Test.YtogfekjopelfbaaDoorStrs
import Derived.Test.YtogfekjopelfbaaDoorOrd
import Derived.Deep.RegionLaw
import Derived.Deep.AppendLies
namespace Go.Proofs.YtogfekjopelfbaaDoor
open Go.RowKit

theorem infoEdit : (Tryd.prog.info? 38).map (fun i => (i.zero, i.size, i.bytes)) = some (some (.agg #[.int .i64 0, .int .i64 0, .slice none 0 0]), 3, 40) := by kernel_rfl
/-- an edit in memory: the value of what it adds -/
structure EdV where
  d : Ed
  v : Value
def EdV.cells (x : EdV) : List Value := [.int .i64 (x.d.pos : Nat), .int .i64 (x.d.cut : Nat), x.v]
structure Eds (w : World) (B : Nat) (ov : Value) (acc : List EdV) : Prop where
  own : w.ownsRow B 38 3 ov acc.length (acc.flatMap EdV.cells)
  adds : ∀ x ∈ acc, w.ownsRow B 9 1 x.v x.d.add.length (x.d.add.map Value.string)
theorem Eds.nil (w : World) (B : Nat) : Eds w B (.slice none 0 0) [] := ⟨World.ownsRow_nil _ _ _ _, fun x h => by cases h⟩
theorem Eds.kept_has {w w' : World} {B : Nat} {ov : Value} {acc : List EdV} (h : Eds w B ov acc) {b : Nat} {cs : Array Value} {t : TypeId} (hb : Has w b cs t) (h1 : t ≠ 38) (h2 : t ≠ 9) (hg : w.grownBy w' (some b)) : Eds w' B ov acc :=
  ⟨owns_kept_has h.own hb h1 hg, fun x hx => owns_kept_has (h.adds x hx) hb h2 hg⟩
theorem Eds.below {w w' : World} {B : Nat} {ov : Value} {acc : List EdV} (h : Eds w B ov acc) (hb : Below w.heap.size w w') : Eds w' B ov acc :=
  ⟨owns_below h.own hb, fun x hx => owns_below (h.adds x hx) hb⟩
def edR (w : World) (cs : List Value) (x : Ed) : Prop := ∃ v, cs = [.int .i64 (x.pos : Nat), .int .i64 (x.cut : Nat), v] ∧ SliceAt 1 strR w v x.add
theorem edR_stable : Stable edR := fun _ _ _ _ ⟨v, h1, h2⟩ hb => ⟨v, h1, h2.stable strR_stable hb⟩
theorem Eds.slice {w : World} {B : Nat} {ov : Value} {acc : List EdV} (h : Eds w B ov acc) : SliceAt 3 edR w ov (acc.map EdV.d) := by
  have hs : SliceAt 3 (fun w cs (x : EdV) => edR w cs x.d) w ov acc :=
    slice_of_owns EdV.cells h.own (fun _ _ => rfl) (fun x hx => ⟨x.v, rfl, slice_of_owns1 Value.string (h.adds x hx) (fun _ _ => rfl)⟩)
  rcases hs with ⟨a, cap, rfl, rfl⟩ | ⟨b, off, cap, rfl, hc, hb, h⟩
  · exact .inl ⟨a, cap, rfl, rfl⟩
  · refine .inr ⟨b, off, cap, by simp, by simpa using hc, hb, fun i hi => ?_⟩
    obtain ⟨cs, h1, h2⟩ := h i (by simpa using hi)
    exact ⟨cs, h1, by simpa using h2⟩

/-- the four captured variables -/
structure TB (w : World) (Bx bi bj bo i j : Nat) (ov : Value) (acc : List EdV) : Prop where
  ci : Has w bi #[.int .i64 (i : Nat)] 3
  cj : Has w bj #[.int .i64 (j : Nat)] 3
  co : Has w bo #[ov] 23
  got : Eds w Bx ov acc
  gi : Bx ≤ bi
  gj : Bx ≤ bj
  go : Bx ≤ bo
  nij : bi ≠ bj
theorem TB.below {w w' : World} {Bx bi bj bo i j : Nat} {ov : Value} {acc : List EdV} (h : TB w Bx bi bj bo i j ov acc) (hb : Below w.heap.size w w') : TB w' Bx bi bj bo i j ov acc :=
  ⟨h.ci.below hb h.ci.lt, h.cj.below hb h.cj.lt, h.co.below hb h.co.lt, h.got.below hb, h.gi, h.gj, h.go, h.nij⟩
theorem TB.to {w : World} {Bx bi bj bo i j : Nat} {ov : Value} {acc : List EdV} (h : TB w Bx bi bj bo i j ov acc) {u v : Int} {k l : Nat} (hu : u = (k : Nat)) (hv : v = (l : Nat)) :
    TB ((w.setCell ⟨bi, 0, none⟩ (.int .i64 u)).setCell ⟨bj, 0, none⟩ (.int .i64 v)) Bx bi bj bo k l ov acc := by
  have h1 := h.ci.set 0 (.int .i64 u)
  have h2 := h.cj.set_other 0 (.int .i64 u) (Ne.symm h.nij)
  have h3 := h.co.set_other 0 (.int .i64 u) (has_types h.co h.ci (by decide))
  have h4 := h.got.kept_has h.ci (by decide) (by decide) (grownBy_set w bi 0 (.int .i64 u))
  refine ⟨?_, ?_, h3.set_other _ _ (has_types h3 h2 (by decide)), h4.kept_has h2 (by decide) (by decide) (grownBy_set _ _ _ _), h.gi, h.gj, h.go, h.nij⟩
  · have := h1.set_other (c := bj) 0 (.int .i64 v) h.nij
    rw [hu] at this ⊢
    exact this
  · have := h2.set 0 (.int .i64 v)
    rw [hv] at this ⊢
    exact this

def TellPost (Bx bi bj bo k l : Nat) (es : List Ed) (w : World) (e : Ending) (w' : World) : Prop :=
  e = .returned (.tuple #[]) ∧ Below Bx w w' ∧ w.heap.size ≤ w'.heap.size ∧ ∃ ov acc, TB w' Bx bi bj bo k l ov acc ∧ acc.map EdV.d = es

set_option maxRecDepth 100000 in
set_option maxHeartbeats 1000000 in
theorem tell_skip (Bx bi bj bo by_ i j : Nat) (ov : Value) (acc : List EdV) (w : World) (h : TB w Bx bi bj bo i j ov acc) (_hB : Bx ≤ w.heap.size) (hi : i ≤ 5000) (hj : j ≤ 5000) :
    Calls Tryd.prog 12 #[.int .i64 (i : Nat), .int .i64 (j : Nat), .pointer (some ⟨bi, 0, none⟩), .pointer (some ⟨bj, 0, none⟩), .pointer (some ⟨bo, 0, none⟩), .pointer (some ⟨by_, 0, none⟩)] w
      (TellPost Bx bi bj bo (i + 1) (j + 1) (acc.map EdV.d) w) := by
  have c1 := h.ci.cell 0
  have c2 := h.cj.cell 0
  have f1 := h.ci.fz 0
  have f2 := h.cj.fz 0
  have hn := h.nij
  have hn' : bj ≠ bi := Ne.symm hn
  have q1 : decide ((i : Int) < (i : Int)) = false := by simp
  have q2 : decide ((j : Int) < (j : Int)) = false := by simp
  have s1 : IntKind.i64.wrap ((i : Int) + 1) = (i : Int) + 1 := IntWalk.i64_in _ (by omega)
  have s2 : IntKind.i64.wrap ((j : Int) + 1) = (j : Int) + 1 := IntWalk.i64_in _ (by omega)
  have H := Lib.hid h
  clear h
  go_enter Tryd.func12, Tryd.ntmps12
  go_wp2_with fail
  refine bodyPost_end (by first | exact results_none rfl _ _ _) rfl ?_
  exact ⟨rfl, (((Below.refl _ _).setCell (p := ⟨bi, 0, none⟩) H.out.gi _).setCell (p := ⟨bj, 0, none⟩) H.out.gj _), by simp, _, _, H.out.to (by go_num) (by go_num), rfl⟩

def ClonePost (l : List ByteArray) (w : World) (e : Ending) (w' : World) : Prop :=
  ∃ a c, e = .returned (.slice a l.length c) ∧ w'.ownsRow w.heap.size 9 1 (.slice a l.length c) l.length (l.map Value.string) ∧ Below w.heap.size w w'
theorem clone_any (v : Value) (l : List ByteArray) (w : World) (h : SliceAt 1 strR w v l) (hl : l.length ≤ 100000) :
    Calls Tryd.prog 13 #[v] w (ClonePost l w) := by
  rcases h with ⟨a, cap, rfl, rfl⟩ | ⟨b, off, cap, rfl, hcap, hb, h⟩
  · cases a with
    | none =>
      refine (Tryd.slices_Clone_string_nil 0 cap w).mono ?_
      rintro e w' ⟨rfl, rfl⟩
      exact ⟨none, 0, rfl, World.ownsRow_nil _ _ _ _, Below.refl _ _⟩
    | some a =>
      refine (Tryd.slices_Clone_string_zero a cap w).mono ?_
      rintro e w' ⟨v', rfl, ho, _, hb⟩
      obtain ⟨a', c', rfl⟩ := owns_slice ho
      exact ⟨a', c', rfl, ho, hb⟩
  · refine (Tryd.slices_Clone_string b off l.length cap l w (Nat.le_refl _) (by omega) (fun j hj => ?_)).mono ?_
    · have := strs_cell h j l[j] (List.getElem?_eq_getElem hj)
      rw [this]
      simp [hj]
    · rintro e w' ⟨v', rfl, ho, _, hb⟩
      rw [List.take_length] at ho
      obtain ⟨a', c', rfl⟩ := owns_slice ho
      exact ⟨a', c', rfl, ho, hb⟩

set_option maxRecDepth 100000 in
set_option maxHeartbeats 4000000 in
theorem tell_emit (Bx bi bj bo by_ Y oy cy i j k l : Nat) (ov : Value) (acc : List EdV) (y : List ByteArray) (w : World) (h : TB w Bx bi bj bo i j ov acc) (hB : Bx ≤ w.heap.size) (hy : w.cell? ⟨by_, 0, none⟩ = some (.slice (some ⟨Y, oy, none⟩) y.length cy))
    (hY : Y < w.heap.size) (hyc : y.length ≤ cy) (hel : ∀ i (h : i < y.length), ∃ cs, ElemAt w Y oy 1 i cs ∧ strR w cs y[i]) (hik : i ≤ k) (hjl : j ≤ l) (hk : k ≤ 5000) (hl : l ≤ y.length) (hyl : y.length ≤ 5000) (hgt : i < k ∨ j < l) (hacc : acc.length ≤ 5000) (hbyB : by_ < Bx) :
    Calls Tryd.prog 12 #[.int .i64 (k : Nat), .int .i64 (l : Nat), .pointer (some ⟨bi, 0, none⟩), .pointer (some ⟨bj, 0, none⟩), .pointer (some ⟨bo, 0, none⟩), .pointer (some ⟨by_, 0, none⟩)] w
      (TellPost Bx bi bj bo (k + 1) (l + 1) (acc.map EdV.d ++ [edOf y i j k l]) w) := by
  obtain ⟨oa, oc, rfl⟩ := owns_slice h.got.own
  have c1 := h.ci.cell 0
  have c2 := h.cj.cell 0
  have c3 := h.co.cell 0
  have f3 := h.co.fz 0
  have li := h.ci.lt
  have lj := h.cj.lt
  have lo := h.co.lt
  have lby := World.block_lt_of_cell? w _ hy
  simp only at lby
  have hn1 : bo ≠ bi := has_types h.co h.ci (by decide)
  have hn2 : bo ≠ bj := has_types h.co h.cj (by decide)
  have hd : decide (i < k) = true ∨ decide (i < k) = false ∧ decide (j < l) = true := by
    rcases hgt with g | g
    · left; simpa using g
    · by_cases e : i < k
      · left; simpa using e
      · right; exact ⟨by simpa using Nat.le_of_not_lt e, by simpa using g⟩
  have hcl := clone_any (.slice (if cy = j then some ⟨Y, oy, none⟩ else some ⟨Y, oy + j, none⟩) (l - j) (cy - j)) ((y.drop j).take (l - j))
  have hsub : ∀ W, Below w.heap.size w W → SliceAt 1 strR W (.slice (if cy = j then some ⟨Y, oy, none⟩ else some ⟨Y, oy + j, none⟩) (l - j) (cy - j)) ((y.drop j).take (l - j)) := fun W hb => by
    by_cases e : cy = j
    · have e0 : l - j = 0 := by omega
      rw [if_pos e, e0, List.take_zero]
      exact .inl ⟨_, _, rfl, rfl⟩
    · rw [if_neg e]
      exact SliceAt.stable strR_stable (strs_sub hel hY hyc hjl hl) hb
  have hlen : ((y.drop j).take (l - j)).length = l - j := by simp; omega
  have hby := hy
  have HBY := Lib.hid hby
  clear hby
  have HED : Hid (edOf y i j k l = ⟨i, k - i, (y.drop j).take (l - j)⟩) := rfl
  have HSUB := Lib.hid hsub
  have HLEN := Lib.hid hlen
  have HCL := Lib.hid hcl
  have H := Lib.hid h
  have s0 : IntKind.i64.wrap ((k : Int) - (i : Int)) = ((k - i : Nat) : Int) := by rw [IntWalk.i64_in _ (by omega)]; omega
  have s3 : (0 : Int) ≤ (j : Int) := by omega
  have s4 : (j : Int) ≤ (l : Int) := by omega
  have s5 : (l : Int) ≤ (cy : Int) := by omega
  clear h hcl hsub hlen hel hgt
  obtain ⟨i0, hi0, hz0, hz1, hz2⟩ := info_parts infoEdit
  rcases hd with q1 | ⟨q1, q2⟩
  · go_enter Tryd.func12, Tryd.ntmps12
    go_upto_region 1 with fail
    go_cut [] (fun wx => ∃ ov' v4, TB wx Bx bi bj bo i j ov' (acc ++ [⟨edOf y i j k l, v4⟩]) ∧ Below Bx w wx ∧ w.heap.size ≤ wx.heap.size)
    case first =>
      have hS0 : (fun W : World => W.cell? ⟨bi, 0, none⟩ = some (.int .i64 (i : Nat)) ∧ W.cell? ⟨bj, 0, none⟩ = some (.int .i64 (j : Nat)) ∧ W.cell? ⟨bo, 0, none⟩ = some (.slice oa acc.length oc) ∧ W.cell? ⟨by_, 0, none⟩ = some (.slice (some ⟨Y, oy, none⟩) y.length cy)) w.drew := ⟨c1, c2, c3, hy⟩
      refine anyT_start (S := fun W : World => W.cell? ⟨bi, 0, none⟩ = some (.int .i64 (i : Nat)) ∧ W.cell? ⟨bj, 0, none⟩ = some (.int .i64 (j : Nat)) ∧ W.cell? ⟨bo, 0, none⟩ = some (.slice oa acc.length oc) ∧ W.cell? ⟨by_, 0, none⟩ = some (.slice (some ⟨Y, oy, none⟩) y.length cy)) (t := 13) (by kernel_rfl) ?_
      refine takeT (i := 0) (v := ?_) rfl rfl (by kernel_rfl) (by kernel_rfl) (by kernel_rfl) (fun _ _ _ h => h) (by decide) (by kernel_rfl) (by kernel_rfl) ?_ hS0 ?_
      rotate_left
      · intro w hSw; (try dsimp only at hSw); go_simp; (try with_reducible rfl)
      simp only [List.setIfInBounds_toArray, List.set_cons_zero, List.set_cons_succ]
      refine takeT (i := 1) (v := ?_) rfl rfl (by kernel_rfl) (by kernel_rfl) (by kernel_rfl) (fun _ _ _ h => h) (by decide) (by kernel_rfl) (by kernel_rfl) ?_ hS0 ?_
      rotate_left
      · intro w hSw; (try dsimp only at hSw); go_simp; (try with_reducible rfl)
      simp only [List.setIfInBounds_toArray, List.set_cons_zero, List.set_cons_succ]
      refine takeT (i := 2) (v := ?_) rfl rfl (by kernel_rfl) (by kernel_rfl) (by kernel_rfl) (fun _ _ _ h => h) (by decide) (by kernel_rfl) (by kernel_rfl) ?_ hS0 ?_
      rotate_left
      · intro w hSw; (try dsimp only at hSw); go_simp; (try with_reducible rfl)
      simp only [List.setIfInBounds_toArray, List.set_cons_zero, List.set_cons_succ]
      refine takeT (i := 3) (v := ?_) rfl rfl (by kernel_rfl) (by kernel_rfl) (by kernel_rfl) (fun _ _ _ h => h) (by decide) (by kernel_rfl) (by kernel_rfl) ?_ hS0 ?_
      rotate_left
      · intro w hSw; (try dsimp only at hSw); go_simp; (try with_reducible rfl)
      simp only [List.setIfInBounds_toArray, List.set_cons_zero, List.set_cons_succ]
      refine takeT (i := 4) (v := ?_) rfl rfl (by kernel_rfl) (by kernel_rfl) (by kernel_rfl) (fun _ _ _ h => h) (by decide) (by kernel_rfl) (by kernel_rfl) ?_ hS0 ?_
      rotate_left
      · intro w hSw; (try dsimp only at hSw); go_simp; (try with_reducible rfl)
      simp only [List.setIfInBounds_toArray, List.set_cons_zero, List.set_cons_succ]
      refine takeT (i := 5) (v := ?_) rfl rfl (by kernel_rfl) (by kernel_rfl) (by kernel_rfl) (fun _ _ _ h => h) (by decide) (by kernel_rfl) (by kernel_rfl) ?_ hS0 ?_
      rotate_left
      · intro w hSw; (try dsimp only at hSw); go_simp; (try with_reducible rfl)
      simp only [List.setIfInBounds_toArray, List.set_cons_zero, List.set_cons_succ]
      refine takeT (i := 6) (v := ?_) rfl rfl (by kernel_rfl) (by kernel_rfl) (by kernel_rfl) (fun _ _ _ h => h) (by decide) (by kernel_rfl) (by kernel_rfl) ?_ hS0 ?_
      rotate_left
      · intro w hSw; (try dsimp only at hSw); go_simp; (try with_reducible rfl)
      simp only [List.setIfInBounds_toArray, List.set_cons_zero, List.set_cons_succ]
      refine takeT (i := 7) (v := ?_) rfl rfl (by kernel_rfl) (by kernel_rfl) (by kernel_rfl) (fun _ _ _ h => h) (by decide) (by kernel_rfl) (by kernel_rfl) ?_ hS0 ?_
      rotate_left
      · intro w hSw; (try dsimp only at hSw); go_simp; (try with_reducible rfl)
      simp only [List.setIfInBounds_toArray, List.set_cons_zero, List.set_cons_succ]
      refine takeT (i := 8) (v := ?_) rfl rfl (by kernel_rfl) (by kernel_rfl) (by kernel_rfl) (fun _ _ _ h => h) (by decide) (by kernel_rfl) (by kernel_rfl) ?_ hS0 ?_
      rotate_left
      · intro w hSw; (try dsimp only at hSw); go_simp; (try with_reducible rfl)
      simp only [List.setIfInBounds_toArray, List.set_cons_zero, List.set_cons_succ]
      refine oneT (i := 9) rfl (by kernel_rfl) (fun K hK => ?_)
      go_simp
      refine (HCL.out _ (HSUB.out _ (Below.refl _ _).drew) (by rw [HLEN.out]; omega)).mono ?_
      rintro e w4 ⟨a4, c4, rfl, ho4, hb4⟩
      rw [HLEN.out]
      have hb5 : Below w.heap.size w w4 := (Below.refl _ _).drew.trans hb4
      have HO4 := Lib.hid ho4
      have HB4 := Lib.hid hb5
      have hz4 : w.heap.size ≤ w4.heap.size := hb5.size
      have hS4 : (fun W : World => W.cell? ⟨bi, 0, none⟩ = some (.int .i64 (i : Nat)) ∧ W.cell? ⟨bj, 0, none⟩ = some (.int .i64 (j : Nat)) ∧ W.cell? ⟨bo, 0, none⟩ = some (.slice oa acc.length oc) ∧ W.cell? ⟨by_, 0, none⟩ = some (.slice (some ⟨Y, oy, none⟩) y.length cy)) w4 := ⟨(below_cell hb5 li).trans c1, (below_cell hb5 lj).trans c2, (below_cell hb5 lo).trans c3, (below_cell hb5 lby).trans hy⟩
      have HW4 := Lib.hid (H.out.below hb5)
      refine hK.out _ _ (fun _ => hS4) ?_
      clear hb4 hb5 ho4 hK c1 c2 c3 f3 hy
      try simp only [List.setIfInBounds_toArray, List.set_cons_zero, List.set_cons_succ, Act.put]
      refine takeT (i := 10) (v := ?_) rfl rfl (by kernel_rfl) (by kernel_rfl) (by kernel_rfl) (fun _ _ _ h => h) (by decide) (by kernel_rfl) (by kernel_rfl) ?_ hS4 ?_
      rotate_left
      · intro w hSw; (try dsimp only at hSw); go_simp; (try with_reducible rfl)
      simp only [List.setIfInBounds_toArray, List.set_cons_zero, List.set_cons_succ]
      refine oneT (i := 11) rfl (by kernel_rfl) (fun K hK => ?_)
      go_simp
      have hb6 : Below w4.heap.size w4 (w4.alloc (.cells #[.int .i64 (i : Nat), .int .i64 ((k - i : Nat) : Nat), .slice a4 (l - j) c4] 38)) := (Below.refl _ _).alloc (Nat.le_refl _) _
      refine hK.out _ _ (fun _ => ⟨(below_cell hb6 (by omega)).trans hS4.1, (below_cell hb6 (by omega)).trans hS4.2.1, (below_cell hb6 (by omega)).trans hS4.2.2.1, (below_cell hb6 (by omega)).trans hS4.2.2.2⟩) ?_
      clear hK
      try simp only [List.setIfInBounds_toArray, List.set_cons_zero, List.set_cons_succ, Act.put]
      refine oneT (i := 12) rfl (by kernel_rfl) (fun K hK => ?_)
      refine step_append_lies _ (by rfl) _ _ _ (by rfl) Bx 38 i0 (.agg #[.int .i64 0, .int .i64 0, .slice none 0 0]) 3 40 Tryd.underlying23 hi0 hz0 hz1 hz2 rfl (by omega) _ _ _ (by rfl) (HW4.out.got.own.alloc _) ⟨w4.heap.size, 0, none⟩ 1 1 [.int .i64 (i : Nat), .int .i64 ((k - i : Nat) : Nat), .slice a4 (l - j) c4] (by rfl) rfl (World.news_of_block (heap_alloc_new _ _)) (by simp [Value.oneCell']) (by omega) (by unfold maxLen; omega) (by omega) (by simp; omega) (w4.heap.size + 1) (by simp) ?_
      intro g' c' w6 hown1 hgrow hat hlt'
      have hown4 := HW4.out.got.own.alloc (.cells #[.int .i64 (i : Nat), .int .i64 ((k - i : Nat) : Nat), .slice a4 (l - j) c4] 38)
      have hi6 := ((HW4.out.ci.alloc _).kept_own hown4 (by decide) hgrow)
      have hj6 := ((HW4.out.cj.alloc _).kept_own hown4 (by decide) hgrow)
      have ho6 := ((HW4.out.co.alloc _).kept_own hown4 (by decide) hgrow)
      have hb7 : Below Bx w w6 := (((HB4.out.mono hB).alloc (by omega) _)).grown hgrow (by simp; omega) (fun q hq => (hown4.lt q hq).1)
      have z4 := ho6.cell 0
      have z5 := ho6.fz 0
      have hT6 : TB (w6.setCell ⟨bo, 0, none⟩ (.slice (some ⟨g', 0, none⟩) (acc.length + 1) c')) Bx bi bj bo i j (.slice (some ⟨g', 0, none⟩) (acc.length + 1) c') (acc ++ [⟨edOf y i j k l, .slice a4 (l - j) c4⟩]) := by
        have hE6 : Eds w6 Bx (.slice (some ⟨g', 0, none⟩) (acc.length + 1) c') (acc ++ [⟨edOf y i j k l, .slice a4 (l - j) c4⟩]) := by
          refine ⟨by simpa [EdV.cells, HED.out] using hown1, fun x hx => ?_⟩
          rcases List.mem_append.1 hx with g | g
          · exact owns_kept_own ((HW4.out.got.adds x g).alloc _) hown4 (by decide) hgrow
          · obtain rfl : x = ⟨edOf y i j k l, .slice a4 (l - j) c4⟩ := by simpa using g
            have h4 := HO4.out
            rw [HLEN.out] at h4
            have h5 := owns_kept_own ((owns_base h4 (show Bx ≤ w.heap.size from hB)).alloc _) hown4 (by decide) hgrow
            simp only [HED.out, HLEN.out]
            exact h5
        refine ⟨hi6.set_other _ _ (Ne.symm hn1), hj6.set_other _ _ (Ne.symm hn2), ?_, hE6.kept_has ho6 (by decide) (by decide) (grownBy_set _ _ _ _), HW4.out.gi, HW4.out.gj, HW4.out.go, HW4.out.nij⟩
        have := ho6.set 0 (.slice (some ⟨g', 0, none⟩) (acc.length + 1) c')
        exact this
      have HT6 := Lib.hid hT6
      have HB7 := Lib.hid (hb7.setCell (p := ⟨bo, 0, none⟩) HW4.out.go (.slice (some ⟨g', 0, none⟩) (acc.length + 1) c'))
      have hz7 : w.heap.size ≤ w6.heap.size := hb7.size
      refine hK.out _ _ (fun _ => ⟨hi6.cell 0, hj6.cell 0, ho6.cell 0, (below_cell hb7 hbyB).trans HBY.out⟩) ?_
      clear hK hown1 hown4 hgrow hT6 hb7 hi6 hj6 ho6 hat hlt' hS4 hb6 hS0
      try simp only [List.setIfInBounds_toArray, Act.put]
      refine oneT (i := 13) rfl (by kernel_rfl) (fun K hK => ?_)
      go_simp
      refine hK.out _ _ (fun q => absurd rfl q) ?_
      refine doneT (by kernel_rfl) ?_ _
      go_wp2
      all_goals go_meet
      all_goals exact ⟨_, _, HT6.out, HB7.out, by simpa using hz7⟩
    case rest =>
      obtain ⟨ov', v4, hT, hBx, hsz⟩ := hcut
      have k1 := hT.ci.cell 0
      have k2 := hT.cj.cell 0
      have g1 := hT.ci.fz 0
      have g2 := hT.cj.fz 0
      have hn := hT.nij
      have hn' : bj ≠ bi := Ne.symm hn
      have u1 : IntKind.i64.wrap ((k : Int) + 1) = (k : Int) + 1 := IntWalk.i64_in _ (by omega)
      have u2 : IntKind.i64.wrap ((l : Int) + 1) = (l : Int) + 1 := IntWalk.i64_in _ (by omega)
      have HT := Lib.hid hT
      have HBX := Lib.hid hBx
      clear hT hBx c1 c2 c3 f3 hy
      go_wp2_with fail
      refine bodyPost_end (by first | exact results_none rfl _ _ _) rfl ?_
      exact ⟨rfl, ((HBX.out.setCell (p := ⟨bi, 0, none⟩) HT.out.gi _).setCell (p := ⟨bj, 0, none⟩) HT.out.gj _), by simpa using hsz, _, _, HT.out.to (by go_num) (by go_num), by simp⟩
  · go_enter Tryd.func12, Tryd.ntmps12
    go_upto_region 1 with fail
    go_cut [] (fun wx => ∃ ov' v4, TB wx Bx bi bj bo i j ov' (acc ++ [⟨edOf y i j k l, v4⟩]) ∧ Below Bx w wx ∧ w.heap.size ≤ wx.heap.size)
    case first =>
      have hS0 : (fun W : World => W.cell? ⟨bi, 0, none⟩ = some (.int .i64 (i : Nat)) ∧ W.cell? ⟨bj, 0, none⟩ = some (.int .i64 (j : Nat)) ∧ W.cell? ⟨bo, 0, none⟩ = some (.slice oa acc.length oc) ∧ W.cell? ⟨by_, 0, none⟩ = some (.slice (some ⟨Y, oy, none⟩) y.length cy)) w.drew := ⟨c1, c2, c3, hy⟩
      refine anyT_start (S := fun W : World => W.cell? ⟨bi, 0, none⟩ = some (.int .i64 (i : Nat)) ∧ W.cell? ⟨bj, 0, none⟩ = some (.int .i64 (j : Nat)) ∧ W.cell? ⟨bo, 0, none⟩ = some (.slice oa acc.length oc) ∧ W.cell? ⟨by_, 0, none⟩ = some (.slice (some ⟨Y, oy, none⟩) y.length cy)) (t := 13) (by kernel_rfl) ?_
      refine takeT (i := 0) (v := ?_) rfl rfl (by kernel_rfl) (by kernel_rfl) (by kernel_rfl) (fun _ _ _ h => h) (by decide) (by kernel_rfl) (by kernel_rfl) ?_ hS0 ?_
      rotate_left
      · intro w hSw; (try dsimp only at hSw); go_simp; (try with_reducible rfl)
      simp only [List.setIfInBounds_toArray, List.set_cons_zero, List.set_cons_succ]
      refine takeT (i := 1) (v := ?_) rfl rfl (by kernel_rfl) (by kernel_rfl) (by kernel_rfl) (fun _ _ _ h => h) (by decide) (by kernel_rfl) (by kernel_rfl) ?_ hS0 ?_
      rotate_left
      · intro w hSw; (try dsimp only at hSw); go_simp; (try with_reducible rfl)
      simp only [List.setIfInBounds_toArray, List.set_cons_zero, List.set_cons_succ]
      refine takeT (i := 2) (v := ?_) rfl rfl (by kernel_rfl) (by kernel_rfl) (by kernel_rfl) (fun _ _ _ h => h) (by decide) (by kernel_rfl) (by kernel_rfl) ?_ hS0 ?_
      rotate_left
      · intro w hSw; (try dsimp only at hSw); go_simp; (try with_reducible rfl)
      simp only [List.setIfInBounds_toArray, List.set_cons_zero, List.set_cons_succ]
      refine takeT (i := 3) (v := ?_) rfl rfl (by kernel_rfl) (by kernel_rfl) (by kernel_rfl) (fun _ _ _ h => h) (by decide) (by kernel_rfl) (by kernel_rfl) ?_ hS0 ?_
      rotate_left
      · intro w hSw; (try dsimp only at hSw); go_simp; (try with_reducible rfl)
      simp only [List.setIfInBounds_toArray, List.set_cons_zero, List.set_cons_succ]
      refine takeT (i := 4) (v := ?_) rfl rfl (by kernel_rfl) (by kernel_rfl) (by kernel_rfl) (fun _ _ _ h => h) (by decide) (by kernel_rfl) (by kernel_rfl) ?_ hS0 ?_
      rotate_left
      · intro w hSw; (try dsimp only at hSw); go_simp; (try with_reducible rfl)
      simp only [List.setIfInBounds_toArray, List.set_cons_zero, List.set_cons_succ]
      refine takeT (i := 5) (v := ?_) rfl rfl (by kernel_rfl) (by kernel_rfl) (by kernel_rfl) (fun _ _ _ h => h) (by decide) (by kernel_rfl) (by kernel_rfl) ?_ hS0 ?_
      rotate_left
      · intro w hSw; (try dsimp only at hSw); go_simp; (try with_reducible rfl)
      simp only [List.setIfInBounds_toArray, List.set_cons_zero, List.set_cons_succ]
      refine takeT (i := 6) (v := ?_) rfl rfl (by kernel_rfl) (by kernel_rfl) (by kernel_rfl) (fun _ _ _ h => h) (by decide) (by kernel_rfl) (by kernel_rfl) ?_ hS0 ?_
      rotate_left
      · intro w hSw; (try dsimp only at hSw); go_simp; (try with_reducible rfl)
      simp only [List.setIfInBounds_toArray, List.set_cons_zero, List.set_cons_succ]
      refine takeT (i := 7) (v := ?_) rfl rfl (by kernel_rfl) (by kernel_rfl) (by kernel_rfl) (fun _ _ _ h => h) (by decide) (by kernel_rfl) (by kernel_rfl) ?_ hS0 ?_
      rotate_left
      · intro w hSw; (try dsimp only at hSw); go_simp; (try with_reducible rfl)
      simp only [List.setIfInBounds_toArray, List.set_cons_zero, List.set_cons_succ]
      refine takeT (i := 8) (v := ?_) rfl rfl (by kernel_rfl) (by kernel_rfl) (by kernel_rfl) (fun _ _ _ h => h) (by decide) (by kernel_rfl) (by kernel_rfl) ?_ hS0 ?_
      rotate_left
      · intro w hSw; (try dsimp only at hSw); go_simp; (try with_reducible rfl)
      simp only [List.setIfInBounds_toArray, List.set_cons_zero, List.set_cons_succ]
      refine oneT (i := 9) rfl (by kernel_rfl) (fun K hK => ?_)
      go_simp
      refine (HCL.out _ (HSUB.out _ (Below.refl _ _).drew) (by rw [HLEN.out]; omega)).mono ?_
      rintro e w4 ⟨a4, c4, rfl, ho4, hb4⟩
      rw [HLEN.out]
      have hb5 : Below w.heap.size w w4 := (Below.refl _ _).drew.trans hb4
      have HO4 := Lib.hid ho4
      have HB4 := Lib.hid hb5
      have hz4 : w.heap.size ≤ w4.heap.size := hb5.size
      have hS4 : (fun W : World => W.cell? ⟨bi, 0, none⟩ = some (.int .i64 (i : Nat)) ∧ W.cell? ⟨bj, 0, none⟩ = some (.int .i64 (j : Nat)) ∧ W.cell? ⟨bo, 0, none⟩ = some (.slice oa acc.length oc) ∧ W.cell? ⟨by_, 0, none⟩ = some (.slice (some ⟨Y, oy, none⟩) y.length cy)) w4 := ⟨(below_cell hb5 li).trans c1, (below_cell hb5 lj).trans c2, (below_cell hb5 lo).trans c3, (below_cell hb5 lby).trans hy⟩
      have HW4 := Lib.hid (H.out.below hb5)
      refine hK.out _ _ (fun _ => hS4) ?_
      clear hb4 hb5 ho4 hK c1 c2 c3 f3 hy
      try simp only [List.setIfInBounds_toArray, List.set_cons_zero, List.set_cons_succ, Act.put]
      refine takeT (i := 10) (v := ?_) rfl rfl (by kernel_rfl) (by kernel_rfl) (by kernel_rfl) (fun _ _ _ h => h) (by decide) (by kernel_rfl) (by kernel_rfl) ?_ hS4 ?_
      rotate_left
      · intro w hSw; (try dsimp only at hSw); go_simp; (try with_reducible rfl)
      simp only [List.setIfInBounds_toArray, List.set_cons_zero, List.set_cons_succ]
      refine oneT (i := 11) rfl (by kernel_rfl) (fun K hK => ?_)
      go_simp
      have hb6 : Below w4.heap.size w4 (w4.alloc (.cells #[.int .i64 (i : Nat), .int .i64 ((k - i : Nat) : Nat), .slice a4 (l - j) c4] 38)) := (Below.refl _ _).alloc (Nat.le_refl _) _
      refine hK.out _ _ (fun _ => ⟨(below_cell hb6 (by omega)).trans hS4.1, (below_cell hb6 (by omega)).trans hS4.2.1, (below_cell hb6 (by omega)).trans hS4.2.2.1, (below_cell hb6 (by omega)).trans hS4.2.2.2⟩) ?_
      clear hK
      try simp only [List.setIfInBounds_toArray, List.set_cons_zero, List.set_cons_succ, Act.put]
      refine oneT (i := 12) rfl (by kernel_rfl) (fun K hK => ?_)
      refine step_append_lies _ (by rfl) _ _ _ (by rfl) Bx 38 i0 (.agg #[.int .i64 0, .int .i64 0, .slice none 0 0]) 3 40 Tryd.underlying23 hi0 hz0 hz1 hz2 rfl (by omega) _ _ _ (by rfl) (HW4.out.got.own.alloc _) ⟨w4.heap.size, 0, none⟩ 1 1 [.int .i64 (i : Nat), .int .i64 ((k - i : Nat) : Nat), .slice a4 (l - j) c4] (by rfl) rfl (World.news_of_block (heap_alloc_new _ _)) (by simp [Value.oneCell']) (by omega) (by unfold maxLen; omega) (by omega) (by simp; omega) (w4.heap.size + 1) (by simp) ?_
      intro g' c' w6 hown1 hgrow hat hlt'
      have hown4 := HW4.out.got.own.alloc (.cells #[.int .i64 (i : Nat), .int .i64 ((k - i : Nat) : Nat), .slice a4 (l - j) c4] 38)
      have hi6 := ((HW4.out.ci.alloc _).kept_own hown4 (by decide) hgrow)
      have hj6 := ((HW4.out.cj.alloc _).kept_own hown4 (by decide) hgrow)
      have ho6 := ((HW4.out.co.alloc _).kept_own hown4 (by decide) hgrow)
      have hb7 : Below Bx w w6 := (((HB4.out.mono hB).alloc (by omega) _)).grown hgrow (by simp; omega) (fun q hq => (hown4.lt q hq).1)
      have z4 := ho6.cell 0
      have z5 := ho6.fz 0
      have hT6 : TB (w6.setCell ⟨bo, 0, none⟩ (.slice (some ⟨g', 0, none⟩) (acc.length + 1) c')) Bx bi bj bo i j (.slice (some ⟨g', 0, none⟩) (acc.length + 1) c') (acc ++ [⟨edOf y i j k l, .slice a4 (l - j) c4⟩]) := by
        have hE6 : Eds w6 Bx (.slice (some ⟨g', 0, none⟩) (acc.length + 1) c') (acc ++ [⟨edOf y i j k l, .slice a4 (l - j) c4⟩]) := by
          refine ⟨by simpa [EdV.cells, HED.out] using hown1, fun x hx => ?_⟩
          rcases List.mem_append.1 hx with g | g
          · exact owns_kept_own ((HW4.out.got.adds x g).alloc _) hown4 (by decide) hgrow
          · obtain rfl : x = ⟨edOf y i j k l, .slice a4 (l - j) c4⟩ := by simpa using g
            have h4 := HO4.out
            rw [HLEN.out] at h4
            have h5 := owns_kept_own ((owns_base h4 (show Bx ≤ w.heap.size from hB)).alloc _) hown4 (by decide) hgrow
            simp only [HED.out, HLEN.out]
            exact h5
        refine ⟨hi6.set_other _ _ (Ne.symm hn1), hj6.set_other _ _ (Ne.symm hn2), ?_, hE6.kept_has ho6 (by decide) (by decide) (grownBy_set _ _ _ _), HW4.out.gi, HW4.out.gj, HW4.out.go, HW4.out.nij⟩
        have := ho6.set 0 (.slice (some ⟨g', 0, none⟩) (acc.length + 1) c')
        exact this
      have HT6 := Lib.hid hT6
      have HB7 := Lib.hid (hb7.setCell (p := ⟨bo, 0, none⟩) HW4.out.go (.slice (some ⟨g', 0, none⟩) (acc.length + 1) c'))
      have hz7 : w.heap.size ≤ w6.heap.size := hb7.size
      refine hK.out _ _ (fun _ => ⟨hi6.cell 0, hj6.cell 0, ho6.cell 0, (below_cell hb7 hbyB).trans HBY.out⟩) ?_
      clear hK hown1 hown4 hgrow hT6 hb7 hi6 hj6 ho6 hat hlt' hS4 hb6 hS0
      try simp only [List.setIfInBounds_toArray, Act.put]
      refine oneT (i := 13) rfl (by kernel_rfl) (fun K hK => ?_)
      go_simp
      refine hK.out _ _ (fun q => absurd rfl q) ?_
      refine doneT (by kernel_rfl) ?_ _
      go_wp2
      all_goals go_meet
      all_goals exact ⟨_, _, HT6.out, HB7.out, by simpa using hz7⟩
    case rest =>
      obtain ⟨ov', v4, hT, hBx, hsz⟩ := hcut
      have k1 := hT.ci.cell 0
      have k2 := hT.cj.cell 0
      have g1 := hT.ci.fz 0
      have g2 := hT.cj.fz 0
      have hn := hT.nij
      have hn' : bj ≠ bi := Ne.symm hn
      have u1 : IntKind.i64.wrap ((k : Int) + 1) = (k : Int) + 1 := IntWalk.i64_in _ (by omega)
      have u2 : IntKind.i64.wrap ((l : Int) + 1) = (l : Int) + 1 := IntWalk.i64_in _ (by omega)
      have HT := Lib.hid hT
      have HBX := Lib.hid hBx
      clear hT hBx c1 c2 c3 f3 hy
      go_wp2_with fail
      refine bodyPost_end (by first | exact results_none rfl _ _ _) rfl ?_
      exact ⟨rfl, ((HBX.out.setCell (p := ⟨bi, 0, none⟩) HT.out.gi _).setCell (p := ⟨bj, 0, none⟩) HT.out.gj _), by simpa using hsz, _, _, HT.out.to (by go_num) (by go_num), by simp⟩

end Go.Proofs.YtogfekjopelfbaaDoor
