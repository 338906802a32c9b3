/- The walk of route.order, behind its comparison: positions, sorted. -/
import Derived.Test.YtemikhnkjligdaaGreatDoorQRfOrd
import Derived.Test.YtemikhnkjligdaaGreatDoorQRfAt
import Derived.Test.YtemikhnkjligdaaGreatDoorQRfWrk
namespace Go.Proofs.YtemikhnkjligdaaGreatDoor
open Go Go.RowKit Go.Sort Go.Shelf

/-- positions that exist -/
abbrev Pos (n : Nat) := { i : Nat // i < n }
def encP {n : Nat} (x : Pos n) : Value := .int .i64 ((x.1 : Nat) : Int)
def posL (n : Nat) : List (Pos n) := (List.range n).pmap Subtype.mk (fun _ h => List.mem_range.1 h)
theorem posL_val (n : Nat) : (posL n).map Subtype.val = List.range n := by
  unfold posL
  rw [List.map_pmap]
  simp
theorem posL_length (n : Nat) : (posL n).length = n := by simp [posL]
theorem encP_map {n : Nat} (l : List (Pos n)) : l.map encP = (l.map Subtype.val).map fun i => Value.int .i64 ((i : Nat) : Int) := by
  rw [List.map_map]; rfl
set_option maxRecDepth 100000 in
theorem sortI_any {n g cap V B : Nat} {ls : List WkD} {va : Value} {w0 w : World} (hn : 0 < n) (hln : ls.length = n) (hl : n ≤ 200) (hw : Wks w0 va ls) (hb : Below w0.heap.size w0 w) (hV : w.cell? ⟨V, 0, none⟩ = some va) (hVl : V < w.heap.size) (hVg : V ≠ g)
    (hB : w0.heap.size ≤ B) (h : w.ownsRow B 3 1 (.slice (some ⟨g, 0, none⟩) n cap) n ((List.range n).map fun i => .int .i64 ((i : Nat) : Int))) :
    Calls Tryz.prog 54 #[.slice (some ⟨g, 0, none⟩) n cap, .func (.func 55) #[] #[.pointer (some ⟨V, 0, none⟩)]] w fun e w' => e = .returned (.tuple #[]) ∧ ∃ os : List Nat, os.Perm (List.range n) ∧
      w'.ownsRow B 3 1 (.slice (some ⟨g, 0, none⟩) n cap) n (os.map fun i => .int .i64 ((i : Nat) : Int)) ∧ w.grownBy w' (some g) := by
  haveI : Inhabited (Pos n) := ⟨⟨0, hn⟩⟩
  have hBg : B ≤ g := (h.lt g rfl).1
  have h' : w.ownsRow B 3 1 (.slice (some ⟨g, 0, none⟩) (posL n).length cap) (posL n).length ((posL n).map encP) := by
    rw [encP_map, posL_val, posL_length]
    exact h
  obtain ⟨hH, hblk, hback⟩ := owns_sort1 h'
  have eg : ∀ args w, (callFunc 55 args).run Tryz.prog w = .ok (.enter 55 args) w := enters_of Tryz.func55 (by kernel_rfl) rfl
  have hcmp : CmpLays1 Tryz.prog 55 #[.pointer (some ⟨V, 0, none⟩)] (encP (n := n)) (fun a b => cmpW (wk ls a.1) (wk ls b.1)) g 0 (posL n).toArray.size w := by
    intro m os dk hs x y
    have hg := grownBy_sorted1 (w := w) (g := g) (n := m) (enc := encP (n := n)) (os := os) dk
    have hbW : Below w0.heap.size w0 (sortWorld (encP (n := n)) w g 0 m dk os) := below_grown hb hg hb.size (by omega)
    have hVW : (sortWorld (encP (n := n)) w g 0 m dk os).cell? ⟨V, 0, none⟩ = some va := by
      have e := hg.block V hVl (by simpa using hVg)
      simp only [World.cell?, e]
      exact hV
    have hx : x.1 < ls.length := by have := x.2; omega
    have hy : y.1 < ls.length := by have := y.2; omega
    have hc := cloOrd ls V va _ hVW (Nat.lt_of_lt_of_le hVl hg.size) (hw.below hbW) x.1 y.1 hx hy
    rw [← wk_at hx, ← wk_at hy] at hc
    exact hc.mono fun e w' ⟨h1, h2⟩ => ⟨h1, h2.grows⟩
  have hcon := Tryz.slices_SortFunc (encP (n := n)) (fun x => rfl) (fun a b => cmpW (wk ls a.1) (wk ls b.1)) (swoW _) 55 #[.pointer (some ⟨V, 0, none⟩)] g 0 cap (posL n).toArray w eg hcmp hH hblk (by simp [posL_length]; omega)
  simp only [List.size_toArray, posL_length] at hcon
  refine hcon.mono ?_
  rintro e w' ⟨rfl, d, q, os, hp, _, rfl⟩
  obtain ⟨p1, p2⟩ := perm_of_in (l := posL n) (by simpa [posL_length] using hp)
  refine ⟨rfl, d.toList.map Subtype.val, by rw [← posL_val]; exact p1.map _, ?_, grownBy_sorted1 d⟩
  have := hback d q os p2
  rw [posL_length, encP_map] at this
  exact this
structure OrdInv (w wr : World) (va : Value) (i : Nat) (v : Value) : Prop where
  own : wr.ownsRow (w.heap.size + 1) 3 1 v i ((List.range i).map fun i => .int .i64 ((i : Nat) : Int))
  box : wr.cell? ⟨w.heap.size, 0, none⟩ = some va
  lt : w.heap.size < wr.heap.size
  below : Below w.heap.size w wr
set_option maxRecDepth 100000 in
set_option maxHeartbeats 1000000 in
theorem order_any (ls : List WkD) (v : Value) (w : World) (h : Wks w v ls) (hl : ls.length ≤ 200) :
    Calls Tryz.prog 35 #[v] w fun e w' => ∃ os : List Nat, ∃ vo, e = .returned vo ∧ os.Perm (List.range ls.length) ∧ w'.ownsRow (w.heap.size + 1) 3 1 vo os.length (os.map fun i => .int .i64 ((i : Nat) : Int)) ∧ Below w.heap.size w w' := by
  obtain ⟨a, cap, rfl⟩ := SliceAt.len h
  have H := Lib.hid h
  obtain ⟨bx, bbl⟩ := box1 w #[.slice a ls.length cap] 25
  have k0 := bx.cell 0
  have hxl := bx.lt
  have HB1 := Lib.hid bbl
  clear h
  go_enter Tryz.func35, Tryz.ntmps35
  go_upto_region 1 with fail
  generalize w.alloc (.cells #[.slice a ls.length cap] 25) = w1 at *
  have HK0 := Lib.hid k0
  clear bx bbl
  go_wp2_with fail
  go_loopw [3, 7] (fun lv iv wr => ∃ i : Nat, iv = .int .i64 ((i : Nat) : Int) ∧ i ≤ ls.length ∧ OrdInv w wr (.slice a ls.length cap) i lv) (fun _ iv _ => ls.length - (intOf iv).toNat)
  case atStart => exact ⟨0, rfl, Nat.zero_le _, ⟨rfl, .inl ⟨rfl, rfl⟩⟩, HK0.out, hxl, HB1.out⟩
  case round =>
    obtain ⟨i, rfl, hi, hI⟩ := hrel
    have HI := Lib.hid hI
    have hown := hI.own
    obtain ⟨la, lc, rfl⟩ := owns_slice hown
    have HO := Lib.hid hown
    have hwl := hI.lt
    clear hI hown k0
    by_cases hlt : i < ls.length
    · obtain ⟨bx2, bbl2⟩ := box1 wr #[.int .i64 ((i : Nat) : Int)] 3
      have HBB := Lib.hid bbl2
      clear bx2 bbl2
      go_wp2_with (at_builtin; go_must (refine append_one rfl _ _ 39 rfl (w.heap.size + 1) 3 (.int .i64 0) 1 8 Tryz.underlying39 infoInt rfl (by decide) wr wr (.slice la i lc) i ((List.range i).map fun i => .int .i64 ((i : Nat) : Int)) rfl HO.out [.int .i64 ((i : Nat) : Int)] rfl rfl rfl (by intro u hu; rw [List.mem_singleton.1 hu]; rfl) (by omega) (by omega) (by omega) (Below.refl _ _) ?_); intro v' w6 ho hb6 hg6 hn6)
      have hbx6 : w6.cell? ⟨w.heap.size, 0, none⟩ = some (.slice a ls.length cap) := by
        rw [below_cell hb6 (by omega)]
        exact HI.out.box
      have HN := Lib.hid (show OrdInv w w6 (.slice a ls.length cap) (i + 1) v' from ⟨by rw [List.range_succ, List.map_append]; exact ho, hbx6, Nat.lt_of_lt_of_le hwl hg6.size, HI.out.below.trans (hb6.mono (by omega))⟩)
      obtain ⟨va, vc, rfl⟩ := owns_slice ho
      clear ho hb6 hg6 hn6 hbx6
      go_wp2_with fail
      go_roundw
      case rel => exact ⟨i + 1, by go_num, hlt, HN.out⟩
      case measure => simp [intOf]; omega
    · obtain rfl : i = ls.length := by omega
      rcases Nat.eq_zero_or_pos ls.length with h0 | hpos
      · obtain rfl := List.eq_nil_of_length_eq_zero h0
        go_wp2_with fail
        refine (Tryz.slices_SortFunc_none (α := Nat) la lc _ wr).mono ?_
        rintro e w' ⟨rfl, rfl⟩
        go_wp2_with fail
        go_ret
        exact ⟨[], _, rfl, List.Perm.refl _, HO.out, HI.out.below⟩
      · obtain ⟨g, rfl, hgB⟩ : ∃ g, la = some ⟨g, 0, none⟩ ∧ w.heap.size + 1 ≤ g := by
          rcases HO.out.2 with ⟨_, q⟩ | ⟨g, _, _, hv, hg, _⟩
          · omega
          · cases hv
            exact ⟨g, rfl, hg⟩
        have HC := Lib.hid (sortI_any (w0 := w) hpos rfl hl H.out HI.out.below HI.out.box hwl (by omega) (by omega) HO.out)
        go_wp2_with fail
        refine HC.out.mono ?_
        rintro e w5 ⟨rfl, os, hp, ho, hg⟩
        have HP := Lib.hid hp
        have HBE := Lib.hid (below_grown HI.out.below hg HI.out.below.size (by omega))
        have HS := Lib.hid (show w5.ownsRow (w.heap.size + 1) 3 1 (.slice (some ⟨g, 0, none⟩) ls.length lc) os.length (os.map fun i => .int .i64 ((i : Nat) : Int)) from by
          rw [show os.length = ls.length by rw [hp.length_eq, List.length_range]]
          exact ho)
        clear hp ho hg HC
        go_wp2_with fail
        go_ret
        exact ⟨os, _, rfl, HP.out, HS.out, HBE.out⟩
end Go.Proofs.YtemikhnkjligdaaGreatDoor

/- Plain laws between the walk of choose and the law of what is given out. -/
namespace Go.Proofs.YtemikhnkjligdaaGreatDoor
open Go Go.RowKit

theorem SliceAt.mapped {α β : Type} {sz : Nat} {R : World → List Value → β → Prop} {w : World} {v : Value} {l : List α} (g : α → β) (h : SliceAt sz (fun w cs x => R w cs (g x)) w v l) : SliceAt sz R w v (l.map g) := by
  rcases h with ⟨a, cap, rfl, rfl⟩ | ⟨b, off, cap, rfl, hcp, hbl, h⟩
  · exact .inl ⟨a, cap, rfl, rfl⟩
  · refine .inr ⟨b, off, cap, by rw [List.length_map], by rw [List.length_map]; exact hcp, hbl, fun i hi => ?_⟩
    have hi' : i < l.length := by simpa using hi
    obtain ⟨cs, h1, h2⟩ := h i hi'
    exact ⟨cs, h1, by rw [List.getElem_map]; exact h2⟩
theorem okF_at {ps : List PerD} {duty : PerD → Bool} {l : List HdD} {nd : WkD → List Skl} {w : WkD} {i : Nat} (hi : i < ps.length) :
    okF ps (ps.map duty) (wts ps l) (nd w) w.weight i = true ↔ canF duty nd ableF ps l w ps[i] := by
  have e1 : (ps.map duty).getD i false = duty ps[i] := by simp [List.getD, hi]
  have e2 : (wts ps l).getD i 0 = wtN l ps[i].no := by simp [List.getD, hi, wts]
  have e3 : ps.getD i p00 = ps[i] := by simp [List.getD, hi]
  unfold okF canF
  rw [e1, e2, e3]
  simp only [Bool.and_eq_true, Bool.not_eq_true', decide_eq_false_iff_not]
  constructor
  · rintro ⟨a, b, c⟩
    exact ⟨List.getElem_mem hi, a, by omega, c⟩
  · rintro ⟨_, a, b, c⟩
    exact ⟨a, by omega, c⟩
theorem no_can {ps : List PerD} {duty : PerD → Bool} {l : List HdD} {nd : WkD → List Skl} {w : WkD} (h : ∀ i, i < ps.length → okF ps (ps.map duty) (wts ps l) (nd w) w.weight i = false) : ∀ p, ¬ canF duty nd ableF ps l w p := by
  intro p hp
  obtain ⟨i, hi, rfl⟩ := List.mem_iff_getElem.1 hp.1
  have := (okF_at hi).2 hp
  rw [h i hi] at this
  cases this
theorem wts_bound {ps : List PerD} {l : List HdD} (h : ∀ x ∈ l, 1 ≤ x.weight ∧ x.weight ≤ 20) (hl : l.length ≤ 50000) : ∀ x ∈ wts ps l, 0 ≤ x ∧ x ≤ 1000000 := by
  intro x hx
  obtain ⟨p, _, rfl⟩ := List.mem_map.1 hx
  have := wtN_bound l p.no h
  omega
theorem ord_at {os : List Nat} {n : Nat} (h : os.Perm (List.range n)) {j : Nat} (hj : j < os.length) : os[j] < n ∧ os[j] ∉ os.take j := by
  refine ⟨List.mem_range.1 (h.subset (List.getElem_mem hj)), fun hm => ?_⟩
  have hn : os.Nodup := h.nodup_iff.2 List.nodup_range
  obtain ⟨k, hk, e⟩ := List.mem_iff_getElem.1 hm
  rw [List.length_take] at hk
  rw [List.getElem_take] at e
  have := List.pairwise_iff_getElem.1 hn k j (by omega) hj (by omega)
  exact this e
theorem out_len {can : List HdD → WkD → PerD → Prop} {ps : List PerD} {m : Int} {held out : List HdD} {ws : List WkD} {done : List Nat} {tk : Nat → Bool} (h : AsAt can ps m held ws done tk out) : out.length ≤ done.length := by
  have := congrArg List.length h.tick
  rw [List.length_map, List.length_map] at this
  have h2 := List.length_filter_le tk done
  omega
theorem hds_of {w : World} {B : Nat} {v : Value} {l : List HdD} (h : w.ownsRow B 33 4 v l.length (hdCells l)) : Hds w v l :=
  slice_of_owns hdC h (fun _ _ => rfl) (fun _ _ => rfl)
/-- work with the value that its slice has -/
abbrev Wv := WkD × Value
def encWv (x : Wv) : List Value := [.int .i64 x.1.ticket, .int .i64 x.1.weight, .int .i64 x.1.urg, .int .i64 x.1.since, .int .i64 x.1.former, x.2]
theorem wks_of {w : World} {B : Nat} {v : Value} {L : List Wv} (ho : w.ownsRow B 38 6 v L.length (L.flatMap encWv)) (h : ∀ x ∈ L, Skls w x.2 x.1.needs) : Wks w v (L.map (·.1)) :=
  SliceAt.mapped (fun x : Wv => x.1) (slice_of_owns encWv ho (fun _ _ => rfl) (fun x hx => ⟨x.2, rfl, h x hx⟩))
theorem infoWork : (Tryz.prog.info? 38).map (fun i => (i.zero, i.size, i.bytes)) = some (some (.agg #[.int .i64 0, .int .i64 0, .int .i64 0, .int .i64 0, .int .i64 0, .slice none 0 0]), 6, 64) := by kernel_rfl
def tkL (tk : Nat → Bool) (n : Nat) : List Bool := (List.range n).map tk
theorem tkL_length (tk : Nat → Bool) (n : Nat) : (tkL tk n).length = n := by simp [tkL]
theorem tkL_set (tk : Nat → Bool) (n : Nat) {k : Nat} : (tkL tk n).set k true = tkL (fun i => decide (i = k) || tk i) n := by
  refine List.ext_getElem (by simp [tkL]) fun j h1 h2 => ?_
  rw [List.getElem_set]
  by_cases g : k = j
  · subst g; simp [tkL]
  · rw [if_neg g]
    have : ¬ j = k := fun e => g e.symm
    simp [tkL, this]
theorem tkL_none (n : Nat) : List.replicate n false = tkL (fun _ => false) n := by
  refine List.ext_getElem (by simp [tkL]) fun j h1 h2 => ?_
  simp [tkL]
end Go.Proofs.YtemikhnkjligdaaGreatDoor
