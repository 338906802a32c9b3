/- slices.Concat of two lists of duties: it holds the duties of both. -/
import Derived.Test.YtfoehmieklldkaaDoorRosM
import Derived.Lib.AppendZeros
import Derived.OwnWalk
namespace Go.Proofs.YtfoehmieklldkaaDoor
open Go.RowKit

theorem append_zero {P : Program} {w : World} (base : Nat) (t ty e : TypeId) (i : TypeInfo) (size : Nat) (ht : P.underlying t = some (.slice e)) (hi : P.info? e = some i)
    (v : Value) (n : Nat) (xs : List Value) (hown : w.ownsRow base e size v n xs) (a : Option Addr) (c : Nat) :
    (Builtin.append_ #[t, t] ty #[v, .slice a 0 c]).run P w = .ok v w := by
  have h0 : (Builtin.firstCells i.size 0 (.slice a 0 c)).run P w = .ok #[] w := by
    cases a <;> simp [Builtin.firstCells, loadCells, loadCellsFrom]
  rcases hown.2 with ⟨rfl, rfl⟩ | ⟨g, cap, cur, rfl, _, _, hnc, _⟩
  · simp [Builtin.append_, run_underlying ht, sizeOf, typeInfo, hi, Builtin.lenOf, h0]
  · simp [Builtin.append_, run_underlying ht, sizeOf, typeInfo, hi, Builtin.lenOf, h0, hnc, storeCells]

/-- a row of the call's own with room for so many in all -/
structure RoomV (tot : Nat) (w wr : World) (v : Value) (n : Nat) (xs : List Value) : Prop where
  own : wr.ownsRow w.heap.size 60 2 v n xs
  room : (v = .slice none 0 0 ∧ tot = 0) ∨ ∃ g cap, v = .slice (some ⟨g, 0, none⟩) n cap ∧ tot ≤ cap
  below : Below w.heap.size w wr

theorem dutyCells_length (l : List (Nat × Nat)) : (dutyCells l).length = l.length * 2 := by
  unfold dutyCells
  induction l with
  | nil => rfl
  | cons x l ih => rw [List.flatMap_cons, List.length_append, ih]; simp; omega
theorem duty_news {w : World} {b off : Nat} {l : List (Nat × Nat)} (h : ∀ i (h : i < l.length), ∃ cs, ElemAt w b off 2 i cs ∧ dutyR w cs l[i]) (j : Nat) (u : Value) (hj : (dutyCells l)[j]? = some u) :
    w.cell? ((⟨b, off, none⟩ : Addr).add j) = some u := by
  have hlt : j < (dutyCells l).length := (List.getElem?_eq_some_iff.1 hj).1
  rw [dutyCells_length] at hlt
  have hi : j / 2 < l.length := by omega
  have hr : j % 2 < 2 := by omega
  obtain ⟨cs, ⟨hl, hc⟩, he⟩ := h (j / 2) hi
  cases he
  have e1 := flatMap_at (fun d : Nat × Nat => [Value.int .i64 (d.1 : Nat), Value.int .i64 (d.2 : Nat)]) 2 l (fun _ _ => rfl) (j / 2) (j % 2) hi hr
  have e2 : j / 2 * 2 + j % 2 = j := by omega
  rw [e2] at e1
  have e3 : (l.flatMap fun d : Nat × Nat => [Value.int .i64 (d.1 : Nat), Value.int .i64 (d.2 : Nat)])[j]? = some u := hj
  rw [e3] at e1
  have h4 := hc (j % 2) (by simpa using hr)
  have e5 : (⟨b, off, none⟩ : Addr).add j = ⟨b, off + j / 2 * 2 + j % 2, none⟩ := by
    unfold Addr.add
    split
    · simp only [Addr.mk.injEq, true_and, and_true]; omega
    · simp only [Addr.mk.injEq, true_and, and_true]; omega
  rw [e5, h4, e1]
  rw [List.getElem?_eq_getElem (by simpa using hr)]
theorem dutyCells_append (g l : List (Nat × Nat)) : dutyCells (g ++ l) = dutyCells g ++ dutyCells l := by unfold dutyCells; rw [List.flatMap_append]
theorem duty_one (l : List (Nat × Nat)) : ∀ u ∈ dutyCells l, u.oneCell' = true := by
  intro u hu
  unfold dutyCells at hu
  rw [List.mem_flatMap] at hu
  obtain ⟨d, _, hd⟩ := hu
  simp only [List.mem_cons, List.not_mem_nil, or_false] at hd
  rcases hd with rfl | rfl <;> rfl

/-- 'append(v, l...)' of duties, where there is room -/
theorem append_duties {ops : Array Oper} {rest : List Oper} {o : Oper} {a : Act} {Q : Exit → Act → World → Prop} (hgd : o.guard = none) (s x : Operand)
    (ho : o.op = .call { callee := .builtin .append, args := #[s, x], argTypes := #[52, 52] })
    (tot : Nat) (w wr : World) (v : Value) (n : Nat) (xs : List Value) (hs : a.eval s = v) (hv : RoomV tot w wr v n xs) (xa : Option Addr) (xc : Nat) (l : List (Nat × Nat)) (hx : a.eval x = .slice xa l.length xc)
    (hl : SliceAt 2 dutyR wr (.slice xa l.length xc) l) (hfit : n + l.length ≤ tot)
    (h : ∀ v' w', RoomV tot w w' v' (n + l.length) (xs ++ dutyCells l) → wr.grownBy w' v.ownBlock → wpList Tryd.prog ops Q rest (a.put o.dst v') w') : wpList Tryd.prog ops Q (o :: rest) a wr := by
  obtain ⟨i0, hi0, hz0, hz1, hz2⟩ := info_parts infoDuty
  by_cases h0 : l.length = 0
  · obtain rfl : l = [] := List.eq_nil_of_length_eq_zero h0
    have hrun := append_zero (P := Tryd.prog) w.heap.size 52 o.type 60 i0 2 Tryd.underlying52 hi0 v n xs hv.own xa xc
    refine Lib.wpList_append_run _ hgd _ _ _ _ ho _ _ hs hx _ _ hrun (h _ _ ?_ (grownBy_refl _ _))
    simpa [dutyCells] using hv
  · rcases hv.room with ⟨rfl, h1⟩ | ⟨g, cap, rfl, hcap⟩
    · omega
    · obtain ⟨b, off, c', hv', hcc, hb, hel⟩ := SliceAt.at hl (by omega)
      simp only [Value.slice.injEq] at hv'
      obtain ⟨rfl, _, rfl⟩ := hv'
      refine wpList_append_fits wr hgd s x _ ho w.heap.size 60 i0 2 Tryd.underlying52 hi0 hz1 g n cap xs hs hv.own _ _ _ (dutyCells l) hx (dutyCells_length l) (duty_news hel) (duty_one l) (by omega) ?_
      intro w' ho' hg'
      exact h _ _ ⟨ho', .inr ⟨g, cap, rfl, hcap⟩, hv.below.grown hg' hv.below.size (fun k hk => by cases hk; exact (hv.own.lt g rfl).1)⟩ hg'

def GrowPost (n : Nat) (w : World) (e : Ending) (w' : World) : Prop := ∃ v, e = .returned v ∧ RoomV n w w' v 0 []

set_option maxRecDepth 100000 in
set_option maxHeartbeats 2000000 in
theorem grow_nil (n : Nat) (w : World) (hn : n ≤ 2000) : Calls Tryd.prog 56 #[.slice none 0 0, .int .i64 (n : Nat)] w (GrowPost n w) := by
  obtain ⟨i0, hi0, hz0, hz1, hz2⟩ := info_parts infoDuty
  have s1 : IntKind.i64.wrap ((n : Int) - 0) = (n : Int) := by rw [Int.sub_zero]; exact IntWalk.i64_in _ (by omega)
  by_cases h0 : n = 0
  · subst h0
    go_enter Tryd.func56, Tryd.ntmps56
    go_wp2
    go_ret
    exact ⟨_, rfl, World.ownsRow_nil _ _ _ _, .inl ⟨rfl, rfl⟩, Below.refl _ _⟩
  · have hpos : 0 < n := by omega
    have hcap := grownCap_ge w n 0 60
    have hcap2 := grownCap_le_maxLen w n 0 60 (by unfold maxLen; omega)
    have hrun := fun ty => Lib.run_append_nil_zeros (P := Tryd.prog) w 52 3 ty 60 i0 (.agg #[.int .i64 0, .int .i64 0]) .i64 .i64 Tryd.underlying52 Tryd.underlying3 hi0 hz0 n hpos (by omega) (by omega) (by rw [hz2]; omega)
    generalize grownCap w n 0 60 = G at *
    have hmade : RoomV n w (w.drew.alloc (.cells (Builtin.zeroCells (Value.agg #[.int .i64 0, .int .i64 0]).cells n ++ Builtin.zeroCells (Value.agg #[.int .i64 0, .int .i64 0]).cells (G - n)) 60)) (.slice (some ⟨w.heap.size, 0, none⟩) 0 G) 0 [] := by
      refine ⟨?_, .inr ⟨w.heap.size, G, rfl, hcap⟩, (Below.refl _ _).drew.alloc (by simp) _⟩
      have := World.ownsRow_made (base := w.heap.size) (e := 60) (size := 2) w.drew (Builtin.zeroCells (Value.agg #[.int .i64 0, .int .i64 0]).cells n ++ Builtin.zeroCells (Value.agg #[.int .i64 0, .int .i64 0]).cells (G - n)) G (by simp) hcap2 (by simp [Builtin.zeroCells, Value.cells]; omega)
      simpa using this
    have HM := Lib.hid hmade
    have hG : G ≤ 9223372036854775807 := by unfold maxLen at hcap2; omega
    generalize (w.drew.alloc (.cells (Builtin.zeroCells (Value.agg #[.int .i64 0, .int .i64 0]).cells n ++ Builtin.zeroCells (Value.agg #[.int .i64 0, .int .i64 0]).cells (G - n)) 60)) = wz at *
    clear hmade hcap2
    have HRUN := Lib.hid hrun
    clear hrun
    go_enter Tryd.func56, Tryd.ntmps56
    go_wp2_with (at_builtin; refine Lib.wpList_append_run _ rfl _ _ _ _ rfl _ _ rfl rfl _ _ (HRUN.out _) ?_)
    go_ret
    exact ⟨_, rfl, HM.out⟩

def ConcPost (l : List (Nat × Nat)) (w : World) (e : Ending) (w' : World) : Prop :=
  ∃ a c, e = .returned (.slice a l.length c) ∧ w'.ownsRow w.heap.size 60 2 (.slice a l.length c) l.length (dutyCells l) ∧ Below w.heap.size w w'

set_option maxRecDepth 100000 in
set_option maxHeartbeats 4000000 in
theorem concat_any (b : Nat) (ga la : Option Addr) (gc lc : Nat) (g l : List (Nat × Nat)) (w : World) (hb : Has w b #[.slice ga g.length gc, .slice la l.length lc] 52) (hg : SliceAt 2 dutyR w (.slice ga g.length gc) g)
    (hl : SliceAt 2 dutyR w (.slice la l.length lc) l) (hlen : g.length + l.length ≤ 2000) :
    Calls Tryd.prog 24 #[.slice (some ⟨b, 0, none⟩) 2 2] w (ConcPost (g ++ l) w) := by
  have c0 := hb.cell 0
  have c1 := hb.cell 1
  have HB := Lib.hid hb
  have HG := Lib.hid hg
  have HL := Lib.hid hl
  have hbw := hb.lt
  have s0 : IntKind.i64.wrap ((g.length : Int) + (l.length : Int)) = (g.length : Int) + (l.length : Int) := IntWalk.i64_in _ (by omega)
  clear hb hg hl
  go_enter Tryd.func24, Tryd.ntmps24
  go_wp2_with fail
  go_loop [3, 5, 11] (fun sv _ iv => (iv = .int .i64 0 ∧ sv = .int .i64 0) ∨ (iv = .int .i64 1 ∧ sv = .int .i64 (g.length : Nat)) ∨ (iv = .int .i64 2 ∧ sv = .int .i64 ((g.length : Int) + (l.length : Int)))) (fun _ _ iv => 2 - (intOf iv).toNat)
  case atStart => exact .inl ⟨rfl, rfl⟩
  case round =>
    rcases hrel with ⟨rfl, rfl⟩ | ⟨rfl, rfl⟩ | ⟨rfl, rfl⟩
    · go_wp2_with fail
      go_round
      case rel => exact .inr (.inl ⟨rfl, rfl⟩)
      case measure => simp [intOf]
    · go_wp2_with fail
      go_round
      case rel => exact .inr (.inr ⟨rfl, rfl⟩)
      case measure => simp [intOf]
    · obtain ⟨tot, htot⟩ : ∃ tot : Nat, tot = g.length + l.length := ⟨_, rfl⟩
      have ht : (g.length : Int) + (l.length : Int) = (tot : Int) := by omega
      have HT := Lib.hid htot
      rw [ht]
      have htl : tot ≤ 2000 := by omega
      clear ht s0 htot
      go_wp2_with fail
      refine (grow_nil tot _ htl).mono ?_
      rintro e w1 ⟨v, rfl, hr0⟩
      have e0 := (below_cell hr0.below hbw).trans c0
      have e1 := (below_cell hr0.below hbw).trans c1
      have HR0 := Lib.hid hr0
      clear hr0 c0 c1
      go_wp2_with fail
      go_loopw [6, 8, 27] (fun v _ iv wr => ∃ n xs, RoomV tot w wr v n xs ∧ ((iv = .int .i64 0 ∧ n = 0 ∧ xs = []) ∨ (iv = .int .i64 1 ∧ n = g.length ∧ xs = dutyCells g) ∨ (iv = .int .i64 2 ∧ n = tot ∧ xs = dutyCells (g ++ l)))) (fun _ _ iv _ => 2 - (intOf iv).toNat)
      case atStart => exact ⟨0, [], HR0.out, .inl ⟨rfl, rfl, rfl⟩⟩
      case round =>
        clear e0 e1
        obtain ⟨n, xs, hr, hcase⟩ := hrel
        have k0 := (below_cell hr.below hbw).trans (HB.out.cell 0)
        have k1 := (below_cell hr.below hbw).trans (HB.out.cell 1)
        have HR := Lib.hid hr
        have hbl := hr.below
        clear hr
        rcases hcase with ⟨rfl, rfl, rfl⟩ | ⟨rfl, rfl, rfl⟩ | ⟨rfl, hn, rfl⟩
        · go_wp2_with (at_builtin; go_must (refine append_duties rfl _ _ rfl tot w wr u6 _ _ rfl HR.out _ _ g rfl (SliceAt.stable dutyR_stable HG.out hbl) (by have := HT.out; omega) ?_); intro v' w' hr' _)
          go_roundw
          case rel => exact ⟨g.length, _, by simpa using hr', .inr (.inl ⟨rfl, rfl, by simp⟩)⟩
          case measure => simp [intOf]
        · go_wp2_with (at_builtin; go_must (refine append_duties rfl _ _ rfl tot w wr u6 _ _ rfl HR.out _ _ l rfl (SliceAt.stable dutyR_stable HL.out hbl) (by have := HT.out; omega) ?_); intro v' w' hr' _)
          go_roundw
          case rel => exact ⟨_, _, hr', .inr (.inr ⟨rfl, HT.out.symm, (dutyCells_append g l).symm⟩)⟩
          case measure => simp [intOf]
        · obtain rfl : tot = n := hn.symm
          have hown := HR.out.own
          obtain ⟨a', c', rfl⟩ := owns_slice hown
          have hcl : (g ++ l).length = tot := by rw [List.length_append]; exact HT.out.symm
          rw [← hcl] at hown
          have HSL := Lib.hid hown
          have HE := Lib.hid (show Ending.returned (.slice a' tot c') = Ending.returned (.slice a' (g ++ l).length c') by rw [hcl])
          clear hown hcl
          go_wp2_with fail
          go_ret
          exact ⟨a', c', HE.out, HSL.out, HR.out.below⟩

end Go.Proofs.YtfoehmieklldkaaDoor
