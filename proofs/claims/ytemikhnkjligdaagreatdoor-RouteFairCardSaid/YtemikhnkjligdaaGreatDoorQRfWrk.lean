/- The walk of route.CheckWork. -/
import Derived.Test.YtemikhnkjligdaaGreatDoorQRfStp
import Derived.Test.YtemikhnkjligdaaGreatDoorQRfBase
import Derived.Lib.AppendZeros
import Derived.OwnWalk
namespace Go.Proofs.YtemikhnkjligdaaGreatDoor
open Go.RowKit

def WkOne (w : WkD) : Prop := (1 ≤ w.ticket ∧ w.ticket ≤ 400) ∧ (1 ≤ w.weight ∧ w.weight ≤ 20) ∧ (0 ≤ w.urg ∧ w.urg ≤ 9) ∧ (0 ≤ w.since ∧ w.since ≤ 3000000) ∧ (0 ≤ w.former ∧ w.former ≤ 40) ∧ SkFine w.needs
structure WkPre (l : List WkD) : Prop where
  one : ∀ w ∈ l, WkOne w
  apart : l.Pairwise fun a b => a.ticket ≠ b.ticket
theorem WkPre.nil : WkPre [] := ⟨fun w h => absurd h (by simp), List.Pairwise.nil⟩
theorem WkPre.next {l : List WkD} {i : Nat} (h : WkPre (l.take i)) (hi : i < l.length) (hx : WkOne l[i]) (ha : (l.take i).any (fun x => x.ticket == l[i].ticket) = false) : WkPre (l.take (i + 1)) := by
  rw [List.take_succ_eq_append_getElem hi]
  refine ⟨fun w hw => ?_, ?_⟩
  · rcases List.mem_append.1 hw with g | g
    · exact h.one w g
    · rw [List.mem_singleton.1 g]; exact hx
  · rw [List.pairwise_append]
    refine ⟨h.apart, List.pairwise_singleton _ _, fun a ha' b hb => ?_⟩
    rw [List.mem_singleton.1 hb]
    have := List.any_eq_false.1 ha a ha'
    simpa using this
theorem wkFine_iff {l : List WkD} : WkFine SkFine l ↔ l.length ≤ 200 ∧ WkPre l := ⟨fun h => ⟨h.few, h.one, h.apart⟩, fun h => ⟨h.1, h.2.one, h.2.apart⟩⟩
theorem WkPre.at {l : List WkD} {i : Nat} (h : WkPre l) (hi : i < l.length) : WkOne l[i] ∧ (l.take i).any (fun x => x.ticket == l[i].ticket) = false := by
  refine ⟨h.one _ (List.getElem_mem hi), List.any_eq_false.2 fun x hx => ?_⟩
  obtain ⟨j, hj, rfl⟩ := List.mem_iff_getElem.1 hx
  rw [List.length_take] at hj
  rw [List.getElem_take]
  have := List.pairwise_iff_getElem.1 h.apart j i (by omega) hi (by omega)
  simpa using this
theorem Wks.take {w : World} {b off n cap : Nat} {l : List WkD} (h : Wks w (.slice (some ⟨b, off, none⟩) n cap) l) (i : Nat) (hi : i ≤ l.length) : Wks w (.slice (some ⟨b, off, none⟩) i cap) (l.take i) := by
  rcases h with ⟨a, c, h1, rfl⟩ | ⟨b', off', cap', hv, hc, hb, hel⟩
  · have : i = 0 := by simpa using hi
    subst this
    exact .inl ⟨_, _, rfl, rfl⟩
  · cases hv
    refine .inr ⟨b, off, cap, by rw [List.length_take, Nat.min_eq_left hi], by rw [List.length_take, Nat.min_eq_left hi]; omega, hb, fun j hj => ?_⟩
    rw [List.length_take] at hj
    rw [List.getElem_take]
    exact hel j (by omega)
structure WkInv (l : List WkD) (w wr : World) (i : Nat) : Prop where
  le : i ≤ l.length
  fine : WkPre (l.take i)
  below : Below w.heap.size w wr
set_option maxRecDepth 100000 in
set_option maxHeartbeats 4000000 in
theorem CheckWork_any (l : List WkD) (v : Value) (w : World) (h : Wks w v l) :
    Calls Tryz.prog 14 #[v] w fun e w' => (∃ k, e = .returned (.int .i64 k) ∧ (k = 0 ↔ WkFine SkFine l)) ∧ Below w.heap.size w w' := by
  rw [wkFine_iff]
  obtain ⟨a, cap, rfl⟩ := SliceAt.len h
  have H := Lib.hid h
  clear h
  go_enter Tryz.func14, Tryz.ntmps14
  by_cases hl : 200 < l.length
  · have q1 : decide ((200 : Int) < (l.length : Int)) = true := decide_eq_true (by omega)
    have HL := Lib.hid hl
    clear hl
    go_wp2_with fail
    go_ret
    exact ⟨⟨_, rfl, ⟨fun g => absurd g (by decide), fun g => absurd g.1 (by have := HL.out; omega)⟩⟩, Below.refl _ _⟩
  have q1 : decide ((200 : Int) < (l.length : Int)) = false := decide_eq_false (by omega)
  have hl8 : l.length ≤ 200 := by omega
  clear hl
  go_wp2_with fail
  go_loopw [11] (fun iv wr => ∃ i : Nat, iv = .int .i64 ((i : Nat) : Int) ∧ WkInv l w wr i) (fun iv _ => l.length - (intOf iv).toNat)
  case atStart => exact ⟨0, rfl, Nat.zero_le _, by rw [List.take_zero]; exact WkPre.nil, Below.refl _ _⟩
  case round =>
    obtain ⟨i, rfl, hI⟩ := hrel
    have HI := Lib.hid hI
    have hi := hI.le
    clear hI
    by_cases hlt : i < l.length
    · obtain ⟨_, _, _, hv0, hcp, _⟩ := SliceAt.at H.out (by omega)
      obtain ⟨b, of', cap', hv, hb, hel⟩ := Wks.at H.out (by omega)
      cases hv
      cases hv0
      have hci : i ≤ cap := by omega
      obtain ⟨u, e0, e1, e2, e3, e4, e5, hsk⟩ := hel i hlt
      obtain ⟨sa, sc, rfl⟩ := SliceAt.len hsk
      have c0 := (below_cell HI.out.below hb).trans e0
      have c1 := (below_cell HI.out.below hb).trans e1
      have c2 := (below_cell HI.out.below hb).trans e2
      have c3 := (below_cell HI.out.below hb).trans e3
      have c4 := (below_cell HI.out.below hb).trans e4
      have c5 := (below_cell HI.out.below hb).trans e5
      have HSK := Lib.hid hsk
      have HNX := Lib.hid (fun hx ho => WkPre.next HI.out.fine hlt hx ho)
      have HNO := Lib.hid (show l.length ≤ 200 ∧ WkPre l → WkOne l[i] ∧ (l.take i).any (fun x => x.ticket == l[i].ticket) = false from fun g => g.2.at hlt)
      have HTK := Lib.hid (H.out.take i hi)
      clear e0 e1 e2 e3 e4 e5 hel hsk
      generalize l[i] = s at *
      obtain ⟨x1, x2, x3, x4, x5, sk⟩ := s
      simp only at c0 c1 c2 c3 c4 c5 HSK HNO HNX
      go_upto_region 6 with fail
      obtain ⟨bx, bbl⟩ := box1 wr #[.int .i64 x1, .int .i64 x2, .int .i64 x3, .int .i64 x4, .int .i64 x5, .slice sa sk.length sc] 38
      have HB4 := Lib.hid (below_up HI.out.below bbl HI.out.below.size)
      have HBX := Lib.hid bx
      have k0 := bx.cell 0
      have HK0 := Lib.hid k0
      generalize wr.alloc (.cells #[.int .i64 x1, .int .i64 x2, .int .i64 x3, .int .i64 x4, .int .i64 x5, .slice sa sk.length sc] 38) = wb at *
      generalize wr.heap.size = B at *
      clear bx bbl c0 c1 c2 c3 c4 c5
      by_cases g1 : 1 ≤ x1 ∧ x1 ≤ 400
      · have q2 : (decide ((1 : Int) ≤ x1) && decide (x1 ≤ 400)) = true := by simpa using g1
        have HCT := Lib.hid (ContainsTwi_any _ (l.take i) x1 B wb (HTK.out.below HB4.out) HK0.out HBX.out.lt (by rw [List.length_take]; omega))
        generalize (l.take i).any (fun x => x.ticket == x1) = q at *
        go_wp2_with (first | (go_at_call 28; refine (rwithin_any _ _ _ _).mono ?_; rintro e w' ⟨rfl, rfl⟩))
        refine HCT.out.mono ?_
        rintro e w7 ⟨rfl, hb7⟩
        have HX7 := Lib.hid (HBX.out.below hb7 HBX.out.lt)
        have HB7 := Lib.hid (below_up HB4.out hb7 HB4.out.size)
        have k1 := HX7.out.cell 1
        have k2 := HX7.out.cell 2
        have k3 := HX7.out.cell 3
        have k4 := HX7.out.cell 4
        have k5 := HX7.out.cell 5
        clear hb7 k0 HK0 HCT q2
        cases q with
        | true =>
          clear k1 k2 k3 k4 k5
          go_wp2_with fail
          go_ret
          exact ⟨⟨_, rfl, ⟨fun g => absurd g (by decide), fun g => absurd (HNO.out g).2 (by decide)⟩⟩, HB7.out⟩
        | false =>
          have HN2 := Lib.hid (fun h2 h3 h4 h5 h6 => HNX.out ⟨g1, h2, h3, h4, h5, h6⟩ rfl)
          clear HNX
          obtain ⟨b2, hb2⟩ : ∃ b, (decide ((1 : Int) ≤ x2) && decide (x2 ≤ 20)) = b := ⟨_, rfl⟩
          obtain ⟨b3, hb3⟩ : ∃ b, (decide ((0 : Int) ≤ x3) && decide (x3 ≤ 9)) = b := ⟨_, rfl⟩
          obtain ⟨b4, hb4⟩ : ∃ b, (decide ((0 : Int) ≤ x4) && decide (x4 ≤ 3000000)) = b := ⟨_, rfl⟩
          obtain ⟨b5, hb5⟩ : ∃ b, (decide ((0 : Int) ≤ x5) && decide (x5 ≤ 40)) = b := ⟨_, rfl⟩
          have HV2 := Lib.hid hb2
          have HV3 := Lib.hid hb3
          have HV4 := Lib.hid hb4
          have HV5 := Lib.hid hb5
          go_upto_region 10 with fail
          go_cut [27] (fun v wx => v = .bool (!(b2 && b3 && b4 && b5)) ∧ wx = w7)
          case first =>
            clear HV2 HV3 HV4 HV5 HN2 HNO
            cases b2 <;> cases b3 <;> cases b4 <;> cases b5 <;>
              (go_wp2_with (first | (go_at_call 28; refine (rwithin_any _ _ _ _).mono ?_; rintro e w' ⟨rfl, rfl⟩)); go_meet; exact ⟨rfl, rfl⟩)
          case rest =>
            obtain ⟨rfl, rfl⟩ := hcut
            clear hb2 hb3 hb4 hb5 k1 k2 k3 k4
            by_cases hall : b2 = true ∧ b3 = true ∧ b4 = true ∧ b5 = true
            · obtain ⟨rfl, rfl, rfl, rfl⟩ := hall
              have HN3 := Lib.hid (fun h6 => HN2.out (by simpa using HV2.out) (by simpa using HV3.out) (by simpa using HV4.out) (by simpa using HV5.out) h6)
              have HNS := Lib.hid (fun g => (HNO.out g).1.2.2.2.2.2)
              clear HN2 HNO HV2 HV3 HV4 HV5
              go_wp2_with fail
              refine (checkSkills_any sk _ wc (HSK.out.below HB7.out)).mono ?_
              rintro e w8 ⟨⟨ck, rfl, hck⟩, hb8⟩
              have HCK := Lib.hid hck
              have HB8 := Lib.hid (below_up HB7.out hb8 HB7.out.size)
              clear hck hb8 k5
              by_cases hz : ck = 0
              · have HNX4 := Lib.hid (HN3.out (HCK.out.1 hz))
                subst hz
                clear HN3 HNS HCK
                go_wp2_with fail
                go_roundw
                case rel => exact ⟨i + 1, by go_num, hlt, HNX4.out, HB8.out⟩
                case measure => simp [intOf]; omega
              · have qz : (ck == 0) = false := by simpa using hz
                have qz2 : (ck != 0) = true := by simpa using hz
                have HZ := Lib.hid hz
                clear hz
                go_wp2_with fail
                go_ret
                exact ⟨⟨_, rfl, ⟨fun g => absurd g HZ.out, fun g => HCK.out.2 (HNS.out g)⟩⟩, HB8.out⟩
            · have hf : (b2 && b3 && b4 && b5) = false := by
                rw [Bool.eq_false_iff]
                intro g
                simp only [Bool.and_eq_true] at g
                exact hall ⟨g.1.1.1, g.1.1.2, g.1.2, g.2⟩
              have HC := Lib.hid (show ¬ (l.length ≤ 200 ∧ WkPre l) from fun g => hall (by
                obtain ⟨⟨_, g2, g3, g4, g5, _⟩, _⟩ := HNO.out g
                exact ⟨HV2.out ▸ by simpa using g2, HV3.out ▸ by simpa using g3, HV4.out ▸ by simpa using g4, HV5.out ▸ by simpa using g5⟩))
              clear HN2 HNO HV2 HV3 HV4 HV5 hall
              rw [hf]
              go_wp2_with fail
              go_ret
              exact ⟨⟨_, rfl, ⟨fun g => absurd g (by decide), fun g => absurd g HC.out⟩⟩, HB7.out⟩
      · have q2 : (decide ((1 : Int) ≤ x1) && decide (x1 ≤ 400)) = false := by simp; omega
        have HC := Lib.hid (show ¬ (l.length ≤ 200 ∧ WkPre l) from fun g => g1 (HNO.out g).1.1)
        clear HNX HNO g1
        go_wp2_with (go_at_call 28; refine (rwithin_any _ _ _ _).mono ?_; rintro e w' ⟨rfl, rfl⟩)
        go_ret
        exact ⟨⟨_, rfl, ⟨fun g => absurd g (by decide), fun g => absurd g HC.out⟩⟩, HB4.out⟩
    · obtain rfl : i = l.length := by omega
      have hf := HI.out.fine
      rw [List.take_length] at hf
      have HF := Lib.hid (show l.length ≤ 200 ∧ WkPre l from ⟨hl8, hf⟩)
      clear hf
      go_wp2_with fail
      go_ret
      exact ⟨⟨_, rfl, ⟨fun _ => HF.out, fun _ => rfl⟩⟩, HI.out.below⟩
end Go.Proofs.YtemikhnkjligdaaGreatDoor

/- slices.Concat of two lists of what is held: it holds both. -/
namespace Go.Proofs.YtemikhnkjligdaaGreatDoor
open Go.RowKit

theorem append_zero {P : Program} {w : World} (base : Nat) (t ty e : TypeId) (i : TypeInfo) (size : Nat) (ht : P.underlying t = some (.slice e)) (hi : P.info? e = some i)
    (v : Value) (n : Nat) (xs : List Value) (hown : w.ownsRow base e size v n xs) (a : Option Addr) (c : Nat) :
    (Builtin.append_ #[t, t] ty #[v, .slice a 0 c]).run P w = .ok v w := by
  have h0 : (Builtin.firstCells i.size 0 (.slice a 0 c)).run P w = .ok #[] w := by
    cases a <;> simp [Builtin.firstCells, loadCells, loadCellsFrom]
  rcases hown.2 with ⟨rfl, rfl⟩ | ⟨g, cap, cur, rfl, _, _, hnc, _⟩
  · simp [Builtin.append_, run_underlying ht, sizeOf, typeInfo, hi, Builtin.lenOf, h0]
  · simp [Builtin.append_, run_underlying ht, sizeOf, typeInfo, hi, Builtin.lenOf, h0, hnc, storeCells]

/-- a row of the call's own with room for so many in all -/
structure RoomV (tot : Nat) (w wr : World) (v : Value) (n : Nat) (xs : List Value) : Prop where
  own : wr.ownsRow w.heap.size 33 4 v n xs
  room : (v = .slice none 0 0 ∧ tot = 0) ∨ ∃ g cap, v = .slice (some ⟨g, 0, none⟩) n cap ∧ tot ≤ cap
  below : Below w.heap.size w wr

def hdCells (l : List HdD) : List Value := l.flatMap hdC
theorem infoHeld : (Tryz.prog.info? 33).map (fun i => (i.zero, i.size, i.bytes)) = some (some (.agg #[.int .i64 0, .int .i64 0, .int .i64 0, .int .i64 0]), 4, 32) := by kernel_rfl
theorem hdCells_length (l : List HdD) : (hdCells l).length = l.length * 4 := by
  unfold hdCells
  induction l with
  | nil => rfl
  | cons x l ih => rw [List.flatMap_cons, List.length_append, ih]; simp [hdC]; omega
theorem hd_news {w : World} {b off : Nat} {l : List HdD} (h : ∀ i (h : i < l.length), ∃ cs, ElemAt w b off 4 i cs ∧ hdR w cs l[i]) (j : Nat) (u : Value) (hj : (hdCells l)[j]? = some u) :
    w.cell? ((⟨b, off, none⟩ : Addr).add j) = some u := by
  have hlt : j < (hdCells l).length := (List.getElem?_eq_some_iff.1 hj).1
  rw [hdCells_length] at hlt
  have hi : j / 4 < l.length := by omega
  have hr : j % 4 < 4 := by omega
  obtain ⟨cs, ⟨hl, hc⟩, he⟩ := h (j / 4) hi
  cases he
  have e1 := flatMap_at hdC 4 l (fun _ _ => rfl) (j / 4) (j % 4) hi hr
  have e2 : j / 4 * 4 + j % 4 = j := by omega
  rw [e2] at e1
  have e3 : (l.flatMap hdC)[j]? = some u := hj
  rw [e3] at e1
  have h4 := hc (j % 4) (by simpa [hdC] using hr)
  have e5 : (⟨b, off, none⟩ : Addr).add j = ⟨b, off + j / 4 * 4 + j % 4, none⟩ := by
    unfold Addr.add
    split
    · simp only [Addr.mk.injEq, true_and, and_true]; omega
    · simp only [Addr.mk.injEq, true_and, and_true]; omega
  rw [e5, h4, e1]
  rw [List.getElem?_eq_getElem (by simpa [hdC] using hr)]
theorem hdCells_append (g l : List HdD) : hdCells (g ++ l) = hdCells g ++ hdCells l := by unfold hdCells; rw [List.flatMap_append]
theorem hd_one (l : List HdD) : ∀ u ∈ hdCells l, u.oneCell' = true := by
  intro u hu
  unfold hdCells at hu
  rw [List.mem_flatMap] at hu
  obtain ⟨d, _, hd⟩ := hu
  simp only [hdC, List.mem_cons, List.not_mem_nil, or_false] at hd
  rcases hd with rfl | rfl | rfl | rfl <;> rfl

/-- 'append(v, l...)' of duties, where there is room -/
theorem append_hds {ops : Array Oper} {rest : List Oper} {o : Oper} {a : Act} {Q : Exit → Act → World → Prop} (hgd : o.guard = none) (s x : Operand)
    (ho : o.op = .call { callee := .builtin .append, args := #[s, x], argTypes := #[24, 24] })
    (tot : Nat) (w wr : World) (v : Value) (n : Nat) (xs : List Value) (hs : a.eval s = v) (hv : RoomV tot w wr v n xs) (xa : Option Addr) (xc : Nat) (l : List HdD) (hx : a.eval x = .slice xa l.length xc)
    (hl : SliceAt 4 hdR wr (.slice xa l.length xc) l) (hfit : n + l.length ≤ tot)
    (h : ∀ v' w', RoomV tot w w' v' (n + l.length) (xs ++ hdCells l) → wr.grownBy w' v.ownBlock → wpList Tryz.prog ops Q rest (a.put o.dst v') w') : wpList Tryz.prog ops Q (o :: rest) a wr := by
  obtain ⟨i0, hi0, hz0, hz1, hz2⟩ := info_parts infoHeld
  by_cases h0 : l.length = 0
  · obtain rfl : l = [] := List.eq_nil_of_length_eq_zero h0
    have hrun := append_zero (P := Tryz.prog) w.heap.size 24 o.type 33 i0 4 Tryz.underlying24 hi0 v n xs hv.own xa xc
    refine Lib.wpList_append_run _ hgd _ _ _ _ ho _ _ hs hx _ _ hrun (h _ _ ?_ (grownBy_refl _ _))
    simpa [hdCells] using hv
  · rcases hv.room with ⟨rfl, h1⟩ | ⟨g, cap, rfl, hcap⟩
    · omega
    · obtain ⟨b, off, c', hv', hcc, hb, hel⟩ := SliceAt.at hl (by omega)
      simp only [Value.slice.injEq] at hv'
      obtain ⟨rfl, _, rfl⟩ := hv'
      refine wpList_append_fits wr hgd s x _ ho w.heap.size 33 i0 4 Tryz.underlying24 hi0 hz1 g n cap xs hs hv.own _ _ _ (hdCells l) hx (hdCells_length l) (hd_news hel) (hd_one l) (by omega) ?_
      intro w' ho' hg'
      exact h _ _ ⟨ho', .inr ⟨g, cap, rfl, hcap⟩, hv.below.grown hg' hv.below.size (fun k hk => by cases hk; exact (hv.own.lt g rfl).1)⟩ hg'

def GrowPost (n : Nat) (w : World) (e : Ending) (w' : World) : Prop := ∃ v, e = .returned v ∧ RoomV n w w' v 0 []

set_option maxRecDepth 100000 in
set_option maxHeartbeats 2000000 in
theorem grow_nil (n : Nat) (w : World) (hn : n ≤ 2000) : Calls Tryz.prog 39 #[.slice none 0 0, .int .i64 (n : Nat)] w (GrowPost n w) := by
  obtain ⟨i0, hi0, hz0, hz1, hz2⟩ := info_parts infoHeld
  have s1 : IntKind.i64.wrap ((n : Int) - 0) = (n : Int) := by rw [Int.sub_zero]; exact IntWalk.i64_in _ (by omega)
  by_cases h0 : n = 0
  · subst h0
    go_enter Tryz.func39, Tryz.ntmps39
    go_wp2
    go_ret
    exact ⟨_, rfl, World.ownsRow_nil _ _ _ _, .inl ⟨rfl, rfl⟩, Below.refl _ _⟩
  · have hpos : 0 < n := by omega
    have hcap := grownCap_ge w n 0 33
    have hcap2 := grownCap_le_maxLen w n 0 33 (by unfold maxLen; omega)
    have hrun := fun ty => Lib.run_append_nil_zeros (P := Tryz.prog) w 24 3 ty 33 i0 (.agg #[.int .i64 0, .int .i64 0, .int .i64 0, .int .i64 0]) .i64 .i64 Tryz.underlying24 Tryz.underlying3 hi0 hz0 n hpos (by omega) (by omega) (by rw [hz2]; omega)
    generalize grownCap w n 0 33 = G at *
    have hmade : RoomV n w (w.drew.alloc (.cells (Builtin.zeroCells (Value.agg #[.int .i64 0, .int .i64 0, .int .i64 0, .int .i64 0]).cells n ++ Builtin.zeroCells (Value.agg #[.int .i64 0, .int .i64 0, .int .i64 0, .int .i64 0]).cells (G - n)) 33)) (.slice (some ⟨w.heap.size, 0, none⟩) 0 G) 0 [] := by
      refine ⟨?_, .inr ⟨w.heap.size, G, rfl, hcap⟩, (Below.refl _ _).drew.alloc (by simp) _⟩
      have := World.ownsRow_made (base := w.heap.size) (e := 33) (size := 4) w.drew (Builtin.zeroCells (Value.agg #[.int .i64 0, .int .i64 0, .int .i64 0, .int .i64 0]).cells n ++ Builtin.zeroCells (Value.agg #[.int .i64 0, .int .i64 0, .int .i64 0, .int .i64 0]).cells (G - n)) G (by simp) hcap2 (by simp [Builtin.zeroCells, Value.cells]; omega)
      simpa using this
    have HM := Lib.hid hmade
    have hG : G ≤ 9223372036854775807 := by unfold maxLen at hcap2; omega
    generalize (w.drew.alloc (.cells (Builtin.zeroCells (Value.agg #[.int .i64 0, .int .i64 0, .int .i64 0, .int .i64 0]).cells n ++ Builtin.zeroCells (Value.agg #[.int .i64 0, .int .i64 0, .int .i64 0, .int .i64 0]).cells (G - n)) 33)) = wz at *
    clear hmade hcap2
    have HRUN := Lib.hid hrun
    clear hrun
    go_enter Tryz.func39, Tryz.ntmps39
    go_wp2_with (at_builtin; refine Lib.wpList_append_run _ rfl _ _ _ _ rfl _ _ rfl rfl _ _ (HRUN.out _) ?_)
    go_ret
    exact ⟨_, rfl, HM.out⟩

def ConcPost (l : List HdD) (w : World) (e : Ending) (w' : World) : Prop :=
  ∃ a c, e = .returned (.slice a l.length c) ∧ w'.ownsRow w.heap.size 33 4 (.slice a l.length c) l.length (hdCells l) ∧ Below w.heap.size w w'

set_option maxRecDepth 100000 in
set_option maxHeartbeats 4000000 in
theorem concat_any (b : Nat) (ga la : Option Addr) (gc lc : Nat) (g l : List HdD) (w : World) (hb : Has w b #[.slice ga g.length gc, .slice la l.length lc] 24) (hg : SliceAt 4 hdR w (.slice ga g.length gc) g)
    (hl : SliceAt 4 hdR w (.slice la l.length lc) l) (hlen : g.length + l.length ≤ 2000) :
    Calls Tryz.prog 20 #[.slice (some ⟨b, 0, none⟩) 2 2] w (ConcPost (g ++ l) w) := by
  have c0 := hb.cell 0
  have c1 := hb.cell 1
  have HB := Lib.hid hb
  have HG := Lib.hid hg
  have HL := Lib.hid hl
  have hbw := hb.lt
  have s0 : IntKind.i64.wrap ((g.length : Int) + (l.length : Int)) = (g.length : Int) + (l.length : Int) := IntWalk.i64_in _ (by omega)
  clear hb hg hl
  go_enter Tryz.func20, Tryz.ntmps20
  go_wp2_with fail
  go_loop [3, 5, 11] (fun sv _ iv => (iv = .int .i64 0 ∧ sv = .int .i64 0) ∨ (iv = .int .i64 1 ∧ sv = .int .i64 (g.length : Nat)) ∨ (iv = .int .i64 2 ∧ sv = .int .i64 ((g.length : Int) + (l.length : Int)))) (fun _ _ iv => 2 - (intOf iv).toNat)
  case atStart => exact .inl ⟨rfl, rfl⟩
  case round =>
    rcases hrel with ⟨rfl, rfl⟩ | ⟨rfl, rfl⟩ | ⟨rfl, rfl⟩
    · go_wp2_with fail
      go_round
      case rel => exact .inr (.inl ⟨rfl, rfl⟩)
      case measure => simp [intOf]
    · go_wp2_with fail
      go_round
      case rel => exact .inr (.inr ⟨rfl, rfl⟩)
      case measure => simp [intOf]
    · obtain ⟨tot, htot⟩ : ∃ tot : Nat, tot = g.length + l.length := ⟨_, rfl⟩
      have ht : (g.length : Int) + (l.length : Int) = (tot : Int) := by omega
      have HT := Lib.hid htot
      rw [ht]
      have htl : tot ≤ 2000 := by omega
      clear ht s0 htot
      go_wp2_with fail
      refine (grow_nil tot _ htl).mono ?_
      rintro e w1 ⟨v, rfl, hr0⟩
      have e0 := (below_cell hr0.below hbw).trans c0
      have e1 := (below_cell hr0.below hbw).trans c1
      have HR0 := Lib.hid hr0
      clear hr0 c0 c1
      go_wp2_with fail
      go_loopw [6, 8, 27] (fun v _ iv wr => ∃ n xs, RoomV tot w wr v n xs ∧ ((iv = .int .i64 0 ∧ n = 0 ∧ xs = []) ∨ (iv = .int .i64 1 ∧ n = g.length ∧ xs = hdCells g) ∨ (iv = .int .i64 2 ∧ n = tot ∧ xs = hdCells (g ++ l)))) (fun _ _ iv _ => 2 - (intOf iv).toNat)
      case atStart => exact ⟨0, [], HR0.out, .inl ⟨rfl, rfl, rfl⟩⟩
      case round =>
        clear e0 e1
        obtain ⟨n, xs, hr, hcase⟩ := hrel
        have k0 := (below_cell hr.below hbw).trans (HB.out.cell 0)
        have k1 := (below_cell hr.below hbw).trans (HB.out.cell 1)
        have HR := Lib.hid hr
        have hbl := hr.below
        clear hr
        rcases hcase with ⟨rfl, rfl, rfl⟩ | ⟨rfl, rfl, rfl⟩ | ⟨rfl, hn, rfl⟩
        · go_wp2_with (at_builtin; go_must (refine append_hds rfl _ _ rfl tot w wr u6 _ _ rfl HR.out _ _ g rfl (SliceAt.stable hdR_stable HG.out hbl) (by have := HT.out; omega) ?_); intro v' w' hr' _)
          go_roundw
          case rel => exact ⟨g.length, _, by simpa using hr', .inr (.inl ⟨rfl, rfl, by simp⟩)⟩
          case measure => simp [intOf]
        · go_wp2_with (at_builtin; go_must (refine append_hds rfl _ _ rfl tot w wr u6 _ _ rfl HR.out _ _ l rfl (SliceAt.stable hdR_stable HL.out hbl) (by have := HT.out; omega) ?_); intro v' w' hr' _)
          go_roundw
          case rel => exact ⟨_, _, hr', .inr (.inr ⟨rfl, HT.out.symm, (hdCells_append g l).symm⟩)⟩
          case measure => simp [intOf]
        · obtain rfl : tot = n := hn.symm
          have hown := HR.out.own
          obtain ⟨a', c', rfl⟩ := owns_slice hown
          have hcl : (g ++ l).length = tot := by rw [List.length_append]; exact HT.out.symm
          rw [← hcl] at hown
          have HSL := Lib.hid hown
          have HE := Lib.hid (show Ending.returned (.slice a' tot c') = Ending.returned (.slice a' (g ++ l).length c') by rw [hcl])
          clear hown hcl
          go_wp2_with fail
          go_ret
          exact ⟨a', c', HE.out, HSL.out, HR.out.below⟩

end Go.Proofs.YtemikhnkjligdaaGreatDoor
