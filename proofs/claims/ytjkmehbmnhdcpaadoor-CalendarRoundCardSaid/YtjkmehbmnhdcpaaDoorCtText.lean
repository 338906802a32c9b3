/- The walk of cal.CalendarText. -/
import Derived.Test.YtjkmehbmnhdcpaaDoorCtLine
import Derived.Deep.AppendLies
namespace Go.Proofs.YtjkmehbmnhdcpaaDoor
open Go.RowKit

theorem cal_len (c : CalD) : (calLns c).length = 1 + c.cs.length + c.wk.length + c.sps.length := by unfold calLns; simp; omega
theorem cal_at0 (c : CalD) : (calLns c)[0]? = some (0, [c.off]) := rfl
theorem cal_at1 (c : CalD) {i : Nat} (hi : i < c.cs.length) : (calLns c)[1 + i]? = some (1, [c.cs[i].1, c.cs[i].2]) := by
  unfold calLns
  rw [Nat.add_comm, List.getElem?_cons_succ, List.append_assoc, List.getElem?_append_left (by simpa using hi)]
  simp [hi]
theorem cal_at2 (c : CalD) {i : Nat} (hi : i < c.wk.length) : (calLns c)[1 + c.cs.length + i]? = some (2, [c.wk[i].1, c.wk[i].2.1, c.wk[i].2.2]) := by
  unfold calLns
  rw [show 1 + c.cs.length + i = (c.cs.length + i) + 1 by omega, List.getElem?_cons_succ, List.append_assoc, List.getElem?_append_right (by simp), List.getElem?_append_left (by simp; omega)]
  simp [hi]
theorem cal_at3 (c : CalD) {i : Nat} (hi : i < c.sps.length) : (calLns c)[1 + c.cs.length + c.wk.length + i]? = some (3, spNums c.sps[i]) := by
  unfold calLns
  rw [show 1 + c.cs.length + c.wk.length + i = (c.cs.length + c.wk.length + i) + 1 by omega, List.getElem?_cons_succ, List.getElem?_append_right (by simp)]
  have e : c.cs.length + c.wk.length + i - ((c.cs.map fun x => ((1, [x.1, x.2]) : Ln)) ++ c.wk.map fun x => ((2, [x.1, x.2.1, x.2.2]) : Ln)).length = i := by simp
  rw [e]
  simp [hi]
theorem text_next {ls : List Ln} {m : Nat} {x : Ln} (h : ls[m]? = some x) : textL (ls.take (m + 1)) = textL (ls.take m) ++ (wordL x.1 ++ numsL x.2 ++ [10]) := by
  obtain ⟨hm, rfl⟩ := List.getElem?_eq_some_iff.1 h
  rw [List.take_succ_eq_append_getElem hm]
  unfold textL lineL
  rw [List.flatMap_append]
  simp
theorem lns_mem : ∀ (ls : List Ln) (k : Int), LnsOk k ls → ∀ x ∈ ls, x.2.length ≤ 25 ∧ ∀ n ∈ x.2, n.natAbs < 10 ^ 9
  | [], _, _, x, hx => by cases hx
  | y :: r, k, h, x, hx => by
    rcases List.mem_cons.1 hx with rfl | hx
    · exact ⟨h.1.few, h.1.nums⟩
    · exact lns_mem r _ h.2 x hx
theorem word_short (k : Nat) : (wordL k).length ≤ 6 := by
  unfold wordL
  split <;> decide
theorem text_short : ∀ (ls : List Ln), (∀ x ∈ ls, x.2.length ≤ 25 ∧ ∀ n ∈ x.2, n.natAbs < 10 ^ 9) → (textL ls).length ≤ 300 * ls.length
  | [], _ => by simp [textL]
  | x :: r, h => by
    have ih := text_short r (fun y hy => h y (List.mem_cons_of_mem _ hy))
    obtain ⟨h1, h2⟩ := h x List.mem_cons_self
    have h3 := nums_short x.2 h2
    have h4 := word_short x.1
    have e : textL (x :: r) = (wordL x.1 ++ numsL x.2 ++ [10]) ++ textL r := by unfold textL lineL; rw [List.flatMap_cons]
    rw [e]
    simp only [List.length_append, List.length_cons, List.length_nil]
    omega
theorem text_pre {ls : List Ln} (h : ∀ x ∈ ls, x.2.length ≤ 25 ∧ ∀ n ∈ x.2, n.natAbs < 10 ^ 9) (hl : ls.length ≤ 400) (m : Nat) : (textL (ls.take m)).length ≤ 120000 := by
  have := text_short (ls.take m) (fun x hx => h x (List.mem_of_mem_take hx))
  rw [List.length_take] at this
  omega

structure TxInv (c : CalD) (vcs vwk vsp : Value) (w wr : World) (B m : Nat) : Prop where
  b : BuildsAt wr B (textL ((calLns c).take m))
  below : Below w.heap.size w wr
  xc : Has wr w.heap.size #[.int .i64 c.off, vcs, vwk, vsp] 28
theorem TxInv.to {c : CalD} {vcs vwk vsp : Value} {w wr w' : World} {B m : Nat} (h : TxInv c vcs vwk vsp w wr B m) (hb : Below wr.heap.size wr w') : TxInv c vcs vwk vsp w w' B m :=
  ⟨h.b.below hb, below_up h.below hb h.below.size, h.xc.below hb h.xc.lt⟩
theorem TxInv.line {c : CalD} {vcs vwk vsp : Value} {w wr w' : World} {B m : Nat} {x : Ln} {e : Ending} (h : TxInv c vcs vwk vsp w wr B m) (hx : (calLns c)[m]? = some x) (hp : LiPost w wr B (textL ((calLns c).take m) ++ (wordL x.1 ++ numsL x.2 ++ [10])) e w') : TxInv c vcs vwk vsp w w' B (m + 1) := by
  obtain ⟨_, h1, h2, h3⟩ := hp
  exact ⟨by rw [text_next hx]; exact h1, h2, h.xc.keepsU h3 (by decide) (h.b.ne h.xc (by decide))⟩
/-- one more line -/
theorem tx_line {c : CalD} {vcs vwk vsp : Value} {w wr : World} {B m : Nat} {x : Ln} (h : TxInv c vcs vwk vsp w wr B m) (hx : (calLns c)[m]? = some x) (hf : CalFine c) (hE : Env w) (hB : w.heap.size ≤ B) (v : Value) (hv : NumsAt wr v x.2) :
    Calls Tryd.prog 9 #[.string (bs (wordL x.1)), v, .pointer (some ⟨B, 0, none⟩)] wr fun e w' => (∃ u, e = .returned u) ∧ TxInv c vcs vwk vsp w w' B (m + 1) := by
  have hall := lns_mem _ _ (lns_cal hf)
  have hlen : (calLns c).length ≤ 400 := by
    rw [cal_len]
    have := hf.wl; have := hf.sl; have := hf.zone.len
    omega
  obtain ⟨h1, h2⟩ := hall x (List.mem_of_getElem? hx)
  refine (line_any B _ (wordL x.1) x.2 v w wr hE h.below hB h.b hv h2 h1 (by have := word_short x.1; omega) (by have := text_pre hall hlen m; omega)).mono ?_
  intro e w' hp
  exact ⟨hp.1, h.line hx hp⟩
theorem nums_new (w : World) (ns : List Int) : NumsAt (w.alloc (.cells (ns.map (Value.int .i64)).toArray 3)) (.slice (some ⟨w.heap.size, 0, none⟩) ns.length ns.length) ns :=
  ⟨w.heap.size, ns.length, _, _, rfl, heap_alloc_new _ _, fun i hi => by simp [hi]⟩

/-- 'append(out, l...)' of elements that lie in memory -/
theorem append_all {P : Program} {ops : Array Oper} {rest : List Oper} {o : Oper} {a : Act} {Q : Exit → Act → World → Prop} (hgd : o.guard = none) (s x : Operand) (t : TypeId)
    (ho : o.op = .call { callee := .builtin .append, args := #[s, x], argTypes := #[t, t] })
    (B : Nat) (e : TypeId) (z : Value) (size bytes : Nat) (ht : P.underlying t = some (.slice e)) (hi : (P.info? e).map (fun i => (i.zero, i.size, i.bytes)) = some (some z, size, bytes))
    (hzs : z.cells.size = size) (hsz : 0 < size)
    (W w : World) (v : Value) (n : Nat) (xs : List Value) (hs : a.eval s = v) (hown : w.ownsRow B e size v n xs)
    (ad : Addr) (m c : Nat) (news : List Value) (hx : a.eval x = .slice (some ad) m c) (hl : news.length = m * size) (hnews : ∀ j u, news[j]? = some u → w.cell? (ad.add j) = some u) (h1 : ∀ u ∈ news, u.oneCell' = true)
    (hbytes : (n + m) * bytes ≤ 140737488355328) (hn : n + m < 140737488355328) (hB : B ≤ w.heap.size) (hbel : Below B W w)
    (h : ∀ v' w', w'.ownsRow B e size v' (n + m) (xs ++ news) → Below B W w' → wpList P ops Q rest (a.put o.dst v') w') :
    wpList P ops Q (o :: rest) a w := by
  obtain ⟨i0, hi0, hz0, hz1, hz2⟩ := info_parts hi
  refine wpList_append_own _ hgd s x t ho B e i0 z size bytes ht hi0 hz0 hz1 hz2 hzs hsz v n xs hs hown ad m c news hx hl hnews h1 (by unfold maxLen; omega) hbytes hB ?_
  intro v' w' h2 hg h3
  exact h v' w' h2 (hbel.grown hg hB (fun k hk => (hown.lt k hk).1))

theorem nums_owns {w : World} {N : Nat} {v : Value} {ns : List Int} (h : w.ownsRow N 3 1 v ns.length (ns.map (Value.int .i64))) (h0 : 0 < ns.length) : NumsAt w v ns := by
  rcases h.2 with ⟨_, h1⟩ | ⟨g, cap, cur, rfl, _, hg, _, _, _, ht⟩
  · omega
  · refine ⟨g, cap, cur, _, rfl, hg, fun i hi => ?_⟩
    have h1 : (cur.toList.take (ns.length * 1))[i]? = (ns.map (Value.int .i64))[i]? := by rw [ht]
    rw [List.getElem?_take_of_lt (by omega)] at h1
    rw [← Array.getElem?_toList, h1]
    simp [hi]
def spPre (x : Int × List Shf) (j : Nat) : List Int := x.1 :: (x.2.take j).flatMap fun s => [s.2.1, s.2.2]
theorem spPre_next {x : Int × List Shf} {j : Nat} (hj : j < x.2.length) : spPre x (j + 1) = spPre x j ++ [x.2[j].2.1, x.2[j].2.2] := by
  unfold spPre
  rw [List.take_succ_eq_append_getElem hj, List.flatMap_append]
  simp
theorem spPre_len (x : Int × List Shf) {j : Nat} (hj : j ≤ x.2.length) : (spPre x j).length = 1 + 2 * j := by
  have key : ∀ l : List Shf, (l.flatMap fun s => [s.2.1, s.2.2]).length = 2 * l.length := by
    intro l
    induction l with
    | nil => rfl
    | cons s t ih => rw [List.flatMap_cons, List.length_append, ih, List.length_cons]; simp; omega
  unfold spPre
  rw [List.length_cons, key, List.length_take]
  omega
theorem intInfo : (Tryd.prog.info? 3).map (fun i => (i.zero, i.size, i.bytes)) = some (some (.int .i64 0), 1, 8) := by kernel_rfl

def CtPost (c : CalD) (w : World) (e : Ending) (w' : World) : Prop :=
  ∃ s k, e = .returned (.tuple #[.string s, .int .i64 k]) ∧ Below w.heap.size w w' ∧ (k ≠ 0 → s = ⟨#[]⟩) ∧ (k = 0 → CkFine c ∧ s = bs (textL (calLns c)) ∧ (textL (calLns c)).length ≤ 20000) ∧ (CkFine c → (textL (calLns c)).length ≤ 20000 → k = 0)

set_option maxRecDepth 100000 in
set_option maxHeartbeats 4000000 in
theorem CalendarText_any (c : CalD) (vcs vwk vsp : Value) (w : World) (h : CalAt w vcs vwk vsp c) (hE : Env w) :
    Calls Tryd.prog 5 #[.agg #[.int .i64 c.off, vcs, vwk, vsp]] w (CtPost c w) := by
  obtain ⟨acs, ccs, rfl⟩ := SliceAt.len h.cs
  obtain ⟨awk, cwk, rfl⟩ := SliceAt.len h.wk
  obtain ⟨asp, csp, rfl⟩ := SliceAt.len h.sps
  have H := Lib.hid h
  have HE := Lib.hid hE
  obtain ⟨bx, bbl⟩ := box1 w #[.int .i64 c.off, .slice acs c.cs.length ccs, .slice awk c.wk.length cwk, .slice asp c.sps.length csp] 28
  clear h hE
  go_enter Tryd.func5, Tryd.ntmps5
  go_upto_region 1 with fail
  generalize w.alloc (.cells #[.int .i64 c.off, .slice acs c.cs.length ccs, .slice awk c.wk.length cwk, .slice asp c.sps.length csp] 28) = w1 at *
  have k0 := bx.cell 0
  have k1 := bx.cell 1
  have k2 := bx.cell 2
  have k3 := bx.cell 3
  have HB1 := Lib.hid bbl
  have HX1 := Lib.hid bx
  have hck := CheckCalendar_any c _ _ _ w1 (H.out.below bbl)
  clear bx bbl
  go_wp2_with fail
  refine hck.mono ?_
  clear hck
  rintro e w2 ⟨⟨k, rfl, hk⟩, hb2⟩
  have HB2 := Lib.hid (below_up HB1.out hb2 HB1.out.size)
  have HX2 := Lib.hid (HX1.out.below hb2 HX1.out.lt)
  have HK := Lib.hid hk
  clear hb2 k0 k1 k2 k3 HX1 HB1 hk
  by_cases hkz : k ≠ 0
  · have q : (k == 0) = false := by simpa using hkz
    have q2 : (k != 0) = true := by simpa using hkz
    have HKZ := Lib.hid hkz
    clear hkz
    go_wp2_with fail
    go_ret2
    exact ⟨_, _, rfl, HB2.out, fun _ => rfl, fun h => absurd h HKZ.out, fun h => absurd (HK.out.2 h) HKZ.out⟩
  obtain rfl : k = 0 := by omega
  have HF := Lib.hid (HK.out.1 rfl)
  clear HK hkz
  have hBw := HB2.out.size
  have HI2 := Lib.hid (show TxInv c (.slice acs c.cs.length ccs) (.slice awk c.wk.length cwk) (.slice asp c.sps.length csp) w (w2.alloc (.cells #[.pointer none, .slice none 0 0] 42)) w2.heap.size 0 from
    ⟨by rw [List.take_zero]; exact BuildsAt.new w2, HB2.out.alloc HB2.out.size _, HX2.out.alloc _⟩)
  go_upto_region 6 with fail
  generalize w2.alloc (.cells #[.pointer none, .slice none 0 0] 42) = w3 at *
  generalize w2.heap.size = B at *
  have k0 := HI2.out.xc.cell 0
  have hl0 := tx_line (HI2.out.to ((Below.refl _ _).alloc (Nat.le_refl _) (.cells #[.int .i64 c.off] 3))) (cal_at0 c) HF.out.fine HE.out hBw _ (nums_new w3 [c.off])
  have HL0 := Lib.hid (show Calls Tryd.prog 9 #[.string ⟨#[122, 111, 110, 101]⟩, .slice (some ⟨w3.heap.size, 0, none⟩) 1 1, .pointer (some ⟨B, 0, none⟩)] (w3.alloc (.cells #[.int .i64 c.off] 3)) _ from hl0)
  clear hl0
  go_wp2_with fail
  refine HL0.out.mono ?_
  clear HL0
  rintro e w4 ⟨⟨u, rfl⟩, hI4⟩
  have HI4 := Lib.hid hI4
  clear hI4 k0 HI2
  have hn1 := HF.out.fine.zone.len
  have hn2 := HF.out.wl
  have hn3 := HF.out.sl
  have k1 := HI4.out.xc.cell 1
  go_wp2_with fail
  go_loopw [32] (fun iv wr => ∃ i : Nat, iv = .int .i64 i ∧ i ≤ c.cs.length ∧ TxInv c (.slice acs c.cs.length ccs) (.slice awk c.wk.length cwk) (.slice asp c.sps.length csp) w wr B (1 + i)) (fun iv _ => c.cs.length - (intOf iv).toNat)
  case atStart => exact ⟨0, rfl, Nat.zero_le _, HI4.out⟩
  case round =>
    obtain ⟨i, rfl, hi, hI⟩ := hrel
    have HI := Lib.hid hI
    clear hI HI4 k1
    by_cases hlt : i < c.cs.length
    · obtain ⟨b, of', cap', hv, hb, hel⟩ := H.out.cs.at (by omega)
      cases hv
      obtain ⟨e0, e1⟩ := hel i hlt
      have c0 := (below_cell HI.out.below hb).trans e0
      have c1 := (below_cell HI.out.below hb).trans e1
      have HAT := Lib.hid (cal_at1 c hlt)
      generalize c.cs[i] = x at *
      obtain ⟨x1, x2⟩ := x
      simp only at c0 c1 HAT
      clear e0 e1 hel
      have hbx := box1 wr #[.int .i64 x1, .int .i64 x2] 52
      have m0 := hbx.1.cell 0
      have m1 := hbx.1.cell 1
      have HI5 := Lib.hid (HI.out.to hbx.2)
      go_upto_region 10 with fail
      generalize wr.alloc (.cells #[.int .i64 x1, .int .i64 x2] 52) = wb at *
      clear hbx c0 c1
      have hl := tx_line (HI5.out.to ((Below.refl _ _).alloc (Nat.le_refl _) (.cells #[.int .i64 x1, .int .i64 x2] 3))) HAT.out HF.out.fine HE.out hBw _ (nums_new wb [x1, x2])
      have HL := Lib.hid (show Calls Tryd.prog 9 #[.string ⟨#[99, 104, 97, 110, 103, 101]⟩, .slice (some ⟨wb.heap.size, 0, none⟩) 2 2, .pointer (some ⟨B, 0, none⟩)] (wb.alloc (.cells #[.int .i64 x1, .int .i64 x2] 3)) _ from hl)
      clear hl
      go_wp2_with fail
      refine HL.out.mono ?_
      clear HL
      rintro e w5 ⟨⟨u, rfl⟩, hI5⟩
      have HI6 := Lib.hid hI5
      clear hI5
      go_wp2_with fail
      go_roundw
      case rel => exact ⟨i + 1, by go_num, hlt, HI6.out⟩
      case measure => simp [intOf]; omega
    · obtain rfl : i = c.cs.length := by omega
      have k2 := HI.out.xc.cell 2
      go_wp2_with fail
      go_loopw [47] (fun iv wr => ∃ i : Nat, iv = .int .i64 i ∧ i ≤ c.wk.length ∧ TxInv c (.slice acs c.cs.length ccs) (.slice awk c.wk.length cwk) (.slice asp c.sps.length csp) w wr B (1 + c.cs.length + i)) (fun iv _ => c.wk.length - (intOf iv).toNat)
      case atStart => exact ⟨0, rfl, Nat.zero_le _, HI.out⟩
      case round =>
        obtain ⟨i, rfl, hi, hI⟩ := hrel
        clear HI k2 hlt
        have HI := Lib.hid hI
        clear hI
        by_cases hlt : i < c.wk.length
        · obtain ⟨b, of', cap', hv, hb, hel⟩ := H.out.wk.at (by omega)
          cases hv
          obtain ⟨e0, e1, e2⟩ := hel i hlt
          have c0 := (below_cell HI.out.below hb).trans e0
          have c1 := (below_cell HI.out.below hb).trans e1
          have c2 := (below_cell HI.out.below hb).trans e2
          have HAT := Lib.hid (cal_at2 c hlt)
          generalize c.wk[i] = x at *
          obtain ⟨x1, x2, x3⟩ := x
          simp only at c0 c1 c2 HAT
          clear e0 e1 e2 hel
          have hbx := box1 wr #[.int .i64 x1, .int .i64 x2, .int .i64 x3] 54
          have m0 := hbx.1.cell 0
          have m1 := hbx.1.cell 1
          have m2 := hbx.1.cell 2
          have HI5 := Lib.hid (HI.out.to hbx.2)
          go_upto_region 15 with fail
          generalize wr.alloc (.cells #[.int .i64 x1, .int .i64 x2, .int .i64 x3] 54) = wb at *
          clear hbx c0 c1 c2
          have hl := tx_line (HI5.out.to ((Below.refl _ _).alloc (Nat.le_refl _) (.cells #[.int .i64 x1, .int .i64 x2, .int .i64 x3] 3))) HAT.out HF.out.fine HE.out hBw _ (nums_new wb [x1, x2, x3])
          have HL := Lib.hid (show Calls Tryd.prog 9 #[.string ⟨#[115, 104, 105, 102, 116]⟩, .slice (some ⟨wb.heap.size, 0, none⟩) 3 3, .pointer (some ⟨B, 0, none⟩)] (wb.alloc (.cells #[.int .i64 x1, .int .i64 x2, .int .i64 x3] 3)) _ from hl)
          clear hl
          go_wp2_with fail
          refine HL.out.mono ?_
          clear HL
          rintro e w5 ⟨⟨u, rfl⟩, hI5⟩
          have HI6 := Lib.hid hI5
          clear hI5
          go_wp2_with fail
          go_roundw
          case rel => exact ⟨i + 1, by go_num, hlt, HI6.out⟩
          case measure => simp [intOf]; omega
        · obtain rfl : i = c.wk.length := by omega
          have k3 := HI.out.xc.cell 3
          go_wp2_with fail
          go_loopw [64] (fun iv wr => ∃ i : Nat, iv = .int .i64 i ∧ i ≤ c.sps.length ∧ TxInv c (.slice acs c.cs.length ccs) (.slice awk c.wk.length cwk) (.slice asp c.sps.length csp) w wr B (1 + c.cs.length + c.wk.length + i)) (fun iv _ => c.sps.length - (intOf iv).toNat)
          case atStart => exact ⟨0, rfl, Nat.zero_le _, HI.out⟩
          case round =>
            obtain ⟨i, rfl, hi, hI⟩ := hrel
            clear HI k3 hlt
            have HI := Lib.hid hI
            clear hI
            by_cases hlt : i < c.sps.length
            · obtain ⟨b, of', cap', hv, hb, hel⟩ := Specs.at H.out.sps (by omega)
              cases hv
              obtain ⟨u, e0, e1, hus⟩ := hel i hlt
              obtain ⟨ua, uc, rfl⟩ := SliceAt.len hus
              have c0 := (below_cell HI.out.below hb).trans e0
              have c1 := (below_cell HI.out.below hb).trans e1
              have HAT := Lib.hid (cal_at3 c hlt)
              have hln := (HF.out.fine.spc i hlt).len
              have HUS := Lib.hid hus
              generalize c.sps[i] = x at *
              have hbx := box1 wr #[.int .i64 x.1, .slice ua x.2.length uc] 56
              have m0 := hbx.1.cell 0
              have m1 := hbx.1.cell 1
              have hsl := hbx.1.lt
              have HI5 := Lib.hid (HI.out.to hbx.2)
              clear e0 e1 hel hus
              go_upto_region 20 with fail
              generalize wr.alloc (.cells #[.int .i64 x.1, .slice ua x.2.length uc] 56) = wb at *
              generalize wr.heap.size = Bs at *
              clear hbx c0 c1
              have HM1 := Lib.hid m1
              have hrow0 := World.ownsRow_lit (base := wb.heap.size) (e := 3) (size := 1) wb #[.int .i64 x.1] 1 (Nat.le_refl _) (by unfold maxLen; omega) rfl
              have hbl0 := (Below.refl wb.heap.size wb).alloc (Nat.le_refl _) (.cells #[.int .i64 x.1] 3)
              have HR0 := Lib.hid hrow0
              have HBL0 := Lib.hid hbl0
              have m1' := (below_cell hbl0 hsl).trans m1
              clear hrow0 hbl0
              go_upto_region 21 with fail
              generalize wb.alloc (.cells #[.int .i64 x.1] 3) = wn at *
              clear m0 m1
              go_wp2_with fail
              go_loopw [13, 74] (fun nv jv wz => ∃ j : Nat, jv = .int .i64 j ∧ j ≤ x.2.length ∧ wz.ownsRow wb.heap.size 3 1 nv (spPre x j).length ((spPre x j).map (Value.int .i64)) ∧ Below wb.heap.size wb wz) (fun _ jv _ => x.2.length - (intOf jv).toNat)
              case atStart => exact ⟨0, rfl, Nat.zero_le _, HR0.out, HBL0.out⟩
              case round =>
                obtain ⟨j, rfl, hj, hro, hbz⟩ := hrel
                have HRO := Lib.hid hro
                have HBZ := Lib.hid hbz
                have hwz := hbz.size
                obtain ⟨an, cn, rfl⟩ := owns_slice hro
                have hspl := spPre_len x hj
                have hspl2 : (spPre x j).length ≤ 25 := by omega
                have HSPL := Lib.hid hspl
                clear hro hbz hspl HR0 HBL0 m1'
                by_cases hjt : j < x.2.length
                · obtain ⟨b2, of2, cap2, hv, hb2, hel⟩ := Shifts.at HUS.out (by omega)
                  cases hv
                  obtain ⟨e0, e1, e2⟩ := hel j hjt
                  have hbw9 := below_up HI5.out.below HBZ.out HI5.out.below.size
                  have c0 := (below_cell hbw9 hb2).trans e0
                  have c1 := (below_cell hbw9 hb2).trans e1
                  have c2 := (below_cell hbw9 hb2).trans e2
                  have HNX := Lib.hid (spPre_next hjt)
                  generalize x.2[j] = y at *
                  obtain ⟨y1, y2, y3⟩ := y
                  simp only at c0 c1 c2 HNX
                  have hby := box1 wr #[.int .i64 y1, .int .i64 y2, .int .i64 y3] 54
                  have n1 := hby.1.cell 1
                  have n2 := hby.1.cell 2
                  have HRO2 := Lib.hid (owns_below HRO.out hby.2)
                  have HBZ2 := Lib.hid (below_up HBZ.out hby.2 hwz)
                  clear e0 e1 e2 hel hbw9
                  go_upto_region 24 with fail
                  generalize wr.alloc (.cells #[.int .i64 y1, .int .i64 y2, .int .i64 y3] 54) = wy at *
                  clear hby c0 c1 c2
                  have hwy := HBZ2.out.size
                  have HRO3 := Lib.hid (HRO2.out.alloc (.cells #[.int .i64 y2, .int .i64 y3] 3))
                  have HBZ3 := Lib.hid (HBZ2.out.alloc hwy (.cells #[.int .i64 y2, .int .i64 y3] 3))
                  have HNB := Lib.hid (World.news_of_block (heap_alloc_new wy (.cells #[.int .i64 y2, .int .i64 y3] 3)))
                  generalize hn0 : (spPre x j).length = n at *
                  have HN0 := Lib.hid hn0
                  clear hn0
                  go_wp2_with (at_builtin; go_must (refine append_all rfl _ _ 43 rfl wb.heap.size 3 (.int .i64 0) 1 8 Tryd.underlying43 intInfo rfl (by decide) wb (wy.alloc (.cells #[.int .i64 y2, .int .i64 y3] 3)) (.slice an n cn) n ((spPre x j).map (Value.int .i64)) rfl HRO3.out ⟨wy.heap.size, 0, none⟩ 2 2 [.int .i64 y2, .int .i64 y3] rfl rfl HNB.out (by simp [Value.oneCell']) (by omega) (by omega) HBZ3.out.size HBZ3.out ?_); intro v' w6 ho6 hb6)
                  go_roundw
                  case rel =>
                    refine ⟨j + 1, by go_num, hjt, ?_, hb6⟩
                    rw [HNX.out, List.length_append, List.map_append, HN0.out]
                    exact ho6
                  case measure => simp [intOf]; omega
                · obtain rfl : j = x.2.length := by omega
                  have e : spPre x x.2.length = spNums x := by unfold spPre spNums; rw [List.take_length]
                  have hro := HRO.out
                  have hl : Calls Tryd.prog 9 #[.string ⟨#[100, 97, 121]⟩, .slice an (spPre x x.2.length).length cn, .pointer (some ⟨B, 0, none⟩)] wr fun e w' => (∃ u, e = .returned u) ∧ TxInv c (.slice acs c.cs.length ccs) (.slice awk c.wk.length cwk) (.slice (some ⟨b, of', none⟩) c.sps.length csp) w w' B (1 + c.cs.length + c.wk.length + i + 1) := by
                    rw [e] at hro ⊢
                    exact tx_line (HI5.out.to HBZ.out) HAT.out HF.out.fine HE.out hBw _ (nums_owns hro (by unfold spNums; simp))
                  have HL := Lib.hid hl
                  clear hro hl e
                  generalize (spPre x x.2.length).length = n at *
                  go_wp2_with fail
                  refine HL.out.mono ?_
                  clear HL
                  rintro e w5 ⟨⟨u, rfl⟩, hI5⟩
                  have HI6 := Lib.hid hI5
                  clear hI5
                  go_wp2_with fail
                  go_roundw
                  case rel => exact ⟨i + 1, by go_num, hlt, HI6.out⟩
                  case measure => simp [intOf]; omega
            · obtain rfl : i = c.sps.length := by omega
              have hbt := HI.out.b
              rw [← cal_len, List.take_length] at hbt
              have htl := text_pre (lns_mem _ _ (lns_cal HF.out.fine)) (by rw [cal_len]; omega) (calLns c).length
              rw [List.take_length] at htl
              have hln := Tryd.Builder_Len B B _ wr hbt
              rw [Lib.byteCells_length] at hln
              have hst := Tryd.Builder_String_any B B _ wr hbt (Nat.le_of_lt hbt.lt)
              have HLN := Lib.hid hln
              have HST := Lib.hid hst
              have HFX := Lib.hid (show CkFine c from HF.out)
              obtain ⟨T, hT⟩ : ∃ T, textL (calLns c) = T := ⟨_, rfl⟩
              have HT := Lib.hid hT
              rw [hT] at htl
              clear hbt hln hst
              by_cases hlong : 20000 < T.length
              · have q : decide ((20000 : Int) < (T.length : Int)) = true := decide_eq_true (by omega)
                have HP := Lib.hid (show CtPost c w (.returned (.tuple #[.string ⟨#[]⟩, .int .i64 4])) wr from ⟨_, _, rfl, HI.out.below, fun _ => rfl, (fun h => by cases h), (fun _ h => by rw [hT] at h; omega)⟩)
                rw [hT] at HLN HST
                clear hlong hT
                go_wp2_with fail
                refine HLN.out.mono ?_
                rintro e w7 ⟨rfl, rfl⟩
                go_wp2_with fail
                go_ret2
                exact HP.out
              · have q : decide ((20000 : Int) < (T.length : Int)) = false := decide_eq_false (by omega)
                have HLG := Lib.hid hlong
                rw [hT] at HLN HST
                clear hlong hT
                go_wp2_with fail
                refine HLN.out.mono ?_
                rintro e w7 ⟨rfl, rfl⟩
                go_wp2_with fail
                refine HST.out.mono ?_
                rintro e w8 ⟨rfl, hb8⟩
                have HP := Lib.hid (show CtPost c w (.returned (.tuple #[.string ⟨T.toArray⟩, .int .i64 0])) w8 from ⟨_, _, rfl, HI.out.below.trans (hb8.mono hBw), fun h => absurd rfl h, fun _ => ⟨HFX.out, by rw [HT.out]; rfl, by rw [HT.out]; have := HLG.out; omega⟩, fun _ _ => rfl⟩)
                clear hb8
                go_wp2_with fail
                go_ret2
                exact HP.out
end Go.Proofs.YtjkmehbmnhdcpaaDoor
