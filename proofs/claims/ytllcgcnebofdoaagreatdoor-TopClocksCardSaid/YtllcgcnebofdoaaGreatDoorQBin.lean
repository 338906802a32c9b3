/- The walk of slices.BinarySearchFunc over a calendar's special days. -/
import Derived.Test.YtllcgcnebofdoaaGreatDoorQCalChk
import Derived.Laws.OwnMore
import Derived.Lib.SliceRun
namespace Go.Proofs.YtllcgcnebofdoaaGreatDoor
open Go.RowKit

theorem cmpI_neg (a b : Int) : cmpI a b < 0 ↔ a < b := by
  unfold cmpI
  repeat' split
  all_goals omega
theorem cmpI_zero (a b : Int) : cmpI a b = 0 ↔ a = b := by
  unfold cmpI
  repeat' split
  all_goals omega
theorem spcmp_any (d t : Int) (v : Value) (hv : v.oneCell' = true) (w : World) :
    Calls Tryz.prog 154 #[.agg #[.int .i64 d, v], .int .i64 t] w fun e w' => e = .returned (.int .i64 (cmpI d t)) ∧ Below w.heap.size w w' := by
  have hbx := box1 w #[.int .i64 d, v] 92
  go_enter Tryz.func154, Tryz.ntmps154
  go_upto_region 1 with fail
  generalize w.alloc (.cells #[.int .i64 d, v] 92) = w2 at *
  obtain ⟨hx, hbl⟩ := hbx
  have k0 := hx.cell 0
  have HB2 := Lib.hid hbl
  clear hx hbl
  go_wp2_with fail
  refine (cmp_any _ _ _).mono ?_
  rintro e w' ⟨rfl, rfl⟩
  go_wp2_with fail
  go_ret
  exact ⟨rfl, HB2.out⟩

structure BinInv (l : List (Int × List Shf)) (t : Int) (w wr : World) (i j : Nat) : Prop where
  le : i ≤ j
  hi : j ≤ l.length
  lo : ∀ q (h : q < l.length), q < i → l[q].1 < t
  up : ∀ q (h : q < l.length), j ≤ q → t ≤ l[q].1
  below : Below w.heap.size w wr
def Found (l : List (Int × List Shf)) (t : Int) (k : Nat) (b : Bool) : Prop := (b = true → ∃ h : k < l.length, l[k].1 = t) ∧ (b = false → ∀ x ∈ l, x.1 ≠ t)

set_option maxRecDepth 100000 in
set_option maxHeartbeats 2000000 in
theorem bin_any (v : Value) (l : List (Int × List Shf)) (t : Int) (w : World) (h : Specs w v l) (hl : l.length ≤ 1000) (hr : ∀ i j (hi : i < l.length) (hj : j < l.length), i < j → l[i].1 < l[j].1) :
    Calls Tryz.prog 153 #[v, .int .i64 t, .func (.func 154) #[] #[]] w fun e w' => (∃ k b, e = .returned (.tuple #[.int .i64 (k : Nat), .bool b]) ∧ Found l t k b) ∧ Below w.heap.size w w' := by
  obtain ⟨a, cap, rfl⟩ := SliceAt.len h
  have H := Lib.hid h
  have HR := Lib.hid hr
  clear h hr
  go_enter Tryz.func153, Tryz.ntmps153
  go_wp2_with fail
  go_loopw [9, 10] (fun iv jv wr => ∃ i j : Nat, iv = .int .i64 i ∧ jv = .int .i64 j ∧ BinInv l t w wr i j) (fun iv jv _ => (intOf jv).toNat - (intOf iv).toNat)
  case atStart => exact ⟨0, l.length, rfl, rfl, Nat.zero_le _, Nat.le_refl _, fun q _ h => by omega, fun q _ h => by omega, Below.refl _ _⟩
  case round =>
    obtain ⟨i, j, rfl, rfl, hI⟩ := hrel
    have HI := Lib.hid hI
    have hij := hI.le
    have hjl := hI.hi
    clear hI
    by_cases hlt : i < j
    · have qk : decide ((i : Int) < (j : Int)) = true := decide_eq_true (by omega)
      have s1 : IntKind.i64.wrap ((i : Int) + (j : Int)) = ((i + j : Nat) : Int) := by rw [IntWalk.i64_in _ (by omega)]; omega
      obtain ⟨h, hh⟩ : ∃ h, h = (i + j) / 2 := ⟨_, rfl⟩
      have e : ((i : Int) + (j : Int)) / 2 = (h : Int) := by omega
      have hm : h < l.length := by omega
      obtain ⟨b, of', cap', hv, hb, hel⟩ := Specs.at H.out (by omega)
      cases hv
      obtain ⟨u, e0, e1, hus⟩ := hel h hm
      have c0 := (below_cell HI.out.below hb).trans e0
      have c1 := (below_cell HI.out.below hb).trans e1
      obtain ⟨ua, uc, rfl⟩ := SliceAt.len hus
      have HIH := Lib.hid (show i ≤ h ∧ h < j by omega)
      have HLT := Lib.hid (show l[h].1 < t → BinInv l t w wr (h + 1) j from fun g => ⟨by omega, hjl, fun q hq hql => by
        by_cases hqh : q = h
        · subst hqh; exact g
        · have := HR.out q h hq hm (by omega); omega, HI.out.up, HI.out.below⟩)
      have HGE := Lib.hid (show t ≤ l[h].1 → BinInv l t w wr i h from fun g => ⟨by omega, by omega, HI.out.lo, fun q hq hql => by
        by_cases hqh : q = h
        · subst hqh; exact g
        · have := HR.out h q hm hq (by omega); omega, HI.out.below⟩)
      have hcm := cmpI_neg l[h].1 t
      generalize l[h].1 = d at *
      generalize l[h].2 = sl at *
      have HCM := Lib.hid hcm
      have hcall := spcmp_any d t (.slice ua sl.length uc) rfl wr
      generalize cmpI d t = z at *
      have HCALL := Lib.hid hcall
      clear e0 e1 hel hus hh hcm hcall
      go_upto_region 5 with fail
      clear e
      go_wp2_with fail
      refine HCALL.out.mono ?_
      rintro e w5 ⟨rfl, hb5⟩
      have HB5 := Lib.hid (below_up HI.out.below hb5 HI.out.below.size)
      clear hb5
      have hih := HIH.out
      by_cases hz : z < 0
      · have qz : decide (z < 0) = true := decide_eq_true hz
        have HN := Lib.hid (HLT.out (HCM.out.1 hz))
        clear hz
        go_wp2_with fail
        go_roundw
        case rel => exact ⟨h + 1, j, by go_num, rfl, HN.out.le, HN.out.hi, HN.out.lo, HN.out.up, HB5.out⟩
        case measure => simp [intOf]; omega
      · have qz : decide (z < 0) = false := decide_eq_false hz
        have HN := Lib.hid (HGE.out (by
          have : ¬ d < t := fun g => hz (HCM.out.2 g)
          omega))
        clear hz
        go_wp2_with fail
        go_roundw
        case rel => exact ⟨i, h, rfl, rfl, HN.out.le, HN.out.hi, HN.out.lo, HN.out.up, HB5.out⟩
        case measure => simp [intOf]; omega
    · obtain rfl : i = j := by omega
      by_cases hn : i < l.length
      · obtain ⟨b, of', cap', hv, hb, hel⟩ := Specs.at H.out (by omega)
        cases hv
        obtain ⟨u, e0, e1, hus⟩ := hel i hn
        have c0 := (below_cell HI.out.below hb).trans e0
        have c1 := (below_cell HI.out.below hb).trans e1
        obtain ⟨ua, uc, rfl⟩ := SliceAt.len hus
        have HFD := Lib.hid (show Found l t i (cmpI l[i].1 t == 0) by
          have hcm := cmpI_zero l[i].1 t
          refine ⟨fun g => ⟨hn, hcm.1 (by simpa using g)⟩, fun g x hx => ?_⟩
          obtain ⟨q, hq, rfl⟩ := List.mem_iff_getElem.1 hx
          have hne : l[i].1 ≠ t := fun g2 => by rw [hcm.2 g2] at g; simp at g
          have h2 := HI.out.up i hn (Nat.le_refl _)
          intro g3
          rcases Nat.lt_or_ge q i with g4 | g4
          · have := HI.out.lo q hq g4; omega
          · rcases Nat.lt_or_ge i q with g5 | g5
            · have := HR.out i q hn hq g5; omega
            · obtain rfl : q = i := by omega
              exact hne g3)
        generalize l[i].1 = d at *
        generalize l[i].2 = sl at *
        have hcall := spcmp_any d t (.slice ua sl.length uc) rfl wr
        generalize cmpI d t = z at *
        have HCALL := Lib.hid hcall
        clear e0 e1 hel hus hcall
        go_wp2_with fail
        refine HCALL.out.mono ?_
        rintro e w5 ⟨rfl, hb5⟩
        have HB5 := Lib.hid (below_up HI.out.below hb5 HI.out.below.size)
        clear hb5
        go_wp2_with fail
        go_ret2
        exact ⟨⟨i, _, rfl, HFD.out⟩, HB5.out⟩
      · have HFD := Lib.hid (show Found l t i false from ⟨fun g => (by cases g), fun _ x hx => by
          obtain ⟨q, hq, rfl⟩ := List.mem_iff_getElem.1 hx
          have := HI.out.lo q hq (by omega)
          omega⟩)
        go_wp2_with fail
        go_ret2
        exact ⟨⟨i, _, rfl, HFD.out⟩, HI.out.below⟩

end Go.Proofs.YtllcgcnebofdoaaGreatDoor

/- The walks of slices.Clone at shifts, and of cal.floor at 7. -/
namespace Go.Proofs.YtllcgcnebofdoaaGreatDoor
open Go.RowKit

def encSh (x : Shf) : List Value := [.int .i64 x.1, .int .i64 x.2.1, .int .i64 x.2.2]
theorem infoShift : (Tryz.prog.info? 131).map (fun i => (i.zero, i.size, i.bytes)) = some (some (.agg #[.int .i64 0, .int .i64 0, .int .i64 0]), 3, 24) := by kernel_rfl
theorem shifts_of_owns {w : World} {B : Nat} {v : Value} {l : List Shf} (h : w.ownsRow B 131 3 v l.length (l.flatMap encSh)) : Shifts w v l := slice_of_owns encSh h (fun _ _ => rfl) (fun _ _ => rfl)
theorem encSh_length (l : List Shf) : (l.flatMap encSh).length = l.length * 3 := by
  induction l with
  | nil => rfl
  | cons x r ih => rw [List.flatMap_cons, List.length_append, ih]; simp [encSh]; omega
theorem encSh_one (l : List Shf) : ∀ u ∈ l.flatMap encSh, u.oneCell' = true := by
  intro u hu
  obtain ⟨x, _, hx⟩ := List.mem_flatMap.1 hu
  simp [encSh] at hx
  rcases hx with rfl | rfl | rfl <;> rfl
/-- the cells of a slice of shifts, one by one -/
theorem shifts_news {w : World} {b off : Nat} {l : List Shf} (hel : ∀ i (hi : i < l.length), w.cell? ⟨b, off + i * 3, none⟩ = some (.int .i64 l[i].1) ∧ w.cell? ⟨b, off + i * 3 + 1, none⟩ = some (.int .i64 l[i].2.1) ∧ w.cell? ⟨b, off + i * 3 + 2, none⟩ = some (.int .i64 l[i].2.2)) :
    ∀ j u, (l.flatMap encSh)[j]? = some u → w.cell? ((⟨b, off, none⟩ : Addr).add j) = some u := by
  intro j u hj
  have hlt : j < l.length * 3 := by rw [← encSh_length]; exact (List.getElem?_eq_some_iff.1 hj).1
  have hi : j / 3 < l.length := by omega
  have e := flatMap_at encSh 3 l (fun _ _ => rfl) (j / 3) (j % 3) hi (Nat.mod_lt _ (by decide))
  rw [Nat.div_add_mod'] at e
  rw [e] at hj
  obtain ⟨h0, h1, h2⟩ := hel (j / 3) hi
  have ea : (⟨b, off, none⟩ : Addr).add j = ⟨b, off + j, none⟩ := by unfold Addr.add; split <;> simp_all
  rw [ea]
  have hm : j % 3 = 0 ∨ j % 3 = 1 ∨ j % 3 = 2 := by omega
  rcases hm with g | g | g
  · rw [show off + j = off + j / 3 * 3 by omega, h0, ← hj, g]; rfl
  · rw [show off + j = off + j / 3 * 3 + 1 by omega, h1, ← hj, g]; rfl
  · rw [show off + j = off + j / 3 * 3 + 2 by omega, h2, ← hj, g]; rfl

/-- 'append(out, l...)' of elements that lie in memory -/
theorem append_all {P : Program} {ops : Array Oper} {rest : List Oper} {o : Oper} {a : Act} {Q : Exit → Act → World → Prop} (hgd : o.guard = none) (s x : Operand) (t : TypeId)
    (ho : o.op = .call { callee := .builtin .append, args := #[s, x], argTypes := #[t, t] })
    (B : Nat) (e : TypeId) (z : Value) (size bytes : Nat) (ht : P.underlying t = some (.slice e)) (hi : (P.info? e).map (fun i => (i.zero, i.size, i.bytes)) = some (some z, size, bytes))
    (hzs : z.cells.size = size) (hsz : 0 < size)
    (W w : World) (v : Value) (n : Nat) (xs : List Value) (hs : a.eval s = v) (hown : w.ownsRow B e size v n xs)
    (ad : Addr) (m c : Nat) (news : List Value) (hx : a.eval x = .slice (some ad) m c) (hl : news.length = m * size) (hnews : ∀ j u, news[j]? = some u → w.cell? (ad.add j) = some u) (h1 : ∀ u ∈ news, u.oneCell' = true)
    (hbytes : (n + m) * bytes ≤ 140737488355328) (hn : n + m < 140737488355328) (hB : B ≤ w.heap.size) (hbel : Below B W w)
    (h : ∀ v' w', w'.ownsRow B e size v' (n + m) (xs ++ news) → Below B W w' → wpList P ops Q rest (a.put o.dst v') w') :
    wpList P ops Q (o :: rest) a w := by
  obtain ⟨i0, hi0, hz0, hz1, hz2⟩ := info_parts hi
  refine wpList_append_own _ hgd s x t ho B e i0 z size bytes ht hi0 hz0 hz1 hz2 hzs hsz v n xs hs hown ad m c news hx hl hnews h1 (by unfold maxLen; omega) hbytes hB ?_
  intro v' w' h2 hg h3
  exact h v' w' h2 (hbel.grown hg hB (fun k hk => (hown.lt k hk).1))

set_option maxRecDepth 100000 in
theorem clone_any (v : Value) (l : List Shf) (w : World) (h : Shifts w v l) (hl : l.length ≤ 1000) :
    Calls Tryz.prog 155 #[v] w fun e w' => (∃ v', e = .returned v' ∧ w'.ownsRow w.heap.size 131 3 v' l.length (l.flatMap encSh)) ∧ Below w.heap.size w w' := by
  have q22 : ∀ (w : World) (a : Option Addr) (n c n' c' : Nat), (binOp .eql 51 (.slice a n c) (.slice none n' c')).run Tryz.prog w = .ok (.bool a.isNone) w := fun w a n c n' c' => Lib.run_eql_slice_nil w _ _ a n c n' c' Tryz.underlying51
  rcases h with ⟨a, c, rfl, rfl⟩ | ⟨b, off, c, rfl, hc, hb, hel⟩
  · cases a with
    | none =>
      go_enter Tryz.func155, Tryz.ntmps155
      go_wp2_with fail
      go_ret
      exact ⟨⟨_, rfl, ⟨rfl, .inl ⟨rfl, rfl⟩⟩⟩, Below.refl _ _⟩
    | some ad =>
      have hown := World.ownsRow_lit (base := w.heap.size) (e := 131) (size := 3) w #[] 0 (Nat.le_refl _) (by unfold maxLen; omega) rfl
      have hb3 := (Below.refl w.heap.size w).alloc (Nat.le_refl _) (.cells #[] 131)
      have HO := Lib.hid hown
      have HB := Lib.hid hb3
      clear hown hb3
      go_enter Tryz.func155, Tryz.ntmps155
      go_wp2_with (at_builtin; go_must (refine append_all rfl _ _ 51 rfl w.heap.size 131 (.agg #[.int .i64 0, .int .i64 0, .int .i64 0]) 3 24 Tryz.underlying51 infoShift rfl (by decide) w (w.alloc (.cells #[] 131)) (.slice (some ⟨w.heap.size, 0, none⟩) 0 0) 0 [] rfl HO.out ad 0 c [] rfl rfl (fun j u hj => by cases hj) (fun u hu => by cases hu) (by omega) (by omega) HB.out.size HB.out ?_); intro v' w6 ho hb6)
      go_ret
      exact ⟨⟨_, rfl, ho⟩, hb6⟩
  · have hel2 : ∀ i (hi : i < l.length), w.cell? ⟨b, off + i * 3, none⟩ = some (.int .i64 l[i].1) ∧ w.cell? ⟨b, off + i * 3 + 1, none⟩ = some (.int .i64 l[i].2.1) ∧ w.cell? ⟨b, off + i * 3 + 2, none⟩ = some (.int .i64 l[i].2.2) := by
      intro i hi
      obtain ⟨cs, ⟨_, h2⟩, hr⟩ := hel i hi
      cases hr
      exact ⟨by simpa using h2 0 (by simp), by simpa using h2 1 (by simp), by simpa using h2 2 (by simp)⟩
    have hown := World.ownsRow_lit (base := w.heap.size) (e := 131) (size := 3) w #[] 0 (Nat.le_refl _) (by unfold maxLen; omega) rfl
    have hb3 := (Below.refl w.heap.size w).alloc (Nat.le_refl _) (.cells #[] 131)
    have HN := Lib.hid (shifts_news (w := w.alloc (.cells #[] 131)) (l := l) (fun i hi => by
      obtain ⟨q0, q1, q2⟩ := hel2 i hi
      exact ⟨(below_cell hb3 hb).trans q0, (below_cell hb3 hb).trans q1, (below_cell hb3 hb).trans q2⟩))
    have HO := Lib.hid hown
    have HB := Lib.hid hb3
    clear hown hb3 hel hel2
    go_enter Tryz.func155, Tryz.ntmps155
    go_wp2_with (at_builtin; go_must (refine append_all rfl _ _ 51 rfl w.heap.size 131 (.agg #[.int .i64 0, .int .i64 0, .int .i64 0]) 3 24 Tryz.underlying51 infoShift rfl (by decide) w (w.alloc (.cells #[] 131)) (.slice (some ⟨w.heap.size, 0, none⟩) 0 0) 0 [] rfl HO.out ⟨b, off, none⟩ l.length c (l.flatMap encSh) rfl (encSh_length l) HN.out (encSh_one l) (by omega) (by omega) HB.out.size HB.out ?_); intro v' w6 ho hb6)
    go_ret
    refine ⟨⟨_, rfl, ?_⟩, hb6⟩
    have e : ([] : List Value) ++ l.flatMap encSh = l.flatMap encSh := rfl
    simpa using ho

theorem tdiv_7 (a : Int) : (a.tmod 7 < 0 → a.tdiv 7 - 1 = a / 7) ∧ (¬ a.tmod 7 < 0 → a.tdiv 7 = a / 7) := by
  rcases Int.lt_or_le a 0 with h | h
  · obtain ⟨b, rfl⟩ : ∃ b : Int, a = -b := ⟨-a, by omega⟩
    rw [Int.neg_tdiv, Int.neg_tmod, Int.tdiv_eq_ediv_of_nonneg (by omega), Int.tmod_eq_emod_of_nonneg (by omega)]
    omega
  · rw [Int.tdiv_eq_ediv_of_nonneg h, Int.tmod_eq_emod_of_nonneg h]
    omega
theorem floor7_any (a : Int) (h1 : -1000000000 ≤ a) (h2 : a ≤ 1000000000) (w : World) :
    Calls Tryz.prog 150 #[.int .i64 a, .int .i64 7] w fun e w' => e = .returned (.int .i64 (a / 7)) ∧ w = w' := by
  obtain ⟨g1, g2⟩ := tdiv_7 a
  have b1 : -1000000001 ≤ a.tdiv 7 ∧ a.tdiv 7 ≤ 1000000001 := by
    by_cases h : a.tmod 7 < 0
    · have := g1 h; omega
    · have := g2 h; omega
  obtain ⟨b1, b2⟩ := b1
  by_cases h : a.tmod 7 < 0
  · have G := Lib.hid (g1 h)
    have hd : decide (a.tmod 7 < 0) = true := by simpa using h
    clear g1 g2
    go_enter Tryz.func150, Tryz.ntmps150
    go_wp2
    go_ret
    exact ⟨ret_int G.out, rfl⟩
  · have G := Lib.hid (g2 h)
    have hd : decide (a.tmod 7 < 0) = false := by simpa using h
    clear g1 g2
    go_enter Tryz.func150, Tryz.ntmps150
    go_wp2
    go_ret
    exact ⟨ret_int G.out, rfl⟩

end Go.Proofs.YtllcgcnebofdoaaGreatDoor

/- The walk of (Calendar).shiftsOf. -/
namespace Go.Proofs.YtllcgcnebofdoaaGreatDoor
open Go.RowKit

theorem find_some {l : List (Int × List Shf)} {day : Int} (h : l.Pairwise fun a b => a.1 < b.1) {k : Nat} (hk : k < l.length) (he : l[k].1 = day) : l.find? (fun s => decide (s.1 = day)) = some l[k] := by
  rw [List.find?_eq_some_iff_getElem]
  refine ⟨by simpa using he, k, hk, rfl, fun j hj => ?_⟩
  have := List.pairwise_iff_getElem.1 h j k (by omega) hk hj
  simp
  omega
theorem find_none {l : List (Int × List Shf)} {day : Int} (h : ∀ x ∈ l, x.1 ≠ day) : l.find? (fun s => decide (s.1 = day)) = none := by
  rw [List.find?_eq_none]
  intro x hx
  simpa using h x hx
/-- the shifts of the week that begin on a day -/
def wkD (l : List Shf) (day : Int) : List Shf := (l.filter fun x => decide (x.1 = day % 7)).map fun x => (0, x.2.1, x.2.2)
theorem wkD_hours (l : List Shf) (day : Int) : hours (wkD l day) = hours (l.filter fun x => decide (x.1 = day % 7)) := by
  unfold hours wkD
  rw [List.map_map]
  rfl
theorem wkD_next {l : List Shf} {i : Nat} (hi : i < l.length) (day : Int) : wkD (l.take (i + 1)) day = wkD (l.take i) day ++ (if l[i].1 = day % 7 then [(0, l[i].2.1, l[i].2.2)] else []) := by
  rw [List.take_succ_eq_append_getElem hi]
  unfold wkD
  rw [List.filter_append, List.map_append]
  congr 1
  by_cases g : l[i].1 = day % 7
  · rw [if_pos g, List.filter_cons_of_pos (by simpa using g)]; rfl
  · rw [if_neg g, List.filter_cons_of_neg (by simpa using g)]; rfl
theorem wkD_length (l : List Shf) (day : Int) : (wkD l day).length ≤ l.length := by
  unfold wkD
  rw [List.length_map]
  exact List.length_filter_le _ _
structure SoInv (l : List Shf) (day : Int) (w wr : World) (lv : Value) (i : Nat) : Prop where
  le : i ≤ l.length
  own : wr.ownsRow w.heap.size 131 3 lv (wkD (l.take i) day).length ((wkD (l.take i) day).flatMap encSh)
  below : Below w.heap.size w wr

set_option maxRecDepth 100000 in
set_option maxHeartbeats 4000000 in
theorem shiftsOf_any (c : CalD) (vcs vwk vsp : Value) (day : Int) (w : World) (h : CalAt w vcs vwk vsp c) (hc : CalFine c) (d1 : -1000000 ≤ day) (d2 : day ≤ 1000000) :
    Calls Tryz.prog 149 #[.agg #[.int .i64 c.off, vcs, vwk, vsp], .int .i64 day] w fun e w' => (∃ v l, e = .returned v ∧ w'.ownsRow w.heap.size 131 3 v l.length (l.flatMap encSh) ∧ hours l = shD c day) ∧ Below w.heap.size w w' := by
  have hpw := hc.days
  have hwl := hc.wl
  have hsl := hc.sl
  have HSH := Lib.hid (fun i hi => (hc.spc i hi).len)
  have HSD := Lib.hid (show shD c day = match c.sps.find? (fun s => decide (s.1 = day)) with
    | some s => hours s.2
    | none => hours (c.wk.filter fun x => decide (x.1 = day % 7)) from rfl)
  generalize shD c day = SD at *
  clear hc
  obtain ⟨off, cs, wk, sps⟩ := c
  obtain ⟨hcs, hwk, hsp⟩ := h
  simp only at hcs hwk hsp hpw hwl hsl
  obtain ⟨a1, n1, rfl⟩ := SliceAt.len hcs
  obtain ⟨a2, n2, rfl⟩ := SliceAt.len hwk
  obtain ⟨a3, n3, rfl⟩ := SliceAt.len hsp
  have HK := Lib.hid hwk
  have HS := Lib.hid hsp
  have HPW := Lib.hid hpw
  clear hcs hwk hsp hpw
  simp only
  have hbx := box1 w #[.int .i64 off, .slice a1 cs.length n1, .slice a2 wk.length n2, .slice a3 sps.length n3] 54
  go_enter Tryz.func149, Tryz.ntmps149
  go_upto_region 1 with fail
  generalize w.alloc (.cells #[.int .i64 off, .slice a1 cs.length n1, .slice a2 wk.length n2, .slice a3 sps.length n3] 54) = w2 at *
  obtain ⟨hx, hbl⟩ := hbx
  have k3 := hx.cell 3
  have HX := Lib.hid hx
  have HB2 := Lib.hid hbl
  clear hx hbl
  go_wp2_with fail
  refine (bin_any _ sps day w2 (HS.out.below HB2.out) (by omega) (fun i j hi hj hij => List.pairwise_iff_getElem.1 HPW.out i j hi hj hij)).mono ?_
  rintro e w3 ⟨⟨k, b, rfl, hf⟩, hb3⟩
  have HX3 := Lib.hid (HX.out.below hb3 HX.out.lt)
  have HB3 := Lib.hid (below_up HB2.out hb3 HB2.out.size)
  have HF := Lib.hid hf
  clear hb3 k3 HX hf
  have k3 := HX3.out.cell 3
  have k2 := HX3.out.cell 2
  cases b
  · have HSD2 := Lib.hid (show hours (wkD wk day) = SD by
      rw [HSD.out, find_none (HF.out.2 rfl), wkD_hours])
    clear HSD HF
    have hlt3 := HX3.out.lt
    have HB3s := HB3.out.size
    go_wp2_with fail
    go_loopw [7, 28] (fun lv iv wr => ∃ i : Nat, iv = .int .i64 i ∧ SoInv wk day w wr lv i) (fun _ iv _ => wk.length - (intOf iv).toNat)
    case atStart => exact ⟨0, rfl, Nat.zero_le _, ⟨rfl, .inl ⟨rfl, rfl⟩⟩, HB3.out⟩
    case round =>
      obtain ⟨i, rfl, hI⟩ := hrel
      have HI := Lib.hid hI
      have hi := hI.le
      clear hI
      by_cases hlt : i < wk.length
      · obtain ⟨b, of', cap', hv, hb, hel⟩ := Shifts.at HK.out (by omega)
        cases hv
        obtain ⟨e0, e1, e2⟩ := hel i hlt
        have c0 := (below_cell HI.out.below hb).trans e0
        have c1 := (below_cell HI.out.below hb).trans e1
        have c2 := (below_cell HI.out.below hb).trans e2
        have hnx := wkD_next hlt day
        have hln : (wkD (wk.take i) day).length ≤ 60 := Nat.le_trans (wkD_length _ _) (by rw [List.length_take]; omega)
        generalize wk[i] = x at *
        obtain ⟨x1, x2, x3⟩ := x
        simp only at c0 c1 c2 hnx
        have HNX := Lib.hid hnx
        clear e0 e1 e2 hel hnx
        go_upto_region 8 with fail
        obtain ⟨bx, bbl⟩ := box1 wr #[.int .i64 x1, .int .i64 x2, .int .i64 x3] 131
        have HB5 := Lib.hid (below_up HI.out.below bbl HI.out.below.size)
        have HBX := Lib.hid bx
        have HO5 := Lib.hid (owns_below HI.out.own bbl)
        have k0 := bx.cell 0
        have hBl := bx.lt
        generalize wr.alloc (.cells #[.int .i64 x1, .int .i64 x2, .int .i64 x3] 131) = wb at *
        generalize wr.heap.size = B at *
        clear bx bbl c0 c1 c2 k2 k3
        have s1 : IntKind.i64.wrap (7 * (day / 7)) = 7 * (day / 7) := IntWalk.i64_in _ (by omega)
        have s2 : IntKind.i64.wrap (day - 7 * (day / 7)) = day % 7 := by rw [IntWalk.i64_in _ (by omega)]; omega
        have HKS := Lib.hid (fun W (hW : Below wb.heap.size wb W) => (below_cell hW hBl).trans k0)
        go_cut [39] (fun u wx => u = .bool (x1 == day % 7) ∧ Below wb.heap.size wb wx)
        case first =>
          go_region_held3 (fun W => W.cell? ⟨B, 0, none⟩ = some (.int .i64 x1))
            (first | exact HKS.out _ hB | exact HKS.out _ (Below.refl _ _).drew)
            ((go_at_call 150; refine (floor7_any day (by omega) (by omega) _).mono ?_; rintro e w' ⟨rfl, rfl⟩))
          go_wp2
          go_meet
          first | exact ⟨rfl, hB⟩ | exact ⟨rfl, (Below.refl _ _).drew⟩
        case rest =>
          obtain ⟨rfl, hbw⟩ := hcut
          have HBW := Lib.hid (below_up HB5.out hbw HB5.out.size)
          have HOW := Lib.hid (owns_below HO5.out hbw)
          have HXW := Lib.hid (HBX.out.below hbw HBX.out.lt)
          have k1 := HXW.out.cell 1
          have k2 := HXW.out.cell 2
          have hBw := HBW.out.size
          clear hbw s1 s2 k0 HKS
          by_cases g : x1 = day % 7
          · have q : (x1 == day % 7) = true := by simpa using g
            have HE := Lib.hid (show wkD (wk.take (i + 1)) day = wkD (wk.take i) day ++ [(0, x2, x3)] by rw [HNX.out, if_pos g])
            rw [q]
            clear g q
            go_wp2_with (at_builtin; go_must (refine append_one rfl _ _ 51 rfl w.heap.size 131 (.agg #[.int .i64 0, .int .i64 0, .int .i64 0]) 3 24 Tryz.underlying51 infoShift rfl (by decide) w wc _ _ _ rfl HOW.out [.int .i64 0, .int .i64 x2, .int .i64 x3] rfl rfl rfl (by simp [Value.oneCell']) (by omega) (by omega) hBw HBW.out ?_); intro v' w7 ho hb7 hg7 _)
            go_roundw
            case rel =>
              refine ⟨i + 1, by go_num, hlt, ?_, hb7⟩
              rw [HE.out, List.length_append, List.flatMap_append]
              exact ho
            case measure => simp [intOf]; omega
          · have q : (x1 == day % 7) = false := by simpa using g
            have HE := Lib.hid (show wkD (wk.take (i + 1)) day = wkD (wk.take i) day by rw [HNX.out, if_neg g, List.append_nil])
            rw [q]
            clear g q
            go_wp2_with fail
            go_roundw
            case rel => exact ⟨i + 1, by go_num, hlt, by rw [HE.out]; exact HOW.out, HBW.out⟩
            case measure => simp [intOf]; omega
      · obtain rfl : i = wk.length := by omega
        have ho := HI.out.own
        rw [List.take_length] at ho
        have HO := Lib.hid ho
        clear ho
        go_wp2_with fail
        go_ret
        exact ⟨⟨_, _, rfl, HO.out, HSD2.out⟩, HI.out.below⟩
  · obtain ⟨hk, hkd⟩ := HF.out.1 rfl
    have HSD2 := Lib.hid (show hours sps[k].2 = SD by rw [HSD.out, find_some HPW.out hk hkd])
    obtain ⟨b, of', cap', hv, hb, hel⟩ := Specs.at HS.out (by omega)
    cases hv
    obtain ⟨u, e0, e1, hus⟩ := hel k hk
    have c1 := (below_cell HB3.out hb).trans e1
    have hl12 := HSH.out k hk
    have HUS := Lib.hid (hus.below HB3.out)
    have hl12 : sps[k].2.length ≤ 12 := hl12
    clear HSD HF hkd hel e0 e1 hus HSH
    generalize sps[k].2 = sl at *
    go_wp2_with fail
    refine (clone_any u sl w3 HUS.out (by omega)).mono ?_
    rintro e w4 ⟨⟨v', rfl, hs'⟩, hb4⟩
    have HS4 := Lib.hid hs'
    have HB4 := Lib.hid (below_up HB3.out hb4 HB3.out.size)
    clear hs' hb4
    go_wp2_with fail
    go_ret
    exact ⟨⟨_, sl, rfl, owns_base HS4.out HB3.out.size, HSD2.out⟩, HB4.out⟩

end Go.Proofs.YtllcgcnebofdoaaGreatDoor

/- The walks of cal.stretch and cal.workOf. -/
namespace Go.Proofs.YtllcgcnebofdoaaGreatDoor
open Go.RowKit

def strI (f t : Int) : Int := if 0 ≤ f ∧ f ≤ 3000000 ∧ 0 ≤ t ∧ t ≤ 3000001 then (if t < f then 5 else 0) else 2
theorem strI_zero (f t : Int) : strI f t = 0 ↔ 0 ≤ f ∧ f ≤ 3000000 ∧ f ≤ t ∧ t ≤ 3000001 := by
  unfold strI
  repeat' split
  all_goals omega
theorem stretch_any (f t : Int) (w : World) :
    Calls Tryz.prog 117 #[.int .i64 f, .int .i64 t] w fun e w' => e = .returned (.int .i64 (strI f t)) ∧ w = w' := by
  by_cases h1 : 0 ≤ f ∧ f ≤ 3000000
  · have q1 : (decide ((0 : Int) ≤ f) && decide (f ≤ 3000000)) = true := by simpa using h1
    by_cases h2 : 0 ≤ t ∧ t ≤ 3000001
    · have q2 : (decide ((0 : Int) ≤ t) && decide (t ≤ 3000001)) = true := by simpa using h2
      by_cases h3 : t < f
      · have q3 : decide (t < f) = true := decide_eq_true h3
        have HC := Lib.hid (show 5 = strI f t by unfold strI; rw [if_pos (by omega), if_pos h3])
        clear h1 h2 h3
        go_enter Tryz.func117, Tryz.ntmps117
        go_wp2_with (go_at_call 32; refine (within_any _ _ _ _).mono ?_; rintro e w' ⟨rfl, rfl⟩)
        go_ret
        exact ⟨ret_int HC.out, rfl⟩
      · have q3 : decide (t < f) = false := decide_eq_false h3
        have HC := Lib.hid (show 0 = strI f t by unfold strI; rw [if_pos (by omega), if_neg h3])
        clear h1 h2 h3
        go_enter Tryz.func117, Tryz.ntmps117
        go_wp2_with (go_at_call 32; refine (within_any _ _ _ _).mono ?_; rintro e w' ⟨rfl, rfl⟩)
        go_ret
        exact ⟨ret_int HC.out, rfl⟩
    · have q2 : (decide ((0 : Int) ≤ t) && decide (t ≤ 3000001)) = false := by simp; omega
      have HC := Lib.hid (show 2 = strI f t by unfold strI; rw [if_neg (by omega)])
      clear h1 h2
      go_enter Tryz.func117, Tryz.ntmps117
      go_wp2_with (go_at_call 32; refine (within_any _ _ _ _).mono ?_; rintro e w' ⟨rfl, rfl⟩)
      go_ret
      exact ⟨ret_int HC.out, rfl⟩
  · have q1 : (decide ((0 : Int) ≤ f) && decide (f ≤ 3000000)) = false := by simp; omega
    have HC := Lib.hid (show 2 = strI f t by unfold strI; rw [if_neg (by omega)])
    clear h1
    go_enter Tryz.func117, Tryz.ntmps117
    go_wp2_with (go_at_call 32; refine (within_any _ _ _ _).mono ?_; rintro e w' ⟨rfl, rfl⟩)
    go_ret
    exact ⟨ret_int HC.out, rfl⟩
def wkI (n : Int) : Int := if 0 ≤ n ∧ n ≤ 3000001 then 0 else 2
theorem workOf_any (n : Int) (w : World) :
    Calls Tryz.prog 120 #[.int .i64 n] w fun e w' => e = .returned (.int .i64 (wkI n)) ∧ w = w' := by
  go_enter Tryz.func120, Tryz.ntmps120
  go_wp2_with (go_at_call 32; refine (within_any _ _ _ _).mono ?_; rintro e w' ⟨rfl, rfl⟩)
  all_goals go_ret
  all_goals (refine ⟨ret_int ?_, rfl⟩; simp_all [wkI] <;> omega)

end Go.Proofs.YtllcgcnebofdoaaGreatDoor
