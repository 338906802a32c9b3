/- The walk of route.needsAt. -/
import Derived.Test.YtemikhnkjligdaaGreatDoorQRfCln
import Derived.Test.YtemikhnkjligdaaGreatDoorQOrd3
namespace Go.Proofs.YtemikhnkjligdaaGreatDoor
open Go.RowKit

/-- the last step so far: nil, or a pointer to it -/
def LastIs (l : List StD) (p : StD → Bool) (b off i : Nat) (v : Value) : Prop :=
  (((l.take i).filter p).getLast? = none ∧ v = .pointer none) ∨ ∃ j, ∃ h : j < l.length, ((l.take i).filter p).getLast? = some l[j] ∧ v = .pointer (some ⟨b, off + j * 3, none⟩)
theorem sts_two {w : World} {v : Value} {l : List StD} (h : Sts w v l) : ∃ b off a cap, v = .slice a l.length cap ∧ (0 < l.length → a = some ⟨b, off, none⟩ ∧ b < w.heap.size ∧
    ∀ i (hi : i < l.length), w.cell? ⟨b, off + i * 3, none⟩ = some (.int .i64 l[i].after) ∧ w.cell? ⟨b, off + i * 3 + 1, none⟩ = some (.int .i64 l[i].lower) ∧ w.cell? ⟨b, off + i * 3 + 2, none⟩ = some (.bool l[i].any)) := by
  rcases Nat.eq_zero_or_pos l.length with h0 | hp
  · obtain ⟨a, cap, rfl⟩ := SliceAt.len h
    exact ⟨0, 0, a, cap, rfl, fun g => absurd g (by omega)⟩
  · obtain ⟨b, off, cap, hv, hb, hel⟩ := Sts.at h hp
    exact ⟨b, off, _, cap, hv, fun _ => ⟨rfl, hb, hel⟩⟩
def lowL (y : Int) (l : List Skl) : List Skl := (l.map fun k => (k.1, k.2 - y)).filter fun k => decide (1 ≤ k.2)
theorem lowL_next (y : Int) {l : List Skl} {i : Nat} (hi : i < l.length) : lowL y (l.take (i + 1)) = lowL y (l.take i) ++ (if 1 ≤ l[i].2 - y then [(l[i].1, l[i].2 - y)] else []) := by
  rw [List.take_succ_eq_append_getElem hi]
  unfold lowL
  rw [List.map_append, List.filter_append]
  congr 1
  by_cases h : 1 ≤ l[i].2 - y <;> simp [h]
theorem lowL_length (y : Int) (l : List Skl) : (lowL y l).length ≤ l.length := by
  unfold lowL
  exact Nat.le_trans (List.length_filter_le _ _) (by simp)
theorem needsF_length (steps : List StD) (m : Int) (w : WkD) : (needsF steps m w).length ≤ w.needs.length := by
  unfold needsF
  split
  · exact Nat.le_refl _
  · split
    · simp
    · exact lowL_length _ _
theorem skx {l : List Skl} (h : SkFine l) {i : Nat} (hi : i < l.length) : (1 ≤ l[i].2 ∧ l[i].2 ≤ 9) ∧ l[i].1.size ≤ 20 := by
  obtain ⟨h1, h2⟩ := h.2.each i hi
  exact ⟨h2, (nm_size h1).2⟩
theorem owns_set_ne {w : World} {B : Nat} {e : TypeId} {sz : Nat} {v : Value} {n : Nat} {xs : List Value} (h : w.ownsRow B e sz v n xs) {c i : Nat} {u : Value} (hne : ∀ g, v.ownBlock = some g → g ≠ c) : (w.setCell ⟨c, i, none⟩ u).ownsRow B e sz v n xs := by
  refine h.kept (grownBy_set w c i u) ?_
  rcases h.2 with ⟨rfl, _⟩ | ⟨g, cap, cur, rfl, _⟩
  · exact .inl rfl
  · exact .inr (by
      have := hne g rfl
      simp only [Value.ownBlock, ne_eq, Option.some.injEq]
      exact this)
structure NdInv (wk : WkD) (y : Int) (w wr : World) (i : Nat) (v : Value) : Prop where
  own : wr.ownsRow (w.heap.size + 1) 96 2 v (lowL y (wk.needs.take i)).length ((lowL y (wk.needs.take i)).flatMap encSk)
  below : Below w.heap.size w wr
  lt : w.heap.size < wr.heap.size
set_option maxRecDepth 100000 in
set_option maxHeartbeats 2000000 in
theorem needsAt_any (wk : WkD) (vn : Value) (l : List StD) (v : Value) (m : Int) (w : World) (hn : Skls w vn wk.needs) (hnf : SkFine wk.needs) (h : Sts w v l) (hlf : StFine l) (hm : 0 ≤ m ∧ m ≤ 3000000) (hsi : 0 ≤ wk.since ∧ wk.since ≤ 3000000) :
    Calls Tryz.prog 37 #[.agg #[.int .i64 wk.ticket, .int .i64 wk.weight, .int .i64 wk.urg, .int .i64 wk.since, .int .i64 wk.former, vn], v, .int .i64 m] w fun e w' => ∃ vr, e = .returned vr ∧ Skls w' vr (needsF l m wk) ∧ Below w.heap.size w w' := by
  obtain ⟨na, nc, rfl⟩ := SliceAt.len hn
  obtain ⟨b, off, a, cap, rfl, hel⟩ := sts_two h
  obtain ⟨nn, hnn⟩ : ∃ nn, nn = needsF l m wk := ⟨_, rfl⟩
  rw [← hnn]
  have HNN := Lib.hid hnn
  have HN := Lib.hid hn
  have HNF := Lib.hid hnf
  have HEL := Lib.hid hel
  have HLF := Lib.hid hlf
  have hl8 := hlf.1
  have hs12 := hnf.1
  have HP := Lib.hid (rfl : (fun s : StD => decide (s.after ≤ m - wk.since)) = fun s : StD => decide (s.after ≤ m - wk.since))
  obtain ⟨pf, hpf⟩ : ∃ pf, pf = fun s : StD => decide (s.after ≤ m - wk.since) := ⟨_, rfl⟩
  have HPF := Lib.hid hpf
  obtain ⟨x1, x2, x3, x4, x5, sk⟩ := wk
  simp only at hsi hs12
  simp only
  generalize hsk : sk.length = sn at *
  have HSN := Lib.hid hsk
  obtain ⟨bx, bbl⟩ := box1 w #[.int .i64 x1, .int .i64 x2, .int .i64 x3, .int .i64 x4, .int .i64 x5, .slice na sn nc] 38
  have HBX := Lib.hid bx
  have HB1 := Lib.hid bbl
  have r1 : IntKind.i64.wrap (m - x4) = m - x4 := IntWalk.i64_in _ (by omega)
  clear hn hnf h hlf hnn hel hpf hsk HP
  go_enter Tryz.func37, Tryz.ntmps37
  go_upto_region 1 with fail
  generalize w.alloc (.cells #[.int .i64 x1, .int .i64 x2, .int .i64 x3, .int .i64 x4, .int .i64 x5, .slice na sn nc] 38) = w1 at *
  clear bx bbl
  go_wp2_with fail
  go_loopw [7, 14] (fun pv iv wr => ∃ i : Nat, iv = .int .i64 ((i : Nat) : Int) ∧ i ≤ l.length ∧ LastIs l pf b off i pv ∧ Below w.heap.size w wr ∧ Has wr w.heap.size #[.int .i64 x1, .int .i64 x2, .int .i64 x3, .int .i64 x4, .int .i64 x5, .slice na sn nc] 38) (fun _ iv _ => l.length - (intOf iv).toNat)
  case atStart => exact ⟨0, rfl, Nat.zero_le _, .inl ⟨by simp, rfl⟩, HB1.out, HBX.out⟩
  case round =>
    obtain ⟨i, rfl, hi, hlast, hbr, hx⟩ := hrel
    have HLA := Lib.hid hlast
    have HBR := Lib.hid hbr
    have HX := Lib.hid hx
    have k3 := hx.cell 3
    clear hlast hbr hx HBX HB1
    by_cases hlt : i < l.length
    · obtain ⟨rfl, hb, hel⟩ := HEL.out (by omega)
      have c0 := (below_cell HBR.out hb).trans (hel i hlt).1
      have HNX := Lib.hid (last_next (l := l) (p := pf) hlt)
      obtain ⟨t, ht⟩ : ∃ t, pf l[i] = t := ⟨_, rfl⟩
      rw [ht] at HNX
      have HT := Lib.hid (show decide (l[i].after ≤ m - x4) = t by rw [← ht, HPF.out])
      have q1 := HT.out
      clear hel ht
      generalize l[i].after = y at *
      rcases HLA.out with ⟨hl0, hl1⟩ | ⟨j, hj, hl0, hl1⟩
      · subst hl1
        have HL0 := Lib.hid hl0
        clear hl0 HLA
        cases t with
        | true =>
          go_upto_region 5 with fail
          go_quiet (fail)
          go_wp2_with fail
          go_roundw
          case rel => exact ⟨i + 1, by go_num, hlt, .inr ⟨i, hlt, HNX.out, rfl⟩, drewN_below HBR.out _, HX.out.drewN _⟩
          case measure => simp [intOf]; omega
        | false =>
          go_upto_region 5 with fail
          go_quiet (fail)
          go_wp2_with fail
          go_roundw
          case rel => exact ⟨i + 1, by go_num, hlt, .inl ⟨HNX.out.trans HL0.out, rfl⟩, drewN_below HBR.out _, HX.out.drewN _⟩
          case measure => simp [intOf]; omega
      · subst hl1
        have HL0 := Lib.hid hl0
        clear hl0 HLA
        cases t with
        | true =>
          go_upto_region 5 with fail
          go_quiet (fail)
          go_wp2_with fail
          go_roundw
          case rel => exact ⟨i + 1, by go_num, hlt, .inr ⟨i, hlt, HNX.out, rfl⟩, drewN_below HBR.out _, HX.out.drewN _⟩
          case measure => simp [intOf]; omega
        | false =>
          go_upto_region 5 with fail
          go_quiet (fail)
          go_wp2_with fail
          go_roundw
          case rel => exact ⟨i + 1, by go_num, hlt, .inr ⟨j, hj, HNX.out.trans HL0.out, rfl⟩, drewN_below HBR.out _, HX.out.drewN _⟩
          case measure => simp [intOf]; omega
    · obtain rfl : i = l.length := by omega
      have hla := HLA.out
      unfold LastIs at hla
      rw [List.take_length, HPF.out] at hla
      have k5 := HX.out.cell 5
      clear k3 HLA r1
      generalize hwr : wr = w2 at *
      clear hwr
      rcases hla with ⟨hl0, rfl⟩ | ⟨j, hj, hl0, rfl⟩
      · have HR := Lib.hid (show nn = sk by rw [HNN.out]; unfold needsF; simp only; rw [hl0])
        clear hl0
        go_wp2_with fail
        refine (cloneSk_any _ sk w2 (HN.out.below HBR.out) (by have := HSN.out; omega)).mono ?_
        rintro e w3 ⟨⟨vr, rfl, ho⟩, hb3⟩
        have HS := Lib.hid (skls_of ho (fun s hs => by
          have := (HNF.out.2.mem hs).1
          unfold nm at this
          simp at this
          omega))
        have HB3 := Lib.hid (below_up HBR.out hb3 HBR.out.size)
        clear ho hb3
        go_wp2_with fail
        go_ret
        exact ⟨vr, rfl, by rw [HR.out]; exact HS.out, HB3.out⟩
      · obtain ⟨rfl, hb, hel⟩ := HEL.out (by omega)
        have c1 := (below_cell HBR.out hb).trans (hel j hj).2.1
        have HCW := Lib.hid (hel j hj).2.1
        have c2 := (below_cell HBR.out hb).trans (hel j hj).2.2
        have hlo := (HLF.out.2.each j hj).2
        have HR := Lib.hid (show nn = if l[j].any then [] else lowL l[j].lower sk by rw [HNN.out]; unfold needsF lowL; simp only; rw [hl0])
        clear hl0 hel
        generalize l[j].lower = y at *
        generalize l[j].any = t at *
        have hb2 : b < w.heap.size := hb
        cases t with
        | true =>
          go_wp2_with fail
          go_ret
          exact ⟨_, rfl, by rw [HR.out]; exact .inl ⟨none, 0, rfl, rfl⟩, HBR.out⟩
        | false =>
          have HR2 := Lib.hid (show nn = lowL y sk from HR.out)
          have HXL := Lib.hid HX.out.lt
          clear HR
          obtain rfl := HSN.out
          go_wp2_with fail
          clear c2
          have hsl2 : sk.length ≤ 12 := by omega
          go_loopw [9, 45] (fun lv iv wr => ∃ i : Nat, iv = .int .i64 ((i : Nat) : Int) ∧ i ≤ sk.length ∧ NdInv ⟨x1, x2, x3, x4, x5, sk⟩ y w wr i lv) (fun _ iv _ => sk.length - (intOf iv).toNat)
          case atStart => exact ⟨0, rfl, Nat.zero_le _, ⟨rfl, .inl ⟨rfl, rfl⟩⟩, HBR.out, HXL.out⟩
          case round =>
            obtain ⟨i, rfl, hi, hI⟩ := hrel
            have HI := Lib.hid hI
            have hown := hI.own
            simp only at hown
            obtain ⟨la, lc, rfl⟩ := owns_slice hown
            have HO := Lib.hid hown
            have hwl := hI.lt
            clear hI hown c1 k5
            by_cases hlt : i < sk.length
            · obtain ⟨sb, so, sc', hsv, hsb, hsel⟩ := Skls.at (HN.out.below HI.out.below) (by omega)
              cases hsv
              obtain ⟨f0, f1, _⟩ := hsel i hlt
              have c1 : wr.cell? ⟨b, off + j * 3 + 1, none⟩ = some (.int .i64 y) := (below_cell HI.out.below hb2).trans HCW.out
              have HSI := Lib.hid (skx HNF.out hlt)
              obtain ⟨en, hen⟩ : ∃ en, en = sk[i] := ⟨_, rfl⟩
              have HNX := Lib.hid (lowL_next y hlt)
              rw [← hen] at f0 f1 HSI HNX
              obtain ⟨nm', rk⟩ := en
              simp only at f0 f1 HSI HNX
              clear hsel hen
              obtain ⟨bx2, bbl2⟩ := box1 wr #[.string nm', .int .i64 rk] 96
              have k1 := bx2.cell 1
              have HBY := Lib.hid bx2
              have HB2 := Lib.hid (below_up HI.out.below bbl2 HI.out.below.size)
              have HO2 := Lib.hid (owns_below HO.out bbl2)
              have HOL := Lib.hid (fun g (hg : (Value.slice la (lowL y (sk.take i)).length lc).ownBlock = some g) => Nat.ne_of_lt (HO.out.lt g hg).2)
              have c1 := (below_cell bbl2 (by omega : b < wr.heap.size)).trans c1
              have hlb : b ≠ wr.heap.size := by omega
              have hrk := HSI.out
              have r2 : IntKind.i64.wrap (rk - y) = rk - y := IntWalk.i64_in _ (by omega)
              have hwz := bbl2.size
              have hwl2 := bx2.lt
              go_upto_region 16 with fail
              generalize wr.alloc (.cells #[.string nm', .int .i64 rk] 96) = wb at *
              generalize hBB : wr.heap.size = B at *
              clear bx2 bbl2 f0 f1 hrk hBB
              refine anyT_start (S := fun W : World => W.cell? ⟨B, 1, none⟩ = some (.int .i64 rk) ∧ W.cell? ⟨b, off + j * 3 + 1, none⟩ = some (.int .i64 y)) (t := 8) (by kernel_rfl) ?_
              have hS0 : wb.drew.cell? ⟨B, 1, none⟩ = some (.int .i64 rk) ∧ wb.drew.cell? ⟨b, off + j * 3 + 1, none⟩ = some (.int .i64 y) := ⟨k1, c1⟩
              have HBD := Lib.hid HB2.out.drew
              have HOD := Lib.hid (owns_below HO2.out (Below.refl wb.heap.size wb).drew)
              have HYD := Lib.hid (show Has wb.drew B #[.string nm', .int .i64 rk] 96 from HBY.out)
              have p1 := HYD.out.fz 1
              have hwz2 : wb.heap.size ≤ wb.drew.heap.size := Nat.le_refl _
              generalize wb.drew = wd at *
              refine takeT (i := 0) (v := ?_) rfl rfl (by kernel_rfl) (by kernel_rfl) (by kernel_rfl) (fun _ _ _ h => h) (by decide) (by kernel_rfl) (by kernel_rfl) ?_ hS0 ?_
              rotate_left
              · intro w hSw; (try dsimp only at hSw); go_simp; (try with_reducible rfl)
              simp only [List.setIfInBounds_toArray, List.set_cons_zero, List.set_cons_succ]
              refine takeT (i := 1) (v := ?_) rfl rfl (by kernel_rfl) (by kernel_rfl) (by kernel_rfl) (fun _ _ _ h => h) (by decide) (by kernel_rfl) (by kernel_rfl) ?_ hS0 ?_
              rotate_left
              · intro w hSw; (try dsimp only at hSw); go_simp; (try with_reducible rfl)
              simp only [List.setIfInBounds_toArray, List.set_cons_zero, List.set_cons_succ]
              refine takeT (i := 2) (v := ?_) rfl rfl (by kernel_rfl) (by kernel_rfl) (by kernel_rfl) (fun _ _ _ h => h) (by decide) (by kernel_rfl) (by kernel_rfl) ?_ hS0 ?_
              rotate_left
              · intro w hSw; (try dsimp only at hSw); go_simp; (try with_reducible rfl)
              simp only [List.setIfInBounds_toArray, List.set_cons_zero, List.set_cons_succ]
              refine takeT (i := 3) (v := ?_) rfl rfl (by kernel_rfl) (by kernel_rfl) (by kernel_rfl) (fun _ _ _ h => h) (by decide) (by kernel_rfl) (by kernel_rfl) ?_ hS0 ?_
              rotate_left
              · intro w hSw; (try dsimp only at hSw); go_simp; (try with_reducible rfl)
              simp only [List.setIfInBounds_toArray, List.set_cons_zero, List.set_cons_succ]
              refine takeT (i := 4) (v := ?_) rfl rfl (by kernel_rfl) (by kernel_rfl) (by kernel_rfl) (fun _ _ _ h => h) (by decide) (by kernel_rfl) (by kernel_rfl) ?_ hS0 ?_
              rotate_left
              · intro w hSw; (try dsimp only at hSw); go_simp; (try with_reducible rfl)
              simp only [List.setIfInBounds_toArray, List.set_cons_zero, List.set_cons_succ]
              refine takeT (i := 5) (v := ?_) rfl rfl (by kernel_rfl) (by kernel_rfl) (by kernel_rfl) (fun _ _ _ h => h) (by decide) (by kernel_rfl) (by kernel_rfl) ?_ hS0 ?_
              rotate_left
              · intro w hSw; (try dsimp only at hSw); go_simp; (try with_reducible rfl)
              simp only [List.setIfInBounds_toArray, List.set_cons_zero, List.set_cons_succ]
              refine takeT (i := 6) (v := ?_) rfl rfl (by kernel_rfl) (by kernel_rfl) (by kernel_rfl) (fun _ _ _ h => h) (by decide) (by kernel_rfl) (by kernel_rfl) ?_ hS0 ?_
              rotate_left
              · intro w hSw; (try dsimp only at hSw); go_simp; (try with_reducible rfl)
              simp only [List.setIfInBounds_toArray, List.set_cons_zero, List.set_cons_succ]
              refine oneT (i := 7) rfl (by kernel_rfl) (fun K hK => ?_)
              go_simp
              refine hK.out _ _ (fun _ => hS0) ?_
              clear hK
              try simp only [List.setIfInBounds_toArray, List.set_cons_zero, List.set_cons_succ, Act.put]
              refine oneT (i := 8) rfl (by kernel_rfl) (fun K hK => ?_)
              go_simp
              refine hK.out _ _ (fun q => absurd rfl q) ?_
              refine doneT (by kernel_rfl) ?_ _
              clear hK
              have HYS := Lib.hid (show Has _ B #[.string nm', .int .i64 (rk - y)] 96 from HYD.out.set 1 (.int .i64 (rk - y)))
              have HBS := Lib.hid (HBD.out.setCell (p := ⟨B, 1, none⟩) (by show w.heap.size ≤ B; omega) (.int .i64 (rk - y)))
              have HOS := Lib.hid (owns_set_ne (i := 1) (u := .int .i64 (rk - y)) HOD.out HOL.out)
              have hws : wd.heap.size ≤ (wd.setCell ⟨B, 1, none⟩ (.int .i64 (rk - y))).heap.size := by rw [World.size_setCell]; exact Nat.le_refl _
              generalize wd.setCell ⟨B, 1, none⟩ (.int .i64 (rk - y)) = ws at *
              have k0 := HYS.out.cell 0
              have k1 := HYS.out.cell 1
              generalize hz : rk - y = z at *
              clear hS0 hz r2
              generalize hL : lowL y (sk.take i) = L at *
              generalize hn : L.length = n at *
              have HLN := Lib.hid hn
              have HLL := Lib.hid (show L.length ≤ i from by rw [← hL]; exact Nat.le_trans (lowL_length _ _) (by rw [List.length_take]; omega))
              have hni : n ≤ 12 := by have := HLL.out; omega
              clear hL hn
              by_cases hz1 : 1 ≤ z
              · have q3 : decide (1 ≤ z) = true := decide_eq_true hz1
                have HNX2 := Lib.hid (show lowL y (sk.take (i + 1)) = L ++ [(nm', z)] by rw [HNX.out, if_pos hz1])
                clear HNX
                go_wp2_with (at_builtin; go_must (refine append_one rfl _ _ 36 rfl (w.heap.size + 1) 96 (.agg #[.string ⟨#[]⟩, .int .i64 0]) 2 24 Tryz.underlying36 infoSkill rfl (by decide) ws ws (.slice la n lc) n (L.flatMap encSk) rfl HOS.out [.string nm', .int .i64 z] rfl rfl rfl (by intro u hu; simp only [List.mem_cons, List.not_mem_nil, or_false] at hu; rcases hu with rfl | rfl <;> rfl) (by omega) (by omega) (by omega) (Below.refl _ _) ?_); intro v' w6 ho hb6 hg6 hn6)
                have HN := Lib.hid (show NdInv ⟨x1, x2, x3, x4, x5, sk⟩ y w w6 (i + 1) v' from ⟨by
                  simp only
                  rw [HNX2.out, List.length_append, List.length_singleton, List.flatMap_append, HLN.out]
                  exact ho, HBS.out.trans (hb6.mono (by omega)), by have := hg6.size; omega⟩)
                obtain ⟨va, vc, rfl⟩ := owns_slice ho
                clear ho hb6 hg6 hn6
                go_wp2_with fail
                go_roundw
                case rel => exact ⟨i + 1, by go_num, hlt, HN.out⟩
                case measure => simp [intOf]; omega
              · have q3 : decide (1 ≤ z) = false := decide_eq_false hz1
                have HN := Lib.hid (show NdInv ⟨x1, x2, x3, x4, x5, sk⟩ y w ws (i + 1) (.slice la n lc) from ⟨by
                  simp only
                  rw [HNX.out, if_neg hz1, List.append_nil, HLN.out]
                  exact HOS.out, HBS.out, by omega⟩)
                clear HNX
                go_wp2_with fail
                go_roundw
                case rel => exact ⟨i + 1, by go_num, hlt, HN.out⟩
                case measure => simp [intOf]; omega
            · skip
              obtain rfl : i = sk.length := by omega
              have ho := HO.out
              rw [List.take_length] at ho
              have HS := Lib.hid (show Skls wr (.slice la (lowL y (sk.take sk.length)).length lc) (lowL y sk) from by
                rw [List.take_length]
                refine skls_of ho (fun s hs => ?_)
                unfold lowL at hs
                obtain ⟨k, hk, rfl⟩ := List.mem_map.1 (List.mem_filter.1 hs).1
                have := (nm_size (HNF.out.2.mem hk).1).2
                simp only
                omega)
              have HBF := Lib.hid HI.out.below
              clear ho HI HO
              go_wp2_with fail
              go_ret
              exact ⟨_, rfl, by rw [HR2.out]; exact HS.out, HBF.out⟩
end Go.Proofs.YtemikhnkjligdaaGreatDoor
