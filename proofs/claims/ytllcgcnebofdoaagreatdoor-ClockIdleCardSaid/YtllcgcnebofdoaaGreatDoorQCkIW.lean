/- The walk of portkeep2.ClockIdle. -/
import Derived.Test.YtllcgcnebofdoaaGreatDoorQCkIns
import Derived.Test.YtllcgcnebofdoaaGreatDoorQCkFit
import Derived.Test.YtllcgcnebofdoaaGreatDoorQCkRW
namespace Go.Proofs.YtllcgcnebofdoaaGreatDoor
open Go.RowKit

theorem owns_low {w : World} {B B' : Nat} {e : TypeId} {sz n : Nat} {v : Value} {xs : List Value} (h : w.ownsRow B e sz v n xs) (hB : B' ≤ B) : w.ownsRow B' e sz v n xs := by
  refine ⟨h.1, ?_⟩
  rcases h.2 with q | ⟨g, cap, cur, h1, h2, h3⟩
  · exact .inl q
  · exact .inr ⟨g, cap, cur, h1, Nat.le_trans hB h2, h3⟩
theorem insert_any (B g c n i X : Nat) (xs vs : List Value) (w : World) (ho : w.ownsRow B 43 6 (.slice (some ⟨g, 0, none⟩) n c) n xs) (hX : Has w X vs.toArray 43) (hvl : vs.length = 6) (hgX : g ≠ X) (h1v : ∀ u ∈ vs, u.oneCell' = true) (h1x : ∀ u ∈ xs, u.oneCell' = true)
    (hi : i ≤ n) (hn0 : 0 < n) (hB : B ≤ w.heap.size) (hn : (n + 1) * 64 ≤ 140737488355328) :
    Calls Tryz.prog 11 #[.slice (some ⟨g, 0, none⟩) n c, .int .i64 i, .slice (some ⟨X, 0, none⟩) 1 1] w (InsPost B w n i xs vs) := by
  by_cases he : i = n
  · subst he
    refine insert_end B g c i X xs vs w ho hvl (fun j u hj => ?_) h1v hn0 hn hB
    have ea : (⟨X, 0, none⟩ : Addr).add j = ⟨X, j, none⟩ := by unfold Addr.add; split <;> simp_all
    rw [ea]
    exact (hX.cell j).trans (by simpa using hj)
  · by_cases hroom : n + 1 ≤ c
    · exact insert_shift B g c n i X xs vs w ho hX hvl hgX h1v h1x (by omega) hroom
    · exact insert_grow B g c n i X xs vs w ho hX hvl h1v h1x (by omega) (by omega) hB hn
/-- the row, the new point, and what lies below -/
structure IdM (wq w : World) (B : Nat) (L : List Pv) (v : Value) (X : Nat) (vs : List Value) : Prop where
  row : w.ownsRow B 43 6 v L.length (L.flatMap encPt)
  box : Has w X vs.toArray 43
  ne : v.ownBlock ≠ some X
  below : Below B wq w
theorem ins_pnts {L : List Pv} {i : Nat} (hi : i ≤ L.length) (q : Pv) : (L.flatMap encPt).take (i * 6) ++ encPt q ++ (L.flatMap encPt).drop (i * 6) = (L.take i ++ q :: L.drop i).flatMap encPt := by
  rw [encPt_take L i hi, encPt_drop L i hi, List.flatMap_append, List.flatMap_cons, List.append_assoc]
structure CiI (n : Nat) (w wr : World) (i : Nat) : Prop where
  le : i ≤ n
  below : Below w.heap.size w wr
set_option maxRecDepth 100000 in
set_option maxHeartbeats 16000000 in
theorem idle_walk (p : PolD) (l : List PntD) (a : Int) (vp vl v : Value) (w : World) (hP : PolAt w vp vl p) (h : Pnts w v l) (hE : Env w) (hln : l.length * 64 ≤ 140737488351232) :
    Calls Tryz.prog 4 #[.agg #[vp, vl], v, .int .i64 a] w fun e w' => e = .returned (.bool true) ∧ Below w.heap.size w w' := by
  obtain ⟨pa, pn, pc, rfl⟩ : ∃ a n c, vp = .slice a n c := by
    obtain ⟨a, c, e⟩ := SliceAt.len hP.pauses
    exact ⟨a, _, c, e⟩
  obtain ⟨la, ln, lc, rfl⟩ : ∃ a n c, vl = .slice a n c := by
    obtain ⟨a, c, e⟩ := SliceAt.len hP.levs
    exact ⟨a, _, c, e⟩
  obtain ⟨va, cap, rfl⟩ := SliceAt.len h
  have hbx := box1 w #[.slice pa pn pc, .slice la ln lc] 25
  have HE := Lib.hid hE
  have H := Lib.hid (h.below hbx.2)
  have HP := Lib.hid (hP.below hbx.2)
  have HX := Lib.hid hbx.1
  have HB := Lib.hid hbx.2
  clear h hE hbx hP
  go_enter Tryz.func4, Tryz.ntmps4
  go_upto_region 1 with fail
  generalize w.alloc (.cells #[.slice pa pn pc, .slice la ln lc] 25) = w2 at *
  go_wp2_with fail
  refine (awakeLevel_any w2 (HE.out.below HB.out)).mono ?_
  rintro e w3 ⟨rfl, hb3⟩
  have HB3 := Lib.hid (below_up HB.out hb3 HB.out.size)
  have HX3 := Lib.hid (HX.out.below hb3 HX.out.lt)
  have HP3 := Lib.hid (HP.out.below hb3)
  have H3 := Lib.hid (H.out.below hb3)
  clear hb3 HX HB H HP
  by_cases h1 : a < 1
  · have q1 : decide (a < 1) = true := decide_eq_true h1
    clear h1
    go_wp2_with fail
    go_ret
    exact ⟨rfl, HB3.out⟩
  have q1 : decide (a < 1) = false := decide_eq_false h1
  by_cases h2 : (l.length : Int) < a
  · have q2 : decide ((l.length : Int) < a) = true := decide_eq_true h2
    clear h1 h2
    go_wp2_with fail
    go_ret
    exact ⟨rfl, HB3.out⟩
  have q2 : decide ((l.length : Int) < a) = false := decide_eq_false h2
  obtain ⟨i, rfl⟩ : ∃ i : Nat, a = i := ⟨a.toNat, by omega⟩
  have hi1 : 1 ≤ i := by omega
  have hin : i ≤ l.length := by omega
  clear h1 h2
  go_upto_region 5 with fail
  clear q1 q2
  have hj : i - 1 < l.length := by omega
  obtain ⟨b, of', cp, hv, hb, hel⟩ := Pnts.at H3.out (by omega)
  cases hv
  obtain ⟨vv, ⟨c0, c1, c2, c3, c4, c5⟩, hvv⟩ := hel (i - 1) hj
  obtain ⟨sa, sc, rfl⟩ := SliceAt.len hvv
  obtain ⟨L, hL1, hL2, hL3⟩ := pnts_vals hel
  have HL1 := Lib.hid hL1
  have HL2 := Lib.hid hL2
  have HL3 := Lib.hid hL3
  have HVV := Lib.hid hvv
  have HLL := Lib.hid (show L.length = l.length by rw [← hL1, List.length_map])
  have HHB := Lib.hid hb
  have HID := Lib.hid (show ∀ x : PntD, x = l[i - 1]'hj → ∀ q : PntD, q.status = x.status → q.prio = x.prio → q.vals = x.vals → q.kind ≠ 2 → q.kind ≠ 7 → clocksF p (l.take i ++ q :: l.drop i) = clocksF p l from fun x hx q hs hp hv h2 h7 => by subst hx; exact idle_law p l i hi1 hin q hs hp hv h2 h7)
  have HID := Lib.hid (HID.out _ rfl)
  have r1 : IntKind.i64.wrap ((i : Int) - 1) = ((i - 1 : Nat) : Int) := by rw [IntWalk.i64_in _ (by omega)]; omega
  clear hel hL1 hL2 hL3 hvv hb
  generalize l[i - 1]'(by omega) = x at *
  obtain ⟨x1, x2, x3, x4, x5, xv⟩ := x
  simp only at c0 c1 c2 c3 c4 c5 HVV HID
  go_upto_region 6 with fail
  obtain ⟨bx, bbl⟩ := box1 w3 #[.int .i64 x1, .int .i64 x2, .int .i64 x3, .int .i64 x4, .int .i64 x5, .slice sa xv.length sc] 43
  have HBQ := Lib.hid (below_up' HB3.out bbl)
  have HQ := Lib.hid bx
  have HX4 := Lib.hid (HX3.out.below bbl HX3.out.lt)
  have HB34 := Lib.hid bbl
  clear bx bbl c0 c1 c2 c3 c4 c5 r1
  generalize w3.alloc (.cells #[.int .i64 x1, .int .i64 x2, .int .i64 x3, .int .i64 x4, .int .i64 x5, .slice sa xv.length sc] 43) = w4 at *
  generalize hD : w3.heap.size = D at *
  have HD := Lib.hid hD
  clear hD
  have k1 := HQ.out.cell 1
  have k2 := HQ.out.cell 2
  have f1 := HQ.out.fz 1
  have f2 := (HQ.out.set 1 (.int .i64 3)).fz 2
  have g2 := (HQ.out.set 1 (.int .i64 3)).cell 2
  have k3 := HQ.out.cell 3
  have HQS := Lib.hid (show Has ((w4.setCell ⟨D, 1, none⟩ (.int .i64 3)).setCell ⟨D, 2, none⟩ (.int .i64 1)) D #[.int .i64 x1, .int .i64 3, .int .i64 1, .int .i64 x4, .int .i64 x5, .slice sa xv.length sc] 43 from (HQ.out.set 1 (.int .i64 3)).set 2 (.int .i64 1))
  have HQB := Lib.hid (show Below D w3 ((w4.setCell ⟨D, 1, none⟩ (.int .i64 3)).setCell ⟨D, 2, none⟩ (.int .i64 1)) from (HB34.out.setCell (p := ⟨D, 1, none⟩) (Nat.le_refl _) _).setCell (p := ⟨D, 2, none⟩) (Nat.le_refl _) _)
  go_upto_if 37 with fail
  go_cut [] from 35 to 38 (fun wx => ∃ kq : Int, (kq = 3 ∨ kq = 6) ∧ Has wx D #[.int .i64 x1, .int .i64 kq, .int .i64 1, .int .i64 x4, .int .i64 x5, .slice sa xv.length sc] 43 ∧ Below D w3 wx)
  case first =>
    by_cases h6 : x4 = 6
    · have q6 : (x4 == 6) = true := by simpa using h6
      have q7 := (HQ.out.set 1 (.int .i64 3)).fz 1
      have z1 := HQS.out.cell 1
      have y1 := HQS.out.fz 1
      have HZ := Lib.hid (HQS.out.set 1 (.int .i64 6))
      have HZB := Lib.hid (HQB.out.setCell (p := ⟨D, 1, none⟩) (Nat.le_refl _) (.int .i64 6))
      clear h6
      go_wp2_with fail
      go_meet
      exact ⟨6, .inr rfl, HZ.out, HZB.out⟩
    · have q6 : (x4 == 6) = false := by simpa using h6
      clear h6
      go_wp2_with fail
      go_meet
      exact ⟨3, .inl rfl, HQS.out, HQB.out⟩
  case rest =>
    obtain ⟨kq, hkq, hqx, hbq⟩ := hcut
    have HKQ := Lib.hid hkq
    have HQX := Lib.hid hqx
    have HBX := Lib.hid hbq
    clear hkq hqx hbq k1 k2 k3 f1 f2 g2 HQS HQB HQ HX4
    generalize wc = wq at *
    have HS := Lib.hid (show ∀ W, Below wq.heap.size wq W → (fun W : World => W.cell? ⟨D, 0, none⟩ = some (.int .i64 x1) ∧ W.cell? ⟨D, 1, none⟩ = some (.int .i64 kq) ∧ W.cell? ⟨D, 2, none⟩ = some (.int .i64 1) ∧ W.cell? ⟨D, 3, none⟩ = some (.int .i64 x4) ∧ W.cell? ⟨D, 4, none⟩ = some (.int .i64 x5) ∧ W.cell? ⟨D, 5, none⟩ = some (.slice sa xv.length sc)) W from fun W hW => by
      have hx := HQX.out.below hW HQX.out.lt
      exact ⟨hx.cell 0, hx.cell 1, hx.cell 2, hx.cell 3, hx.cell 4, hx.cell 5⟩)
    have HCL := Lib.hid (show ∀ W, Below D w3 W → Calls Tryz.prog 12 #[.slice (some ⟨b, of', none⟩) l.length cap] W fun e w' => (∃ va vc, e = .returned (.slice va l.length vc) ∧ w'.ownsRow W.heap.size 43 6 (.slice va l.length vc) l.length (L.flatMap encPt)) ∧ Below W.heap.size W w' from fun W hW => by
      have hb' : b < W.heap.size := Nat.lt_of_lt_of_le HHB.out (by have := hW.size; rw [HD.out] at this; exact this)
      have hW' : Below w3.heap.size w3 W := by rw [HD.out]; exact hW
      have hadd : ∀ j, (⟨b, of', none⟩ : Addr).add j = ⟨b, of' + j, none⟩ := fun j => by unfold Addr.add; split <;> simp_all
      have hc := clonePt_any b of' cap L W (fun j u hj => by
        have h1 := HL3.out j u hj
        rw [hadd] at h1 ⊢
        exact (below_cell hW' (by rw [HD.out]; exact HHB.out)).trans h1) hb' (HL2.out.below hW') (by rw [HLL.out]; omega)
      rw [HLL.out] at hc
      exact hc.mono fun e w' ⟨⟨v', h1, h2⟩, h3⟩ => by
        obtain ⟨va, vc, rfl⟩ := owns_slice h2
        exact ⟨⟨va, vc, h1, h2⟩, h3⟩)
    have hBq : D ≤ wq.heap.size := Nat.le_of_lt HQX.out.lt
    have HQE := Lib.hid (show encPt (⟨x1, kq, 1, x4, x5, xv⟩, .slice sa xv.length sc) = [.int .i64 x1, .int .i64 kq, .int .i64 1, .int .i64 x4, .int .i64 x5, .slice sa xv.length sc] from rfl)
    have HW3 := Lib.hid (show Below w3.heap.size w3 wq by rw [HD.out]; exact HBX.out)
    have HINS := Lib.hid (show ∀ (wI : World) (X : Nat) (va : Option Addr) (vc : Nat), (wI.ownsRow wq.heap.size 43 6 (.slice va l.length vc) l.length (L.flatMap encPt) ∧ Has wI X #[.int .i64 x1, .int .i64 kq, .int .i64 1, .int .i64 x4, .int .i64 x5, .slice sa xv.length sc] 43 ∧ (Value.slice va l.length vc).ownBlock ≠ some X ∧ Below wq.heap.size wq wI) →
        Calls Tryz.prog 11 #[.slice va l.length vc, .int .i64 i, .slice (some ⟨X, 0, none⟩) 1 1] wI fun e w' => (∃ a c, e = .returned (.slice a (l.length + 1) c) ∧ Pnts w' (.slice a (l.length + 1) c) (l.take i ++ ⟨x1, kq, 1, x4, x5, xv⟩ :: l.drop i)) ∧ Below wq.heap.size wq w' from fun wI X va vc ⟨h1, h2, h3, h4⟩ => by
      obtain ⟨g, cap', hv, _, hlt⟩ := h1.form (by omega)
      cases hv
      have hbI : Below w3.heap.size w3 wI := below_up' HW3.out h4
      have hvo := HL2.out.below hbI
      have hq1 : ∀ u ∈ ([.int .i64 x1, .int .i64 kq, .int .i64 1, .int .i64 x4, .int .i64 x5, .slice sa xv.length sc] : List Value), u.oneCell' = true := by
        intro u hu
        simp only [List.mem_cons, List.not_mem_nil, or_false] at hu
        rcases hu with rfl | rfl | rfl | rfl | rfl | rfl <;> rfl
      refine (insert_any wq.heap.size g vc l.length i X (L.flatMap encPt) [.int .i64 x1, .int .i64 kq, .int .i64 1, .int .i64 x4, .int .i64 x5, .slice sa xv.length sc] wI h1 h2 rfl (fun e => h3 (by rw [e]; rfl)) hq1 (encPt_one hvo) hin (by omega) h4.size (by omega)).mono ?_
      rintro e w' ⟨v', rfl, ho, hb⟩
      obtain ⟨a, c, rfl⟩ := owns_slice ho
      have hbw : Below wI.heap.size wI w' ∨ True := .inr trivial
      rw [← HQE.out, ins_pnts (by rw [HLL.out]; exact hin) _] at ho
      have hlen : (L.take i ++ ((⟨x1, kq, 1, x4, x5, xv⟩, .slice sa xv.length sc) : Pv) :: L.drop i).length = l.length + 1 := by
        rw [List.length_append, List.length_cons, List.length_take, List.length_drop, HLL.out]
        omega
      have hbz : Below wq.heap.size wq w' := h4.trans hb
      have hb3 : Below w3.heap.size w3 w' := below_up' HW3.out hbz
      refine ⟨⟨a, c, rfl, ?_⟩, hbz⟩
      rw [← hlen] at ho
      have hP := pnts_of ho (fun e he => by
        rcases List.mem_append.1 he with q | q
        · exact (HL2.out.below hb3) e (List.mem_of_mem_take q)
        · rcases List.mem_cons.1 q with q | q
          · rw [q]
            exact HVV.out.below hb3
          · exact (HL2.out.below hb3) e (List.mem_of_mem_drop q))
      rw [hlen] at hP
      rw [List.map_append, List.map_cons, List.map_take, List.map_drop, HL1.out] at hP
      exact hP)
    have HEQ := Lib.hid (HID.out ⟨x1, kq, 1, x4, x5, xv⟩ rfl rfl rfl (by show kq ≠ 2; rcases HKQ.out with e | e <;> rw [e] <;> decide) (by show kq ≠ 7; rcases HKQ.out with e | e <;> rw [e] <;> decide))
    clear HKQ HID
    go_upto_region 9 with fail
    go_cut [8] (fun v wx => ∃ a c, v = .slice a (l.length + 1) c ∧ Pnts wx (.slice a (l.length + 1) c) (l.take i ++ ⟨x1, kq, 1, x4, x5, xv⟩ :: l.drop i) ∧ Below wq.heap.size wq wx)
    case first =>
      have hb0 := (Below.refl wq.heap.size wq).drew
      have hS0 := HS.out wq.drew hb0
      have HB0 := Lib.hid hb0
      refine anyT_start (S := fun W : World => W.cell? ⟨D, 0, none⟩ = some (.int .i64 x1) ∧ W.cell? ⟨D, 1, none⟩ = some (.int .i64 kq) ∧ W.cell? ⟨D, 2, none⟩ = some (.int .i64 1) ∧ W.cell? ⟨D, 3, none⟩ = some (.int .i64 x4) ∧ W.cell? ⟨D, 4, none⟩ = some (.int .i64 x5) ∧ W.cell? ⟨D, 5, none⟩ = some (.slice sa xv.length sc)) (t := 7) (by kernel_rfl) ?_
      clear hb0
      generalize wq.drew = wd at *
      refine takeS (i := 0) (v := ?_) rfl rfl (by kernel_rfl) (by kernel_rfl) (by kernel_rfl) (fun _ _ _ h => h) (by decide) (by kernel_rfl) ?_ hS0 ?_
      rotate_left
      · intro w hSw; (try dsimp only at hSw); go_simp; (try with_reducible rfl)
      simp only [List.setIfInBounds_toArray, List.set_cons_zero, List.set_cons_succ]
      refine takeS (i := 2) (v := ?_) rfl rfl (by kernel_rfl) (by kernel_rfl) (by kernel_rfl) (fun _ _ _ h => h) (by decide) (by kernel_rfl) ?_ hS0 ?_
      rotate_left
      · intro w hSw; (try dsimp only at hSw); go_simp; (try with_reducible rfl)
      simp only [List.setIfInBounds_toArray, List.set_cons_zero, List.set_cons_succ]
      refine takeS (i := 3) (v := ?_) rfl rfl (by kernel_rfl) (by kernel_rfl) (by kernel_rfl) (fun _ _ _ h => h) (by decide) (by kernel_rfl) ?_ hS0 ?_
      rotate_left
      · intro w hSw; (try dsimp only at hSw); go_simp; (try with_reducible rfl)
      simp only [List.setIfInBounds_toArray, List.set_cons_zero, List.set_cons_succ]
      refine twoT (i := 1) (j := 4) rfl rfl (by kernel_rfl) (fun K hK => ?_) (fun K hK => ?_)
      · go_simp
        refine (HCL.out wd (HBX.out.trans (HB0.out.mono hBq))).mono ?_
        rintro e w1 ⟨⟨va, vc, rfl, ho⟩, hb1⟩
        have hb1q := below_up HB0.out hb1 HB0.out.size
        have hS1 := HS.out w1 hb1q
        refine hK.out _ _ (fun _ => hS1) ?_
        clear hK
        try simp only [List.setIfInBounds_toArray, List.set_cons_zero, List.set_cons_succ, Act.put]
        refine oneT (i := 4) rfl (by kernel_rfl) (fun K hK => ?_)
        go_simp
        have hb2 : Below w1.heap.size w1 (w1.alloc (.cells #[.int .i64 x1, .int .i64 kq, .int .i64 1, .int .i64 x4, .int .i64 x5, .slice sa xv.length sc] 43)) := (Below.refl _ _).alloc (Nat.le_refl _) _
        have hb2q := below_up hb1q hb2 hb1q.size
        have hS2 := HS.out _ hb2q
        have HM := Lib.hid (show (w1.alloc (.cells #[.int .i64 x1, .int .i64 kq, .int .i64 1, .int .i64 x4, .int .i64 x5, .slice sa xv.length sc] 43)).ownsRow wq.heap.size 43 6 (.slice va l.length vc) l.length (L.flatMap encPt) ∧ Has (w1.alloc (.cells #[.int .i64 x1, .int .i64 kq, .int .i64 1, .int .i64 x4, .int .i64 x5, .slice sa xv.length sc] 43)) w1.heap.size #[.int .i64 x1, .int .i64 kq, .int .i64 1, .int .i64 x4, .int .i64 x5, .slice sa xv.length sc] 43 ∧ (Value.slice va l.length vc).ownBlock ≠ some w1.heap.size ∧ Below wq.heap.size wq (w1.alloc (.cells #[.int .i64 x1, .int .i64 kq, .int .i64 1, .int .i64 x4, .int .i64 x5, .slice sa xv.length sc] 43)) from
          ⟨owns_low (ho.alloc _) HB0.out.size, Has.new _ _ _, fun q => by have := (ho.lt _ q).2; omega, hb2q⟩)
        refine hK.out _ _ (fun _ => hS2) ?_
        clear hK ho hb1 hb1q hb2 hb2q hS1 hS0
        try simp only [List.setIfInBounds_toArray, List.set_cons_zero, List.set_cons_succ, Act.put]
        refine oneT (i := 5) rfl (by kernel_rfl) (fun K hK => ?_)
        go_simp
        refine (HINS.out _ _ _ _ HM.out).mono ?_
        rintro e w5 ⟨⟨a, c, rfl, hpn⟩, hb5⟩
        have hS5 := HS.out w5 hb5
        refine hK.out _ _ (fun _ => hS5) ?_
        clear hK
        try simp only [List.setIfInBounds_toArray, List.set_cons_zero, List.set_cons_succ, Act.put]
        refine oneT (i := 6) rfl (by kernel_rfl) (fun K hK => ?_)
        go_simp
        refine hK.out _ _ (fun _ => hS5) ?_
        refine doneT (by kernel_rfl) ?_ _
        clear hK hS5
        go_wp2_with fail
        go_meet
        exact ⟨_, _, rfl, hpn, hb5⟩
      · go_simp
        have hb2 : Below wd.heap.size wd (wd.alloc (.cells #[.int .i64 x1, .int .i64 kq, .int .i64 1, .int .i64 x4, .int .i64 x5, .slice sa xv.length sc] 43)) := (Below.refl _ _).alloc (Nat.le_refl _) _
        have hb2q := below_up HB0.out hb2 HB0.out.size
        have hS2 := HS.out _ hb2q
        have HXX := Lib.hid (Has.new wd #[.int .i64 x1, .int .i64 kq, .int .i64 1, .int .i64 x4, .int .i64 x5, .slice sa xv.length sc] 43)
        refine hK.out _ _ (fun _ => hS2) ?_
        clear hK hb2 hS0
        try simp only [List.setIfInBounds_toArray, List.set_cons_zero, List.set_cons_succ, Act.put]
        refine oneT (i := 1) rfl (by kernel_rfl) (fun K hK => ?_)
        go_simp
        refine (HCL.out _ (HBX.out.trans (hb2q.mono hBq))).mono ?_
        rintro e w1 ⟨⟨va, vc, rfl, ho⟩, hb1⟩
        have hb1q := below_up hb2q hb1 hb2q.size
        have hS1 := HS.out w1 hb1q
        have HM := Lib.hid (show w1.ownsRow wq.heap.size 43 6 (.slice va l.length vc) l.length (L.flatMap encPt) ∧ Has w1 wd.heap.size #[.int .i64 x1, .int .i64 kq, .int .i64 1, .int .i64 x4, .int .i64 x5, .slice sa xv.length sc] 43 ∧ (Value.slice va l.length vc).ownBlock ≠ some wd.heap.size ∧ Below wq.heap.size wq w1 from
          ⟨owns_low ho (Nat.le_trans HB0.out.size (by simp)), HXX.out.below hb1 HXX.out.lt, fun q => by have := (ho.lt _ q).1; simp at this; omega, hb1q⟩)
        refine hK.out _ _ (fun _ => hS1) ?_
        clear hK ho hb1 hb1q hS2
        try simp only [List.setIfInBounds_toArray, List.set_cons_zero, List.set_cons_succ, Act.put]
        refine oneT (i := 5) rfl (by kernel_rfl) (fun K hK => ?_)
        go_simp
        refine (HINS.out _ _ _ _ HM.out).mono ?_
        rintro e w5 ⟨⟨a, c, rfl, hpn⟩, hb5⟩
        have hS5 := HS.out w5 hb5
        refine hK.out _ _ (fun _ => hS5) ?_
        clear hK
        try simp only [List.setIfInBounds_toArray, List.set_cons_zero, List.set_cons_succ, Act.put]
        refine oneT (i := 6) rfl (by kernel_rfl) (fun K hK => ?_)
        go_simp
        refine hK.out _ _ (fun _ => hS5) ?_
        refine doneT (by kernel_rfl) ?_ _
        clear hK hS5
        go_wp2_with fail
        go_meet
        exact ⟨_, _, rfl, hpn, hb5⟩
    case rest =>
      obtain ⟨na, nc, rfl, hpn, hbn⟩ := hcut
      have hw3 := below_up' HW3.out hbn
      have HBC := Lib.hid (below_up' HB3.out hw3)
      have HXC := Lib.hid (HX3.out.below hw3 HX3.out.lt)
      have HPC := Lib.hid (HP3.out.below hw3)
      have HC1 := Lib.hid (Clocks_any p l _ _ _ wc (HP3.out.below hw3) (H3.out.below hw3))
      have HPN := Lib.hid hpn
      clear hw3 hbn hpn HW3 HINS HCL HS HBX HQX HB34 HBQ HB3 HX3 HP3 H3 HQE HL1 HL2 HL3 HLL HVV HHB HD hBq
      generalize (l.take i ++ (⟨x1, kq, 1, x4, x5, xv⟩ : PntD) :: l.drop i) = l2 at *
      obtain ⟨ln2, hln2⟩ : ∃ n, n = l.length + 1 := ⟨_, rfl⟩
      rw [← hln2] at HPN
      rw [← hln2]
      clear hln2
      have k0 := HXC.out.cell 0
      have k1 := HXC.out.cell 1
      go_wp2_with fail
      refine HC1.out.mono ?_
      rintro e w6 ⟨av, k, rfl, hb6, hk1, hk2, hk3⟩
      have HB6 := Lib.hid (below_up' HBC.out hb6)
      have HX6 := Lib.hid (HXC.out.below hb6 HXC.out.lt)
      have HC2 := Lib.hid (Clocks_any p l2 _ _ _ w6 (HPC.out.below hb6) (HPN.out.below hb6))
      clear hb6 k0 k1 HC1 HXC HPC HPN HBC
      have k0 := HX6.out.cell 0
      have k1 := HX6.out.cell 1
      by_cases hk : k = 0
      · subst hk
        obtain ⟨hp, hl⟩ := hk1.1 rfl
        have hcs := clocks_few p l hl
        have HOK := Lib.hid (clocks_fit hp hl)
        have HCA := Lib.hid (hk3 rfl)
        obtain ⟨aa, ac, rfl⟩ := SliceAt.len HCA.out
        clear hk1 hk2 hk3 hp hl
        go_wp2_with fail
        refine HC2.out.mono ?_
        rintro e w7 ⟨bv, k, rfl, hb7, hk1, hk2, hk3⟩
        have HB7 := Lib.hid (below_up' HB6.out hb7)
        have HCB := Lib.hid (HCA.out.below hb7)
        have HE7 := Lib.hid (HE.out.below HB7.out)
        clear hb7 k0 k1 HC2 HX6 HB6 HCA
        by_cases hk : k = 0
        · subst hk
          have hB := hk3 rfl
          rw [HEQ.out] at hB
          have HBB := Lib.hid hB
          generalize clocksF p l = cs at *
          obtain ⟨ba, bc, rfl⟩ := SliceAt.len HBB.out
          clear hk1 hk2 hk3 hB HEQ
          have HI0 := Lib.hid (show CiI cs.length w7 w7 0 from ⟨Nat.zero_le _, Below.refl _ _⟩)
          go_wp2_with fail
          go_loopw [70] (fun iv wr => ∃ j : Nat, iv = .int .i64 ((j : Nat) : Int) ∧ CiI cs.length w7 wr j) (fun iv _ => cs.length - (intOf iv).toNat)
          case atStart => exact ⟨0, rfl, HI0.out⟩
          case round =>
            obtain ⟨j, rfl, hI⟩ := hrel
            have HI := Lib.hid hI
            have hjn := hI.le
            clear hI HI0
            by_cases hlt : j < cs.length
            · obtain ⟨ab, aof, acap, hav, hab, hael⟩ := Clks.at HCB.out (by omega)
              cases hav
              obtain ⟨bb, bof, bcap, hbv, hbb, hbel⟩ := Clks.at HBB.out (by omega)
              cases hbv
              obtain ⟨vps, ⟨a0, a1, a2, a3, a4, a5, a6⟩, hash⟩ := hael j hlt
              obtain ⟨vqs, ⟨b0, b1, b2, b3, b4, b5, b6⟩, hbsh⟩ := hbel j hlt
              obtain ⟨sa, sc, rfl⟩ := SliceAt.len hash
              obtain ⟨ta, tc, rfl⟩ := SliceAt.len hbsh
              have HOC := Lib.hid (HOK.out _ (List.getElem_mem hlt))
              have c0 := (below_cell HI.out.below hab).trans a0
              have c1 := (below_cell HI.out.below hab).trans a1
              have c2 := (below_cell HI.out.below hab).trans a2
              have c3 := (below_cell HI.out.below hab).trans a3
              have c4 := (below_cell HI.out.below hab).trans a4
              have c5 := (below_cell HI.out.below hab).trans a5
              have c6 := (below_cell HI.out.below hab).trans a6
              have HT1 := Lib.hid (ClockText_any cs[j] _ wr (hash.below HI.out.below) (HE7.out.below HI.out.below))
              have HBW := Lib.hid (fun (w8 : World) (h8 : Below w7.heap.size w7 w8) => (⟨(below_cell h8 hbb).trans b0, (below_cell h8 hbb).trans b1, (below_cell h8 hbb).trans b2, (below_cell h8 hbb).trans b3, (below_cell h8 hbb).trans b4, (below_cell h8 hbb).trans b5, (below_cell h8 hbb).trans b6⟩ : _ ∧ _ ∧ _ ∧ _ ∧ _ ∧ _ ∧ _))
              have HT2 := Lib.hid (fun (w8 : World) (h8 : Below w7.heap.size w7 w8) => ClockText_any cs[j] _ w8 (hbsh.below h8) (HE7.out.below h8))
              have HBI := Lib.hid HI.out.below
              unfold clkV at HT1 HT2
              clear hael hbel a0 a1 a2 a3 a4 a5 a6 b0 b1 b2 b3 b4 b5 b6 hash hbsh HI
              generalize cs[j] = c at *
              go_wp2_with fail
              refine HT1.out.mono ?_
              rintro e w8 ⟨s, k, rfl, hb8, hs1, _, hs3⟩
              obtain rfl : k = 0 := hs1.2 HOC.out
              obtain rfl := hs3 rfl
              have HB8 := Lib.hid (below_up HBI.out hb8 HBI.out.size)
              clear hs1 hs3 hb8 HT1 HBI c0 c1 c2 c3 c4 c5 c6
              obtain ⟨c0, c1, c2, c3, c4, c5, c6⟩ := HBW.out w8 HB8.out
              have HT3 := Lib.hid (HT2.out w8 HB8.out)
              clear HT2 HBW
              generalize hT : bs (clkText c) = T at *
              have HTT := Lib.hid hT
              clear hT
              go_wp2_with fail
              refine HT3.out.mono ?_
              rintro e w9 ⟨s, k, rfl, hb9, hs1, _, hs3⟩
              obtain rfl : k = 0 := hs1.2 HOC.out
              obtain rfl : s = T := (hs3 rfl).trans HTT.out
              have HZ := Lib.hid (show CiI cs.length w7 w9 (j + 1) from ⟨hlt, below_up HB8.out hb9 HB8.out.size⟩)
              clear hs1 hs3 hb9 HT3 HB8 c0 c1 c2 c3 c4 c5 c6 HTT
              go_wp2_with fail
              go_roundw
              case rel => exact ⟨j + 1, by go_num, HZ.out⟩
              case measure => simp [intOf]; omega
            · obtain rfl : j = cs.length := by omega
              have HBZ := Lib.hid (below_up HB7.out HI.out.below HB7.out.size)
              go_wp2_with fail
              go_ret
              exact ⟨rfl, HBZ.out⟩
        · obtain rfl := hk2 hk
          have q0 : (k == 0) = false := by simpa using hk
          have q1 : (k != 0) = true := by simpa using hk
          clear hk1 hk2 hk3 hk
          go_wp2_with fail
          go_ret
          exact ⟨rfl, HB7.out⟩
      · obtain rfl := hk2 hk
        have q0 : (k == 0) = false := by simpa using hk
        have q1 : (k != 0) = true := by simpa using hk
        clear hk1 hk2 hk3 hk
        go_wp2_with fail
        refine HC2.out.mono ?_
        rintro e w7 ⟨bv, k', rfl, hb7, _, _, _⟩
        have HB7 := Lib.hid (below_up' HB6.out hb7)
        clear hb7 k0 k1
        go_wp2_with fail
        go_ret
        exact ⟨rfl, HB7.out⟩
end Go.Proofs.YtllcgcnebofdoaaGreatDoor
