/- The walk of level.Explain. -/
import Derived.Test.YtjiikjkiaemaiaaGreatDoorClkP1
import Derived.Test.YtjiikjkiaemaiaaGreatDoorClkD
import Derived.Test.YtjiikjkiaemaiaaGreatDoorSpans
import Derived.Test.YtjiikjkiaemaiaaGreatDoorSpnLaw
import Derived.Test.YtjiikjkiaemaiaaGreatDoorOrd
import Derived.Deep.RegionLaw
namespace Go.Proofs.YtjiikjkiaemaiaaGreatDoor
open Go.RowKit

theorem spans_ok (c : CalD) (vcs vwk vsp : Value) (fr en : Int) (w : World) (h : CalAt w vcs vwk vsp c) (hf : CkFine c) (h0 : 0 ≤ fr) (h1 : fr ≤ 3000000) (h2 : fr ≤ en) (h3 : en ≤ 3000001) :
    Calls Tryz.prog 12 #[.agg #[.int .i64 c.off, vcs, vwk, vsp], .int .i64 fr, .int .i64 en] w fun e w' => (∃ v, e = .returned (.tuple #[v, .int .i64 0]) ∧ w'.ownsRow w.heap.size 34 2 v (openL c fr en).length ((openL c fr en).flatMap encP)) ∧ Below w.heap.size w w' := by
  refine (Spans_any c vcs vwk vsp fr en w h).mono ?_
  rintro e w' ⟨v, l, k, rfl, hrow, hk, _, hb⟩
  rcases hk ⟨hf, (strI_zero _ _).2 ⟨h0, h1, h2, h3⟩⟩ with ⟨rfl, rfl, _⟩ | ⟨_, _, hl⟩
  · exact ⟨⟨v, rfl, hrow⟩, hb⟩
  · have := open_few hf.fine fr en
    omega
theorem upA_le {m at' en : Int} (h : at' ≤ m) : at' ≤ upA m at' en ∧ upA m at' en ≤ m := by
  unfold upA
  split <;> omega
/-- up to where Explain tells -/
def exM (c : ClkD) (m : Int) : Int := if c.stop = -1 then m else min m c.stop
theorem boxes2 (w : World) (cs ds : Array Value) (t t' : TypeId) : Has ((w.alloc (.cells cs t)).alloc (.cells ds t')) w.heap.size cs t ∧ Has ((w.alloc (.cells cs t)).alloc (.cells ds t')) (w.heap.size + 1) ds t' ∧ Below w.heap.size w ((w.alloc (.cells cs t)).alloc (.cells ds t')) := by
  refine ⟨(Has.new _ _ _).alloc _, ?_, ((Below.refl _ _).alloc (Nat.le_refl _) _).alloc (by simp) _⟩
  have := Has.new (w.alloc (.cells cs t)) ds t'
  simpa using this
theorem lmom_zero (m fr : Int) : lmomI m fr = 0 ↔ (fr ≤ m ∧ m ≤ 3000000) := by
  unfold lmomI
  by_cases h : fr ≤ m ∧ m ≤ 3000000
  · rw [if_pos h]
    exact ⟨fun _ => h, fun _ => rfl⟩
  · rw [if_neg h]
    exact ⟨fun g => absurd g (by decide), fun g => absurd g h⟩
theorem next_lo {c : ClkD} {l : List CalD} (h : CkAll c l) {i : Nat} (hi : i < c.ps.length) (hi' : i + 1 < c.ps.length) : pcEnd c.ps[i] ≤ c.ps[i + 1].1 := by
  have hg0 := h.clk.each i hi
  unfold Good at hg0
  rw [show c.ps.getD i (0, 0, 0) = c.ps[i] by simp [List.getD, hi]] at hg0
  obtain ⟨_, _, _, g4, _, _⟩ := hg0
  have hg := h.clk.each (i + 1) hi'
  unfold Good at hg
  rw [show c.ps.getD (i + 1) (0, 0, 0) = c.ps[i + 1] by simp [List.getD, hi'], show i + 1 - 1 = i by omega, show c.ps.getD i (0, 0, 0) = c.ps[i] by simp [List.getD, hi]] at hg
  obtain ⟨_, _, _, _, _, g6⟩ := hg
  have hne : c.ps[i].2.1 ≠ -1 := fun q => (g4 q).1 hi'
  unfold pcEnd
  rw [if_neg hne]
  exact g6 (by omega)
theorem pcEnd_lt {c : ClkD} {l : List CalD} {p : Pc} (h : PcFacts c l p) : p.1 < pcEnd p ∧ pcEnd p ≤ 3000001 := by
  have h1 := h.hi
  have h2 := h.lo
  unfold pcEnd
  rcases h.en with g | ⟨g1, g2⟩
  · rw [if_pos g]; omega
  · rw [if_neg (by omega)]; omega
theorem PtR.few {a b cn M : Int} {R : List Prt} (h : PtR a R b cn) (h0 : 0 ≤ a) (hb : b ≤ M) (hM : M ≤ 3000000) : R.length ≤ 3000001 := by
  have := h.len
  omega
theorem upA_hi {m at' en : Int} (h : at' ≤ m) : upA m at' en ≤ m := by
  unfold upA
  split <;> omega
theorem spans_at {w : World} {Bs : Nat} {v : Value} {L : List Sp} (h : w.ownsRow Bs 34 2 v L.length (L.flatMap encP)) {i : Nat} (hi : i < L.length) : ∃ g cap, v = .slice (some ⟨g, 0, none⟩) L.length cap ∧ L.length ≤ 9223372036854775807 ∧ w.cell? ⟨g, i * 2, none⟩ = some (.int .i64 L[i].1) ∧ w.cell? ⟨g, i * 2 + 1, none⟩ = some (.int .i64 L[i].2) := by
  have hs : SliceAt 2 (fun _ cs (x : Sp) => cs = encP x) w v L := slice_of_owns encP h (fun _ _ => rfl) (fun _ _ => rfl)
  obtain ⟨g, cap, hv, _, _⟩ := h.form (by omega)
  obtain ⟨b, off, cap', hv', hc, hb, hel⟩ := SliceAt.at hs (by omega)
  rw [hv] at hv'
  cases hv
  cases hv'
  obtain ⟨cs, ⟨_, h2⟩, hr⟩ := hel i hi
  subst hr
  have hm : L.length ≤ 9223372036854775807 := by
    rcases h.2 with ⟨q, _⟩ | ⟨g', cap', cur, q, _, _, q2, q3, _⟩
    · cases q
    · unfold maxLen at q3
      omega
  refine ⟨g, _, rfl, hm, ?_, ?_⟩
  · have := h2 0 (by simp [encP])
    simpa [encP] using this
  · have := h2 1 (by simp [encP])
    simpa [encP] using this
/-- what the loop over a piece's spans keeps -/
structure EsInv (c : ClkD) (vps : Value) (w0 wx : World) (C B bm ba bo : Nat) (m : Int) (L : List Sp) (R1 : List Prt) (at1 : Int) (j : Nat) (R : List Prt) (at' : Int) (v : Value) : Prop where
  le : j ≤ L.length
  ex : ExAt wx B bm ba bo m R at' v
  ok : ∃ cn, PtR c.start R at' cn
  hi : at' ≤ m
  left : spR m (L.drop j) R at' = spR m L R1 at1
  box : Has wx C (clkV c vps) 24
  below : Below B w0 wx
def ExPost (c : ClkD) (l : List CalD) (m : Int) (w : World) (e : Ending) (w' : World) : Prop :=
  ∃ v k, e = .returned (.tuple #[v, .int .i64 k]) ∧ Below w.heap.size w w' ∧ (k ≠ 0 → v = .slice none 0 0) ∧
    (k = 0 → CkAll c l ∧ (c.start ≤ m ∧ m ≤ 3000000) ∧ SliceAt 3 (fun _ cs (x : Prt) => cs = encPt x) w' v (partsL l c (exM c m)))
/-- what Explain keeps from piece to piece -/
structure EpInv (c : ClkD) (l : List CalD) (vps : Value) (w0 wr : World) (C B bm ba bo : Nat) (m : Int) (i : Nat) (R : List Prt) (at' : Int) (v : Value) : Prop where
  le : i ≤ c.ps.length
  ex : ExAt wr B bm ba bo m R at' v
  ok : ∃ cn, PtR c.start R at' cn
  hi : at' ≤ m
  lo : ∀ hi : i < c.ps.length, at' ≤ c.ps[i].1
  left : exF l m (c.ps.drop i) R at' = exF l m c.ps [] c.start
  box : Has wr C (clkV c vps) 24
  below : Below B w0 wr

set_option maxRecDepth 100000 in
set_option maxHeartbeats 8000000 in
theorem Explain_any (c : ClkD) (l : List CalD) (vps vl : Value) (m : Int) (w : World) (h : Shifts w vps c.ps) (hl : Cals w vl l) :
    Calls Tryz.prog 5 #[.agg (clkV c vps), vl, .int .i64 m] w (ExPost c l m w) := by
  have hbx := boxes2 w (clkV c vps) #[.int .i64 m] 24 3
  have HX := Lib.hid hbx.1
  have HM := Lib.hid hbx.2.1
  have HB := Lib.hid hbx.2.2
  have H := Lib.hid h
  have HL := Lib.hid hl
  clear h hl hbx
  unfold clkV at HX HM HB ⊢
  go_enter Tryz.func5, Tryz.ntmps5
  go_upto_region 1 with fail
  generalize (w.alloc (.cells #[.int .i64 c.kind, .int .i64 c.lev, .int .i64 c.min, .int .i64 c.start, .int .i64 c.stop, .int .i64 c.fin, vps] 24)).alloc (.cells #[.int .i64 m] 3) = w2 at *
  go_cut [8] (fun v wx => ∃ k, v = .int .i64 k ∧ (k = 0 ↔ CkAll c l ∧ (c.start ≤ m ∧ m ≤ 3000000)) ∧ Below w2.heap.size w2 wx)
  case first =>
    have hS0 : (fun W : World => W.cell? ⟨w.heap.size, 0, none⟩ = some (.int .i64 c.kind) ∧ W.cell? ⟨w.heap.size, 1, none⟩ = some (.int .i64 c.lev) ∧ W.cell? ⟨w.heap.size, 2, none⟩ = some (.int .i64 c.min) ∧ W.cell? ⟨w.heap.size, 3, none⟩ = some (.int .i64 c.start) ∧ W.cell? ⟨w.heap.size, 4, none⟩ = some (.int .i64 c.stop) ∧ W.cell? ⟨w.heap.size, 5, none⟩ = some (.int .i64 c.fin) ∧ W.cell? ⟨w.heap.size, 6, none⟩ = some vps ∧ W.cell? ⟨w.heap.size + 1, 0, none⟩ = some (.int .i64 m)) w2.drew := ⟨HX.out.cell 0, HX.out.cell 1, HX.out.cell 2, HX.out.cell 3, HX.out.cell 4, HX.out.cell 5, HX.out.cell 6, HM.out.cell 0⟩
    refine anyT_start (S := fun W : World => W.cell? ⟨w.heap.size, 0, none⟩ = some (.int .i64 c.kind) ∧ W.cell? ⟨w.heap.size, 1, none⟩ = some (.int .i64 c.lev) ∧ W.cell? ⟨w.heap.size, 2, none⟩ = some (.int .i64 c.min) ∧ W.cell? ⟨w.heap.size, 3, none⟩ = some (.int .i64 c.start) ∧ W.cell? ⟨w.heap.size, 4, none⟩ = some (.int .i64 c.stop) ∧ W.cell? ⟨w.heap.size, 5, none⟩ = some (.int .i64 c.fin) ∧ W.cell? ⟨w.heap.size, 6, none⟩ = some vps ∧ W.cell? ⟨w.heap.size + 1, 0, none⟩ = some (.int .i64 m)) (t := 10) (by kernel_rfl) ?_
    have HBD := Lib.hid HB.out.drew
    have HB2 := Lib.hid (Below.refl w2.heap.size w2).drew
    have HXD := Lib.hid (HX.out.below HB2.out HX.out.lt)
    have HMD := Lib.hid (HM.out.below HB2.out HM.out.lt)
    have hRd : w.heap.size < w2.drew.heap.size := HXD.out.lt
    have hRm : w.heap.size + 1 < w2.drew.heap.size := HMD.out.lt
    have hzd : w2.heap.size ≤ w2.drew.heap.size := HB2.out.size
    generalize w2.drew = wd at *
    refine takeT (i := 0) (v := ?_) rfl rfl (by kernel_rfl) (by kernel_rfl) (by kernel_rfl) (fun _ _ _ h => h) (by decide) (by kernel_rfl) (by kernel_rfl) ?_ hS0 ?_
    rotate_left
    · intro w hSw; (try dsimp only at hSw); go_simp; (try with_reducible rfl)
    simp only [List.setIfInBounds_toArray, List.set_cons_zero, List.set_cons_succ]
    refine takeT (i := 2) (v := ?_) rfl rfl (by kernel_rfl) (by kernel_rfl) (by kernel_rfl) (fun _ _ _ h => h) (by decide) (by kernel_rfl) (by kernel_rfl) ?_ hS0 ?_
    rotate_left
    · intro w hSw; (try dsimp only at hSw); go_simp; (try with_reducible rfl)
    simp only [List.setIfInBounds_toArray, List.set_cons_zero, List.set_cons_succ]
    refine takeT (i := 4) (v := ?_) rfl rfl (by kernel_rfl) (by kernel_rfl) (by kernel_rfl) (fun _ _ _ h => h) (by decide) (by kernel_rfl) (by kernel_rfl) ?_ hS0 ?_
    rotate_left
    · intro w hSw; (try dsimp only at hSw); go_simp; (try with_reducible rfl)
    simp only [List.setIfInBounds_toArray, List.set_cons_zero, List.set_cons_succ]
    refine takeT (i := 5) (v := ?_) rfl rfl (by kernel_rfl) (by kernel_rfl) (by kernel_rfl) (fun _ _ _ h => h) (by decide) (by kernel_rfl) (by kernel_rfl) ?_ hS0 ?_
    rotate_left
    · intro w hSw; (try dsimp only at hSw); go_simp; (try with_reducible rfl)
    simp only [List.setIfInBounds_toArray, List.set_cons_zero, List.set_cons_succ]
    refine takeT (i := 6) (v := ?_) rfl rfl (by kernel_rfl) (by kernel_rfl) (by kernel_rfl) (fun _ _ _ h => h) (by decide) (by kernel_rfl) (by kernel_rfl) ?_ hS0 ?_
    rotate_left
    · intro w hSw; (try dsimp only at hSw); go_simp; (try with_reducible rfl)
    simp only [List.setIfInBounds_toArray, List.set_cons_zero, List.set_cons_succ]
    refine oneT (i := 1) rfl (by kernel_rfl) (fun K hK => ?_)
    go_simp
    have hb1 : Below wd.heap.size wd (wd.alloc (.cells #[.int .i64 c.kind, .int .i64 c.lev, .int .i64 c.min, .int .i64 c.start, .int .i64 c.stop, .int .i64 c.fin, vps] 24)) := (Below.refl _ _).alloc (Nat.le_refl _) _
    have y1 := Has.new wd #[.int .i64 c.kind, .int .i64 c.lev, .int .i64 c.min, .int .i64 c.start, .int .i64 c.stop, .int .i64 c.fin, vps] 24
    have HW1 := Lib.hid (below_up HBD.out hb1 (by omega))
    have HC1 := Lib.hid (below_up HB2.out hb1 hzd)
    have HX1 := Lib.hid (HXD.out.below hb1 hRd)
    have HM1 := Lib.hid (HMD.out.below hb1 hRm)
    have HCH := Lib.hid (check_any c l vps vl wd.heap.size _ y1 (H.out.below HW1.out) (HL.out.below HW1.out))
    have hS1 : (fun W : World => W.cell? ⟨w.heap.size, 0, none⟩ = some (.int .i64 c.kind) ∧ W.cell? ⟨w.heap.size, 1, none⟩ = some (.int .i64 c.lev) ∧ W.cell? ⟨w.heap.size, 2, none⟩ = some (.int .i64 c.min) ∧ W.cell? ⟨w.heap.size, 3, none⟩ = some (.int .i64 c.start) ∧ W.cell? ⟨w.heap.size, 4, none⟩ = some (.int .i64 c.stop) ∧ W.cell? ⟨w.heap.size, 5, none⟩ = some (.int .i64 c.fin) ∧ W.cell? ⟨w.heap.size, 6, none⟩ = some vps ∧ W.cell? ⟨w.heap.size + 1, 0, none⟩ = some (.int .i64 m)) (wd.alloc (.cells #[.int .i64 c.kind, .int .i64 c.lev, .int .i64 c.min, .int .i64 c.start, .int .i64 c.stop, .int .i64 c.fin, vps] 24)) := ⟨HX1.out.cell 0, HX1.out.cell 1, HX1.out.cell 2, HX1.out.cell 3, HX1.out.cell 4, HX1.out.cell 5, HX1.out.cell 6, HM1.out.cell 0⟩
    refine hK.out _ _ (fun _ => hS1) ?_
    clear hK hb1 y1 hS0
    try simp only [List.setIfInBounds_toArray, List.set_cons_zero, List.set_cons_succ, Act.put]
    refine oneT (i := 3) rfl (by kernel_rfl) (fun K hK => ?_)
    go_simp
    refine HCH.out.mono ?_
    rintro e w4 ⟨⟨k, rfl, hk⟩, hb4⟩
    have HKK := Lib.hid hk
    have HC4 := Lib.hid (below_up HC1.out hb4 HC1.out.size)
    have HX4 := Lib.hid (HX1.out.below hb4 HX1.out.lt)
    have HM4 := Lib.hid (HM1.out.below hb4 HM1.out.lt)
    have hS4 : (fun W : World => W.cell? ⟨w.heap.size, 0, none⟩ = some (.int .i64 c.kind) ∧ W.cell? ⟨w.heap.size, 1, none⟩ = some (.int .i64 c.lev) ∧ W.cell? ⟨w.heap.size, 2, none⟩ = some (.int .i64 c.min) ∧ W.cell? ⟨w.heap.size, 3, none⟩ = some (.int .i64 c.start) ∧ W.cell? ⟨w.heap.size, 4, none⟩ = some (.int .i64 c.stop) ∧ W.cell? ⟨w.heap.size, 5, none⟩ = some (.int .i64 c.fin) ∧ W.cell? ⟨w.heap.size, 6, none⟩ = some vps ∧ W.cell? ⟨w.heap.size + 1, 0, none⟩ = some (.int .i64 m)) w4 := ⟨HX4.out.cell 0, HX4.out.cell 1, HX4.out.cell 2, HX4.out.cell 3, HX4.out.cell 4, HX4.out.cell 5, HX4.out.cell 6, HM4.out.cell 0⟩
    refine hK.out _ _ (fun _ => hS4) ?_
    clear hK hb4 hS1 hk HCH
    try simp only [List.setIfInBounds_toArray, List.set_cons_zero, List.set_cons_succ, Act.put]
    refine oneT (i := 7) rfl (by kernel_rfl) (fun K hK => ?_)
    go_simp
    refine (lmoment_any m c.start w4).mono ?_
    rintro e w5 ⟨rfl, rfl⟩
    refine hK.out _ _ (fun _ => hS4) ?_
    clear hK
    try simp only [List.setIfInBounds_toArray, List.set_cons_zero, List.set_cons_succ, Act.put]
    have HMO := Lib.hid (show lmomI m c.start = 0 ↔ (c.start ≤ m ∧ m ≤ 3000000) from lmom_zero m c.start)
    generalize lmomI m c.start = mo at *
    have hor := or_any _ [k, mo] _ (ints2_at w4 k mo 28) (by simp)
    rw [orI2] at hor
    have HOR := Lib.hid hor
    clear hor
    refine oneT (i := 8) rfl (by kernel_rfl) (fun K hK => ?_)
    go_simp
    have hb8 : Below w4.heap.size w4 (w4.alloc (.cells #[.int .i64 k, .int .i64 mo] 28)) := (Below.refl _ _).alloc (Nat.le_refl _) _
    have HC8 := Lib.hid (below_up HC4.out hb8 HC4.out.size)
    have HX8 := Lib.hid (HX4.out.below hb8 HX4.out.lt)
    have HM8 := Lib.hid (HM4.out.below hb8 HM4.out.lt)
    have hS8 : (fun W : World => W.cell? ⟨w.heap.size, 0, none⟩ = some (.int .i64 c.kind) ∧ W.cell? ⟨w.heap.size, 1, none⟩ = some (.int .i64 c.lev) ∧ W.cell? ⟨w.heap.size, 2, none⟩ = some (.int .i64 c.min) ∧ W.cell? ⟨w.heap.size, 3, none⟩ = some (.int .i64 c.start) ∧ W.cell? ⟨w.heap.size, 4, none⟩ = some (.int .i64 c.stop) ∧ W.cell? ⟨w.heap.size, 5, none⟩ = some (.int .i64 c.fin) ∧ W.cell? ⟨w.heap.size, 6, none⟩ = some vps ∧ W.cell? ⟨w.heap.size + 1, 0, none⟩ = some (.int .i64 m)) (w4.alloc (.cells #[.int .i64 k, .int .i64 mo] 28)) := ⟨HX8.out.cell 0, HX8.out.cell 1, HX8.out.cell 2, HX8.out.cell 3, HX8.out.cell 4, HX8.out.cell 5, HX8.out.cell 6, HM8.out.cell 0⟩
    refine hK.out _ _ (fun _ => hS8) ?_
    clear hK hb8 hS4
    try simp only [List.setIfInBounds_toArray, List.set_cons_zero, List.set_cons_succ, Act.put]
    refine oneT (i := 9) rfl (by kernel_rfl) (fun K hK => ?_)
    go_simp
    refine HOR.out.mono ?_
    rintro e w9 ⟨rfl, rfl⟩
    refine hK.out _ _ (fun _ => hS8) ?_
    clear hK
    try simp only [List.setIfInBounds_toArray, List.set_cons_zero, List.set_cons_succ, Act.put]
    refine oneT (i := 10) rfl (by kernel_rfl) (fun K hK => ?_)
    go_simp
    refine hK.out _ _ (fun q => absurd rfl q) ?_
    refine doneT (by kernel_rfl) ?_ _
    have HFIN := Lib.hid (show (if k = 0 then mo else k) = 0 ↔ CkAll c l ∧ (c.start ≤ m ∧ m ≤ 3000000) from by
      rw [← HKK.out, ← HMO.out]
      by_cases h0 : k = 0 <;> simp [h0])
    generalize (if k = 0 then mo else k) = kk at *
    go_wp2_with fail
    go_meet
    exact ⟨kk, rfl, HFIN.out, HC8.out⟩
  case rest =>
    obtain ⟨k, rfl, hk, hbw⟩ := hcut
    have HK := Lib.hid hk
    have HBC := Lib.hid (below_up HB.out hbw HB.out.size)
    have HXC := Lib.hid (HX.out.below hbw HX.out.lt)
    have HMC := Lib.hid (HM.out.below hbw HM.out.lt)
    clear hbw hk HX HM HB
    by_cases hz : k = 0
    · subst hz
      have HALL := Lib.hid (HK.out.1 rfl).1
      have HRG := Lib.hid (HK.out.1 rfl).2
      clear HK
      obtain ⟨pa, pc, rfl⟩ := SliceAt.len H.out
      obtain ⟨ca, cc, rfl⟩ := SliceAt.len HL.out
      have k3 := HXC.out.cell 3
      have k4 := HXC.out.cell 4
      have m0 := HMC.out.cell 0
      have f0 := HMC.out.fz 0
      go_upto_if 34 with fail
      go_cut [] from 32 to 38 (fun wx => Has wx w.heap.size (clkV c (.slice pa c.ps.length pc)) 24 ∧ Has wx (w.heap.size + 1) #[.int .i64 (exM c m)] 3 ∧ Below w.heap.size w wx)
      case first =>
        by_cases g : c.stop = -1
        · have q1 : (c.stop == -1) = true := by simpa using g
          have q2 : (c.stop != -1) = false := by simpa using g
          have HE := Lib.hid (show exM c m = m by unfold exM; rw [if_pos g])
          clear g
          go_wp2_with fail
          go_meet
          exact ⟨HXC.out, by rw [HE.out]; exact HMC.out, HBC.out⟩
        · have q1 : (c.stop == -1) = false := by simpa using g
          have q2 : (c.stop != -1) = true := by simpa using g
          have HEE := Lib.hid (show exM c m = min m c.stop by unfold exM; rw [if_neg g])
          have HS := Lib.hid (fun x : Int => HMC.out.set 0 (.int .i64 x))
          have HCS := Lib.hid (fun x : Int => HXC.out.set_other 0 (.int .i64 x) (show w.heap.size ≠ w.heap.size + 1 by omega))
          have HBS := Lib.hid (fun x : Int => HBC.out.setCell (p := ⟨w.heap.size + 1, 0, none⟩) (by show w.heap.size ≤ w.heap.size + 1; omega) (.int .i64 x))
          by_cases g2 : c.stop < m
          · have q3 : decide (c.stop < m) = true := decide_eq_true g2
            have HE := Lib.hid (show exM c m = c.stop by rw [HEE.out]; omega)
            clear g
            go_wp2_with fail
            all_goals go_meet
            all_goals (rw [HE.out]; first | exact ⟨HCS.out c.stop, HS.out c.stop, HBS.out c.stop⟩ | (exfalso; omega))
          · have q3 : decide (c.stop < m) = false := decide_eq_false g2
            have HE := Lib.hid (show exM c m = m by rw [HEE.out]; omega)
            clear g
            go_wp2_with fail
            all_goals go_meet
            all_goals (rw [HE.out]; first | exact ⟨HCS.out m, HS.out m, HBS.out m⟩ | (exfalso; omega))
      case rest =>
        obtain ⟨hX, hM, hB⟩ := hcut
        clear k3 k4 m0 f0 HXC HMC HBC
        have hMr : c.start ≤ exM c m ∧ exM c m ≤ 3000000 := by
          have h1 := HRG.out
          have h2 := HALL.out.clk.head.stop
          unfold exM
          split
          · exact h1
          · rename_i g
            rcases h2 with h2 | h2
            · exact absurd h2 g
            · omega
        have hs0 := HALL.out.clk.head.start.1
        have hl6 := HALL.out.clk.len
        obtain ⟨M, hMeq⟩ : ∃ M, exM c m = M := ⟨_, rfl⟩
        have HMM := Lib.hid hMeq
        rw [hMeq] at hMr hM
        clear hMeq
        have HPO := Lib.hid (show partsL l c M = (exF l M c.ps [] c.start).1.reverse from rfl)
        obtain ⟨hM0, hM1⟩ := hMr
        have k3 : (wc.alloc (.cells #[.slice none 0 0] 27)).cell? ⟨w.heap.size, 3, none⟩ = some (.int .i64 c.start) := (hX.alloc _).cell 3
        have hz2 : w.heap.size + 1 < wc.heap.size := hM.lt
        have o1 := Has.new wc #[.slice none 0 0] 27
        have ob1 := (Below.refl wc.heap.size wc).alloc (Nat.le_refl _) (.cells #[.slice none 0 0] 27)
        have hzo : (wc.alloc (.cells #[.slice none 0 0] 27)).heap.size = wc.heap.size + 1 := by simp
        have a1 := Has.new (wc.alloc (.cells #[.slice none 0 0] 27)) #[.int .i64 c.start] 3
        have ab1 := (Below.refl (wc.alloc (.cells #[.slice none 0 0] 27)).heap.size (wc.alloc (.cells #[.slice none 0 0] 27))).alloc (Nat.le_refl _) (.cells #[.int .i64 c.start] 3)
        have hb5 := below_up ob1 ab1 ob1.size
        rw [hzo] at a1
        have k6 : ((wc.alloc (.cells #[.slice none 0 0] 27)).alloc (.cells #[.int .i64 c.start] 3)).cell? ⟨w.heap.size, 6, none⟩ = some (.slice pa c.ps.length pc) := (hX.below hb5 hX.lt).cell 6
        have HI0 := Lib.hid (show EpInv c l (.slice pa c.ps.length pc) ((wc.alloc (.cells #[.slice none 0 0] 27)).alloc (.cells #[.int .i64 c.start] 3)) ((wc.alloc (.cells #[.slice none 0 0] 27)).alloc (.cells #[.int .i64 c.start] 3)) w.heap.size wc.heap.size (w.heap.size + 1) (wc.heap.size + 1) wc.heap.size M 0 [] c.start (.slice none 0 0) from
          ⟨Nat.zero_le _, ⟨hM.below hb5 hM.lt, a1, o1.alloc _, World.ownsRow_nil _ _ _ _⟩, ⟨0, rfl, rfl⟩, hM0, fun hi => (pc_facts HALL.out hi).st, rfl, hX.below hb5 hX.lt, Below.refl _ _⟩)
        have HB5 := Lib.hid (below_up hB hb5 hB.size)
        have hB5s := hb5.size
        clear o1 ob1 a1 ab1 hb5 hX hM hB hzo
        go_upto_region 9 with fail
        generalize (wc.alloc (.cells #[.slice none 0 0] 27)).alloc (.cells #[.int .i64 c.start] 3) = w5 at *
        clear k3
        generalize hBz : wc.heap.size = B at *
        clear hBz
        generalize hCz : w.heap.size = C at *
        have HCZ := Lib.hid hCz
        clear hCz
        go_wp2_with fail
        go_loopw [45] (fun iv wr => ∃ (i : Nat) (R : List Prt) (at' : Int) (v : Value), iv = .int .i64 ((i : Nat) : Int) ∧ EpInv c l (.slice pa c.ps.length pc) w5 wr C B (C + 1) (B + 1) B M i R at' v) (fun iv _ => c.ps.length - (intOf iv).toNat)
        case atStart => exact ⟨0, _, _, _, rfl, HI0.out⟩
        case round =>
          obtain ⟨i, R, at', v, rfl, hI⟩ := hrel
          have HI := Lib.hid hI
          have hi := hI.le
          clear hI HI0 k6
          by_cases hlt : i < c.ps.length
          · obtain ⟨b, of', cap', hv, hb, hel⟩ := Shifts.at H.out (by omega)
            cases hv
            obtain ⟨e0, e1, e2⟩ := hel i hlt
            have hb : b < C := by rw [← HCZ.out]; exact hb
            have HBW := Lib.hid (HB5.out.trans (HI.out.below.mono (by omega)))
            have c0 := (below_cell HBW.out hb).trans e0
            have c1 := (below_cell HBW.out hb).trans e1
            have c2 := (below_cell HBW.out hb).trans e2
            have HPF := Lib.hid (pc_facts HALL.out hlt)
            have HNL := Lib.hid (fun hi' => next_lo HALL.out hlt hi')
            have HLO := Lib.hid (HI.out.lo hlt)
            have HLF := Lib.hid (show exF l M (c.ps.drop (i + 1)) (exStep l M c.ps[i] R at').1 (exStep l M c.ps[i] R at').2 = exF l M c.ps [] c.start from by
              have h1 := HI.out.left
              rw [List.drop_eq_getElem_cons hlt] at h1
              rw [← h1]
              rfl)
            clear e0 e1 e2 hel
            generalize c.ps[i] = p at *
            obtain ⟨x1, x2, x3⟩ := p
            simp only at c0 c1 c2 HLO
            have hx3 := HPF.out.c0
            have hx3' := HPF.out.c1
            have hx1 := HPF.out.lo
            have hx1' := HPF.out.hi
            simp only at hx3 hx3' hx1 hx1'
            obtain ⟨j, rfl⟩ : ∃ j : Nat, x3 = (j : Int) := ⟨x3.toNat, by omega⟩
            have hjl : j < l.length := by omega
            obtain ⟨cb, co, cap2, hv2, hcb, hel2⟩ := Cals.at HL.out (by omega)
            cases hv2
            have hcb : cb < C := by rw [← HCZ.out]; exact hcb
            obtain ⟨vcs, vwk, vsp, f0, f1, f2, f3, hca⟩ := hel2 j hjl
            have HCA := Lib.hid hca
            have HF4 := Lib.hid (And.intro f0 (And.intro f1 (And.intro f2 f3)))
            have HCX := Lib.hid (show pcCal l (x1, x2, (j : Int)) = l[j] from by unfold pcCal; simp [List.getD, hjl])
            have HFN := Lib.hid (show CkFine l[j] from by have := HPF.out.fine; rw [HCX.out] at this; exact this)
            have hBw : B ≤ wr.heap.size := Nat.le_trans hB5s HI.out.below.size
            clear f0 f1 f2 f3 hca hel2
            go_upto_if 52 with fail
            obtain ⟨bx, bbl⟩ := box1 wr #[.int .i64 x1, .int .i64 x2, .int .i64 ((j : Nat) : Int)] 50
            have HEX := Lib.hid (HI.out.ex.below bbl)
            have HB4 := Lib.hid (HI.out.below.trans (bbl.mono hBw))
            have HXB := Lib.hid (HI.out.box.below bbl HI.out.box.lt)
            have HPB := Lib.hid bx
            have hBw2 : B ≤ (wr.alloc (.cells #[.int .i64 x1, .int .i64 x2, .int .i64 ((j : Nat) : Int)] 50)).heap.size := Nat.le_trans hBw bbl.size
            clear bx bbl c0 c1 c2 HBW
            generalize wr.alloc (.cells #[.int .i64 x1, .int .i64 x2, .int .i64 ((j : Nat) : Int)] 50) = wb at *
            generalize wr.heap.size = D at *
            have m0 := HPB.out.cell 0
            have m1 := HPB.out.cell 1
            have mm := HEX.out.mb.cell 0
            go_cut [14] from 51 to 53 (fun v wx => v = .int .i64 (if x2 = -1 then M else x2) ∧ wx = wb)
            case first =>
              by_cases g : x2 = -1
              · subst g
                go_wp2_with fail
                go_meet
                exact ⟨rfl, rfl⟩
              · have q1 : (x2 == -1) = false := by simpa using g
                have HE := Lib.hid (show (if x2 = -1 then M else x2) = x2 by rw [if_neg g])
                clear g
                go_wp2_with fail
                go_meet
                exact ⟨by rw [HE.out], rfl⟩
            case rest =>
              obtain ⟨rfl, rfl⟩ := hcut
              have HEE := Lib.hid (show exEnd (x1, x2, (j : Int)) M = min (if x2 = -1 then M else x2) M from rfl)
              generalize (if x2 = -1 then M else x2) = E0 at *
              have HST1 := Lib.hid (fun g : exEnd (x1, x2, (j : Int)) M ≤ x1 => show exStep l M (x1, x2, (j : Int)) R at' = (upR M R at' x1 3, upA M at' x1) from by unfold exStep; rw [if_pos g])
              have HST2 := Lib.hid (fun g : ¬ exEnd (x1, x2, (j : Int)) M ≤ x1 => show exStep l M (x1, x2, (j : Int)) R at' = (upR M (spR M (openL l[j] x1 (exEnd (x1, x2, (j : Int)) M)) (upR M R at' x1 3) (upA M at' x1)).1 (spR M (openL l[j] x1 (exEnd (x1, x2, (j : Int)) M)) (upR M R at' x1 3) (upA M at' x1)).2 (exEnd (x1, x2, (j : Int)) M) 2, upA M (spR M (openL l[j] x1 (exEnd (x1, x2, (j : Int)) M)) (upR M R at' x1 3) (upA M at' x1)).2 (exEnd (x1, x2, (j : Int)) M)) from by unfold exStep; rw [if_neg g, HCX.out])
              have hEM : exEnd (x1, x2, (j : Int)) M ≤ M := by rw [HEE.out]; omega
              have HNX := Lib.hid (show ∀ wx v R' b', exStep l M (x1, x2, (j : Int)) R at' = (R', b') → ExAt wx B (C + 1) (B + 1) B M R' b' v → Has wx C (clkV c (.slice (some ⟨b, of', none⟩) c.ps.length pc)) 24 → Below B w5 wx → EpInv c l (.slice (some ⟨b, of', none⟩) c.ps.length pc) w5 wx C B (C + 1) (B + 1) B M (i + 1) R' b' v from by
                intro wx v R' b' h0 h1 h2 h3
                obtain ⟨cn, hok⟩ := HI.out.ok
                obtain ⟨s1, _, s3, s4⟩ := step_ok (cals := l) (p := (x1, x2, (j : Int))) hok HLO.out HI.out.hi (by omega) hx1 (pcEnd_lt HPF.out).1 HPF.out.fine.fine.ok
                have hlf := HLF.out
                rw [h0] at s1 s3 s4 hlf
                exact ⟨hlt, h1, ⟨_, s1⟩, s3, fun hi' => Int.le_trans s4 (HNL.out hi'), hlf, h2, h3⟩)
              have HOK := Lib.hid HI.out.ok
              have HAM := Lib.hid HI.out.hi
              clear HLF HNL
              go_upto_region 15 with fail
              go_cut [14] from 54 to 56 (fun v wx => v = .int .i64 (exEnd (x1, x2, (j : Int)) M) ∧ wx = wc)
              case first =>
                by_cases g : M < E0
                · have q : decide (M < E0) = true := decide_eq_true g
                  have HT := Lib.hid (show exEnd (x1, x2, (j : Int)) M = M by rw [HEE.out]; omega)
                  clear HEE HST1 HST2 HNX
                  go_wp2_with fail
                  all_goals go_meet
                  all_goals (refine ⟨?_, rfl⟩; first | rw [HT.out] | (rw [HT.out]; congr 1; omega))
                · have q : decide (M < E0) = false := decide_eq_false g
                  have HT := Lib.hid (show exEnd (x1, x2, (j : Int)) M = E0 by rw [HEE.out]; omega)
                  clear HEE HST1 HST2 HNX
                  go_wp2_with fail
                  all_goals go_meet
                  all_goals (refine ⟨?_, rfl⟩; first | rw [HT.out] | (rw [HT.out]; congr 1; omega))
              case rest =>
                obtain ⟨rfl, rfl⟩ := hcut
                clear HEE
                generalize exEnd (x1, x2, (j : Int)) M = E at *
                obtain ⟨cn, hok⟩ := HOK.out
                have HUP := Lib.hid (upTo_any B (C + 1) (B + 1) B M R at' x1 3 v wc HEX.out (by omega) (hok.few hs0 HAM.out hM1) (by omega) (Nat.le_refl _) hBw2)
                have HO1 := Lib.hid (show ∃ cn, PtR c.start (upR M R at' x1 3) (upA M at' x1) cn from ⟨_, up_ok hok⟩)
                have HA1 := Lib.hid (show upA M at' x1 ≤ M from upA_hi HAM.out)
                clear hok mm m1
                go_wp2_with fail
                refine HUP.out.mono ?_
                rintro e w7 ⟨⟨u, rfl⟩, ⟨v1, hex1⟩, hb1, hk1⟩
                have HEX1 := Lib.hid hex1
                have HB7 := Lib.hid (HB4.out.trans hb1)
                have HX7 := Lib.hid (HXB.out.below hb1 (by omega))
                have HP7 := Lib.hid (HPB.out.keepsV hk1 (by decide) (by decide) (by decide))
                have hBw7 : B ≤ w7.heap.size := Nat.le_trans hBw2 hb1.size
                clear hex1 hb1 hk1 HUP HEX HB4 HXB HPB m0
                have m0 := HP7.out.cell 0
                by_cases g : E ≤ x1
                · have q : decide (E ≤ x1) = true := decide_eq_true g
                  have HN := Lib.hid (HNX.out w7 v1 _ _ (HST1.out g) HEX1.out HX7.out HB7.out)
                  clear HNX HST1 HST2 g
                  generalize upR M R at' x1 3 = R1 at *
                  generalize upA M at' x1 = at1 at *
                  go_wp2_with fail
                  go_roundw
                  case rel => exact ⟨i + 1, R1, at1, v1, by go_num, HN.out⟩
                  case measure => simp [intOf]; omega
                · have q : decide (E ≤ x1) = false := decide_eq_false g
                  have HST := Lib.hid (HST2.out (by omega))
                  clear HST1 HST2
                  generalize upR M R at' x1 3 = R1 at *
                  generalize upA M at' x1 = at1 at *
                  go_upto_region 18 with fail
                  have hCl : cb < w7.heap.size := by omega
                  have hDl : D < w7.heap.size := HP7.out.lt
                  have HKS := Lib.hid (fun W (hW : Below w7.heap.size w7 W) => (⟨(below_cell hW hDl).trans (HP7.out.cell 0), (below_cell hW hDl).trans (HP7.out.cell 2), (below_cell ((HB5.out.trans (HB7.out.mono (by omega))).trans (hW.mono (by omega))) hcb).trans HF4.out.1, (below_cell ((HB5.out.trans (HB7.out.mono (by omega))).trans (hW.mono (by omega))) hcb).trans HF4.out.2.1, (below_cell ((HB5.out.trans (HB7.out.mono (by omega))).trans (hW.mono (by omega))) hcb).trans HF4.out.2.2.1, (below_cell ((HB5.out.trans (HB7.out.mono (by omega))).trans (hW.mono (by omega))) hcb).trans HF4.out.2.2.2⟩ :
                    W.cell? ⟨D, 0, none⟩ = some (.int .i64 x1) ∧ W.cell? ⟨D, 2, none⟩ = some (.int .i64 ((j : Nat) : Int)) ∧ W.cell? ⟨cb, co + j * 4, none⟩ = some (.int .i64 l[j].off) ∧ W.cell? ⟨cb, co + j * 4 + 1, none⟩ = some vcs ∧ W.cell? ⟨cb, co + j * 4 + 2, none⟩ = some vwk ∧ W.cell? ⟨cb, co + j * 4 + 3, none⟩ = some vsp))
                  have hE0 : E ≤ 3000001 := by omega
                  have HSP := Lib.hid (fun W (hW : Below w7.heap.size w7 W) => spans_ok l[j] vcs vwk vsp x1 E W (HCA.out.below (show Below w.heap.size w W by rw [HCZ.out]; exact (HB5.out.trans (HB7.out.mono (by omega))).trans (hW.mono (by omega)))) HFN.out hx1 hx1' (by omega) hE0)
                  have HXS := Lib.hid (show ∀ (wx : World), Below w7.heap.size w7 wx → EsInv c (.slice (some ⟨b, of', none⟩) c.ps.length pc) w5 wx C B (C + 1) (B + 1) B M (openL l[j] x1 E) R1 at1 0 R1 at1 v1 from fun wx hb => ⟨Nat.zero_le _, HEX1.out.below hb, HO1.out, HA1.out, rfl, HX7.out.below hb HX7.out.lt, HB7.out.trans (hb.mono hBw7)⟩)
                  clear g HFN HCA HF4 HI HPF HLO HAM HOK HO1 HA1 HCX
                  generalize openL l[j] x1 E = L at *
                  go_cut [15, 16] (fun sv kv wx => kv = .int .i64 0 ∧ (∃ Bs, wx.ownsRow Bs 34 2 sv L.length (L.flatMap encP)) ∧ Below w7.heap.size w7 wx)
                  case first =>
                    clear HXS HNX HST
                    go_region_held3 (fun W => W.cell? ⟨D, 0, none⟩ = some (.int .i64 x1) ∧ W.cell? ⟨D, 2, none⟩ = some (.int .i64 ((j : Nat) : Int)) ∧ W.cell? ⟨cb, co + j * 4, none⟩ = some (.int .i64 l[j].off) ∧ W.cell? ⟨cb, co + j * 4 + 1, none⟩ = some vcs ∧ W.cell? ⟨cb, co + j * 4 + 2, none⟩ = some vwk ∧ W.cell? ⟨cb, co + j * 4 + 3, none⟩ = some vsp)
                      (first | exact HKS.out _ hB | exact HKS.out _ (Below.refl _ _).drew)
                      ((go_at_call 12; refine (HSP.out _ (Below.refl w7.heap.size w7).drew).mono ?_; rintro e w' ⟨⟨sv, rfl, hrow⟩, hb⟩; have hB := below_up' (Below.refl w7.heap.size w7).drew hb))
                    go_wp2
                    go_meet
                    exact ⟨rfl, ⟨_, hrow⟩, hB⟩
                  case rest =>
                    obtain ⟨rfl, ⟨Bs, hrow⟩, hb8⟩ := hcut
                    have HROW := Lib.hid hrow
                    have HS0 := Lib.hid (HXS.out _ hb8)
                    obtain ⟨sa, sc, rfl⟩ := owns_slice hrow
                    clear hrow hb8 HXS HSP HKS
                    have hBw8 : B ≤ wc.heap.size := Nat.le_trans hB5s HS0.out.below.size
                    go_wp2_with fail
                    go_loopw [79] (fun iv wx => ∃ (i2 : Nat) (R2 : List Prt) (at2 : Int) (v2 : Value), iv = .int .i64 ((i2 : Nat) : Int) ∧ EsInv c (.slice (some ⟨b, of', none⟩) c.ps.length pc) w5 wx C B (C + 1) (B + 1) B M L R1 at1 i2 R2 at2 v2 ∧ wx.ownsRow Bs 34 2 (.slice sa L.length sc) L.length (L.flatMap encP)) (fun iv _ => L.length - (intOf iv).toNat)
                    case atStart => exact ⟨0, _, _, _, rfl, HS0.out, HROW.out⟩
                    case round =>
                      obtain ⟨i2, R2, at2, v2, rfl, hS, hrow⟩ := hrel
                      have HS := Lib.hid hS
                      have HROW2 := Lib.hid hrow
                      have hi2 := hS.le
                      clear hS hrow HS0 HROW
                      by_cases hlt2 : i2 < L.length
                      · obtain ⟨g, cap8, hv8, hLm, k0, k1⟩ := spans_at HROW2.out hlt2
                        cases hv8
                        have HLS := Lib.hid (show spR M (L.drop (i2 + 1)) (upR M (upR M R2 at2 L[i2].1 2) (upA M at2 L[i2].1) L[i2].2 1) (upA M (upA M at2 L[i2].1) L[i2].2) = spR M L R1 at1 from by
                          have h1 := HS.out.left
                          rw [List.drop_eq_getElem_cons hlt2] at h1
                          rw [← h1]
                          rfl)
                        obtain ⟨cn2, hok2⟩ := HS.out.ok
                        have hfew := hok2.few hs0 HS.out.hi hM1
                        have hok3 := up_ok (m := M) (en := L[i2].1) (what := 2) hok2
                        have hhi3 : upA M at2 L[i2].1 ≤ M := upA_hi HS.out.hi
                        have hfew3 := hok3.few hs0 hhi3 hM1
                        have HOK4 := Lib.hid (show ∃ cn, PtR c.start (upR M (upR M R2 at2 L[i2].1 2) (upA M at2 L[i2].1) L[i2].2 1) (upA M (upA M at2 L[i2].1) L[i2].2) cn from ⟨_, up_ok hok3⟩)
                        have HHI4 := Lib.hid (show upA M (upA M at2 L[i2].1) L[i2].2 ≤ M from upA_hi hhi3)
                        have hBwx : B ≤ wr.heap.size := Nat.le_trans hB5s HS.out.below.size
                        generalize L[i2] = sp at *
                        obtain ⟨y1, y2⟩ := sp
                        simp only at k0 k1 HLS hok3 hhi3 hfew3 HOK4 HHI4
                        obtain ⟨bx, bbl⟩ := box1 wr #[.int .i64 y1, .int .i64 y2] 34
                        have HEX8 := Lib.hid (HS.out.ex.below bbl)
                        have HB8 := Lib.hid (HS.out.below.trans (bbl.mono hBwx))
                        have HX8 := Lib.hid (HS.out.box.below bbl HS.out.box.lt)
                        have HP8 := Lib.hid bx
                        have HR8 := Lib.hid (owns_below HROW2.out bbl)
                        have hBw9 : B ≤ (wr.alloc (.cells #[.int .i64 y1, .int .i64 y2] 34)).heap.size := Nat.le_trans hBwx bbl.size
                        clear bx bbl hok2 hok3 hhi3 HS HROW2
                        go_upto_region 22 with fail
                        clear k0 k1
                        generalize wr.alloc (.cells #[.int .i64 y1, .int .i64 y2] 34) = wb at *
                        generalize wr.heap.size = D2 at *
                        have n0 := HP8.out.cell 0
                        have HUP := Lib.hid (upTo_any B (C + 1) (B + 1) B M R2 at2 y1 2 v2 wb HEX8.out (by omega) hfew (by omega) (Nat.le_refl _) hBw9)
                        go_wp2_with fail
                        refine HUP.out.mono ?_
                        rintro e w9 ⟨⟨u9, rfl⟩, ⟨v9, hex9⟩, hb9, hk9⟩
                        have HEX9 := Lib.hid hex9
                        have HB9 := Lib.hid (HB8.out.trans hb9)
                        have HX9 := Lib.hid (HX8.out.below hb9 (by omega))
                        have HP9 := Lib.hid (HP8.out.keepsV hk9 (by decide) (by decide) (by decide))
                        have HR9 := Lib.hid (owns_keepsV HR8.out hk9 (by decide) (by decide) (by decide))
                        have hBw10 : B ≤ w9.heap.size := Nat.le_trans hBw9 hb9.size
                        clear hex9 hb9 hk9 HUP HEX8 HB8 HX8 HP8 HR8 n0
                        generalize upR M R2 at2 y1 2 = R3 at *
                        generalize upA M at2 y1 = at3 at *
                        have n1 := HP9.out.cell 1
                        have HUP := Lib.hid (upTo_any B (C + 1) (B + 1) B M R3 at3 y2 1 v9 w9 HEX9.out (by omega) hfew3 (by omega) (Nat.le_refl _) hBw10)
                        go_wp2_with fail
                        refine HUP.out.mono ?_
                        rintro e w10 ⟨⟨u10, rfl⟩, ⟨v10, hex10⟩, hb10, hk10⟩
                        have HR10 := Lib.hid (owns_keepsV HR9.out hk10 (by decide) (by decide) (by decide))
                        have HSN := Lib.hid (show EsInv c (.slice (some ⟨b, of', none⟩) c.ps.length pc) w5 w10 C B (C + 1) (B + 1) B M L R1 at1 (i2 + 1) (upR M R3 at3 y2 1) (upA M at3 y2) v10 from ⟨hlt2, hex10, HOK4.out, HHI4.out, HLS.out, HX9.out.below hb10 (by omega), HB9.out.trans hb10⟩)
                        clear hex10 hb10 hk10 HUP HEX9 HB9 HX9 HP9 HR9 n1 HLS HOK4 HHI4
                        generalize upR M R3 at3 y2 1 = R4 at *
                        generalize upA M at3 y2 = at4 at *
                        go_wp2_with fail
                        go_roundw
                        case rel => exact ⟨i2 + 1, R4, at4, v10, by go_num, HSN.out, HR10.out⟩
                        case measure => simp [intOf]; omega
                      · obtain rfl : i2 = L.length := by omega
                        have hle := HS.out.left
                        rw [List.drop_length, show spR M [] R2 at2 = (R2, at2) from rfl] at hle
                        rw [← hle] at HST
                        clear hle
                        obtain ⟨cn2, hok2⟩ := HS.out.ok
                        have hBwx : B ≤ wr.heap.size := Nat.le_trans hB5s HS.out.below.size
                        have HUP := Lib.hid (upTo_any B (C + 1) (B + 1) B M R2 at2 E 2 v2 wr HS.out.ex (by omega) (hok2.few hs0 HS.out.hi hM1) (by omega) (Nat.le_refl _) hBwx)
                        clear hok2
                        go_wp2_with fail
                        refine HUP.out.mono ?_
                        rintro e w9 ⟨⟨u9, rfl⟩, ⟨v9, hex9⟩, hb9, _⟩
                        have HN := Lib.hid (HNX.out w9 v9 _ _ HST.out hex9 (HS.out.box.below hb9 (by omega)) (HS.out.below.trans hb9))
                        clear hex9 hb9 HUP HNX HST HS
                        generalize upR M R2 at2 E 2 = R3 at *
                        generalize upA M at2 E = at3 at *
                        go_wp2_with fail
                        go_roundw
                        case rel => exact ⟨i + 1, R3, at3, v9, by go_num, HN.out⟩
                        case measure => simp [intOf]; omega
          · obtain rfl : i = c.ps.length := by omega
            have hBw : B ≤ wr.heap.size := Nat.le_trans hB5s HI.out.below.size
            have m0 := HI.out.ex.mb.cell 0
            have HLF := Lib.hid (show (exF l M c.ps [] c.start).1 = upR M R at' M 3 from by
              have h1 := HI.out.left
              rw [List.drop_length] at h1
              rw [← h1]
              rfl)
            obtain ⟨cn, hok⟩ := HI.out.ok
            have HUP := Lib.hid (upTo_any B (C + 1) (B + 1) B M R at' M 3 v wr HI.out.ex (by omega) (hok.few hs0 HI.out.hi hM1) (by omega) (Nat.le_refl _) hBw)
            clear hok
            go_wp2_with fail
            refine HUP.out.mono ?_
            rintro e w7 ⟨⟨u, rfl⟩, ⟨v7, hex⟩, hb7, _⟩
            have HEX := Lib.hid hex
            have HB7 := Lib.hid (HB5.out.trans ((HI.out.below.trans hb7).mono (by omega)))
            have o7 := HEX.out.ob.cell 0
            clear hex hb7 HUP m0
            have HP := Lib.hid (show ExPost c l m w (.returned (.tuple #[v7, .int .i64 0])) w7 from ⟨v7, 0, rfl, by rw [HCZ.out]; exact HB7.out, fun g => absurd rfl g, fun _ => ⟨HALL.out, HRG.out, by
              rw [HMM.out, HPO.out, HLF.out]
              exact slice_of_owns encPt (by rw [List.length_reverse]; exact HEX.out.row) (fun _ _ => rfl) (fun _ _ => rfl)⟩⟩)
            go_wp2_with fail
            go_ret2
            exact HP.out
    · have qz : (k == 0) = false := by simpa using hz
      have qz2 : (k != 0) = true := by simpa using hz
      have HZ := Lib.hid hz
      clear hz
      go_wp2_with fail
      go_ret2
      exact ⟨_, _, rfl, HBC.out, fun _ => rfl, fun g => absurd g HZ.out⟩
end Go.Proofs.YtjiikjkiaemaiaaGreatDoor
