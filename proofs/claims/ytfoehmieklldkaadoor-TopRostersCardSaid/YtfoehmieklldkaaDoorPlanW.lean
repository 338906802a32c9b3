/- The walk of staff.Plan. -/
import Derived.Test.YtfoehmieklldkaaDoorShort
namespace Go.Proofs.YtfoehmieklldkaaDoor
open Go.RowKit

theorem pick_congr {c : Nat → Bool} {p q : Nat → Nat} {N : Nat} (h : ∀ i, i < N → p i = q i) : pick c p N = pick c q N := sm_congr fun i hi => by rw [h i hi]
theorem PlanInv.congr {F : Nat → Fm} {D : Nat → Nat} {N t : Nat} {p q : Nat → Nat} (h : PlanInv F D N t p) (e : ∀ i, i < N → p i = q i) : PlanInv F D N t q := by
  have hc : ∀ s, cov F q N s = cov F p N s := fun s => (pick_congr e).symm
  have he : ∀ x, endBy F q N x = endBy F p N x := fun x => (pick_congr e).symm
  refine ⟨fun s hs => by rw [hc]; exact h.covers s hs, fun i hi h0 => h.support i hi (by rw [e i hi]; exact h0), fun i hi h0 => ?_, fun r hr x => by rw [he]; exact h.least r hr x⟩
  obtain ⟨s, h1, h2, h3⟩ := h.tight i hi (by rw [e i hi]; exact h0)
  exact ⟨s, h1, h2, by rw [hc]; exact h3⟩

def rangeL (g : Nat → Nat) (n : Nat) : List Int := (List.range n).map fun i => ((g i : Nat) : Int)
theorem rangeL_length (g : Nat → Nat) (n : Nat) : (rangeL g n).length = n := by simp [rangeL]
theorem rangeL_zero (n : Nat) : rangeL (fun _ => 0) n = List.replicate n 0 := by rw [replicate_map]; rfl
theorem rangeL_ints (g : Nat → Nat) (n : Nat) : rangeL g n = intsOf ((List.range n).map g) := by simp [rangeL, intsOf]
theorem pOf_range {g : Nat → Nat} {n i : Nat} (h : i < n) : pOf ((List.range n).map g) i = g i := by
  unfold pOf; simp [h]
theorem cells_range {w : World} {b : Nat} {g : Nat → Nat} {n : Nat} (h : IntsB w b (rangeL g n)) {j : Nat} (hj : j < n) : w.cell? ⟨b, j, none⟩ = some (.int .i64 (g j : Nat)) ∧ w.frozen? ⟨b, j, none⟩ = false := by
  have := h.cells j (by rw [rangeL_length]; exact hj)
  simpa [rangeL] using this
theorem set_range {w : World} {b : Nat} {g h : Nat → Nat} {n j : Nat} {u : Int} (hI : IntsB w b (rangeL g n)) (hu : u = ((h j : Nat) : Int)) (hne : ∀ t, t < n → t ≠ j → h t = g t) : IntsB (w.setCell ⟨b, j, none⟩ (.int .i64 u)) b (rangeL h n) := by
  have := hI.set j u
  unfold rangeL at this
  rw [map_range_set (h := fun t => ((h t : Nat) : Int)) hu (fun t ht hn => by rw [hne t ht hn])] at this
  exact this

/-- what the loop over the slots holds in memory -/
structure PlW (fs : List FN) (ds : List Nat) (w wr : World) (Bp Bt t : Nat) (p : Nat → Nat) : Prop where
  plan : IntsB wr Bp (rangeL p fs.length)
  there : IntsB wr Bt (rangeL (cov (fmOf fs) p fs.length) ds.length)
  inv : PlanInv (fmOf fs) (pOf ds) fs.length t p
  p60 : ∀ i, p i ≤ 60
  below : Below w.heap.size w wr
theorem PlW.up {fs : List FN} {ds : List Nat} {w wr w' : World} {Bp Bt t : Nat} {p : Nat → Nat} (h : PlW fs ds w wr Bp Bt t p) (hb : Below wr.heap.size wr w') : PlW fs ds w w' Bp Bt t p :=
  ⟨Has.below h.plan hb h.plan.lt, Has.below h.there hb h.there.lt, h.inv, h.p60, below_up h.below hb h.below.size⟩
/-- the people that are there while form k is being added, up to slot m -/
def thr (fs : List FN) (p : Nat → Nat) (k more m t : Nat) : Nat := cov (fmOf fs) p fs.length t + if (fmOf fs k).f ≤ t ∧ t < m then more else 0
structure PlIn (fs : List FN) (ds : List Nat) (w wr : World) (Bp Bt t k more s : Nat) (p : Nat → Nat) : Prop where
  lo : (fmOf fs k).f ≤ s
  hi : s ≤ (fmOf fs k).e
  hn : s ≤ ds.length ∨ s = (fmOf fs k).f
  plan : IntsB wr Bp (rangeL (upd p k (p k + more)) fs.length)
  there : IntsB wr Bt (rangeL (thr fs p k more s) ds.length)
  below : Below w.heap.size w wr
theorem thr_start (fs : List FN) (p : Nat → Nat) (k more t : Nat) : thr fs p k more (fmOf fs k).f t = cov (fmOf fs) p fs.length t := by
  unfold thr
  rw [if_neg (by omega)]; rfl
theorem PlIn.step {fs : List FN} {ds : List Nat} {w wr : World} {Bp Bt t k more s : Nat} {p : Nat → Nat} (h : PlIn fs ds w wr Bp Bt t k more s p) (h1 : s < ds.length) (h2 : s < (fmOf fs k).e) (hne : Bp ≠ Bt) (hB : w.heap.size ≤ Bt)
    {u : Int} (hu : u = ((thr fs p k more s s : Nat) : Int) + (more : Int)) : PlIn fs ds w (wr.setCell ⟨Bt, s, none⟩ (.int .i64 u)) Bp Bt t k more (s + 1) p := by
  have hlo := h.lo
  refine ⟨by omega, by omega, .inl (by omega), Has.set_other h.plan s _ hne, ?_, h.below.setCell hB _⟩
  refine set_range h.there (h := thr fs p k more (s + 1)) ?_ (fun x _ hx => ?_)
  · rw [hu]
    unfold thr
    rw [if_neg (by omega), if_pos (by omega)]
    simp
  · unfold thr
    congr 1
    by_cases g : (fmOf fs k).f ≤ x ∧ x < s
    · rw [if_pos g, if_pos (by omega)]
    · rw [if_neg g, if_neg (by omega)]
theorem PlIn.drew {fs : List FN} {ds : List Nat} {w wr : World} {Bp Bt t k more s : Nat} {p : Nat → Nat} (h : PlIn fs ds w wr Bp Bt t k more s p) : PlIn fs ds w wr.drew Bp Bt t k more s p :=
  ⟨h.lo, h.hi, h.hn, h.plan, h.there, h.below.drew⟩
theorem PlIn.done {fs : List FN} {ds : List Nat} {w wr : World} {Bp Bt t k more s : Nat} {p : Nat → Nat} (h : PlIn fs ds w wr Bp Bt t k more s p) (hs : ¬ (s < ds.length ∧ s < (fmOf fs k).e)) (hk : IsLongest (fmOf fs) fs.length t k) (hi : PlanInv (fmOf fs) (pOf ds) fs.length t p)
    (hm : more = pOf ds t - cov (fmOf fs) p fs.length t) (hd : cov (fmOf fs) p fs.length t < pOf ds t) (h60 : ∀ i, upd p k (p k + more) i ≤ 60) : PlW fs ds w wr Bp Bt (t + 1) (upd p k (p k + more)) := by
  subst hm
  refine ⟨h.plan, ?_, hi.add hd hk, h60, h.below⟩
  have hth := h.there
  have hhi := h.hi
  have e : rangeL (thr fs p k (pOf ds t - cov (fmOf fs) p fs.length t) s) ds.length = rangeL (cov (fmOf fs) (upd p k (p k + (pOf ds t - cov (fmOf fs) p fs.length t))) fs.length) ds.length := by
    unfold rangeL
    refine List.map_congr_left fun x hx => ?_
    have hx' : x < ds.length := by simpa using hx
    congr 1
    unfold thr cov
    rw [pick_upd]
    congr 1
    by_cases g : hitB (fmOf fs k) x = true
    · have := hitB_iff.1 g
      rw [if_pos (by omega), if_pos ⟨hk.1, g⟩]
    · rw [if_neg, if_neg (fun q => g q.2)]
      intro q
      exact g (hitB_iff.2 (by omega))
  rw [e] at hth
  exact hth

theorem PlW.take {fs : List FN} {ds : List Nat} {w wr : World} {Bp Bt t k more : Nat} {p : Nat → Nat} (h : PlW fs ds w wr Bp Bt t p) (hne : Bt ≠ Bp) (hB : w.heap.size ≤ Bp) {u : Int} (hu : u = ((p k : Nat) : Int) + (more : Int)) (he : (fmOf fs k).f ≤ (fmOf fs k).e) :
    PlIn fs ds w (wr.setCell ⟨Bp, k, none⟩ (.int .i64 u)) Bp Bt t k more (fmOf fs k).f p := by
  refine ⟨Nat.le_refl _, he, .inr rfl, ?_, ?_, h.below.setCell hB _⟩
  · exact set_range h.plan (h := upd p k (p k + more)) (by rw [upd_same, hu]; simp) (fun x _ hx => upd_ne _ _ hx)
  · have := Has.set_other h.there k (.int .i64 u) hne
    have e : rangeL (thr fs p k more (fmOf fs k).f) ds.length = rangeL (cov (fmOf fs) p fs.length) ds.length := by
      unfold rangeL
      exact List.map_congr_left fun x _ => by rw [thr_start]
    unfold IntsB
    rw [e]
    exact this

structure PlJ (fs : List FN) (ds : List Nat) (w wr : World) (Bp Bt t k more s : Nat) (p : Nat → Nat) (bf o xf xn : Nat) : Prop where
  inn : PlIn fs ds w wr Bp Bt t k more s p
  g0 : wr.cell? ⟨bf, o, none⟩ = some (.int .i64 (xf : Nat))
  g1 : wr.cell? ⟨bf, o + 1, none⟩ = some (.int .i64 (xn : Nat))

def PlanPost (l : List (Int × Int)) (D : List Int) (w : World) (e : Ending) (w' : World) : Prop :=
  ∃ a m c code, e = .returned (.tuple #[.slice a m c, .int .i64 code]) ∧ Below w.heap.size w w' ∧ ((code ≠ 0 ∧ m = 0) ∨
    (code = 0 ∧ formsE l = 0 ∧ ∃ (fs : List FN) (ds ps : List Nat), l = fs.map FN.pair ∧ fs.length ≤ 60 ∧ (∀ x ∈ fs, x.ok) ∧ D = intsOf ds ∧ ds.length ≤ 400 ∧ (∀ d ∈ ds, d ≤ 60) ∧ ps.length = fs.length ∧ (∀ p ∈ ps, p ≤ 60) ∧ m = fs.length ∧ NatsAt w' (.slice a m c) ps ∧
      PlanInv (fmOf fs) (pOf ds) fs.length ds.length (pOf ps)))

set_option maxRecDepth 100000 in
set_option maxHeartbeats 1000000 in
theorem Plan_no (v dv : Value) (l : List (Int × Int)) (D : List Int) (w : World) (h : SliceAt 2 formR w v l) (hd : SliceAt 1 intR w dv D) (hno : ¬ (formsE l = 0 ∧ demandE D 60 = 0)) :
    Calls Tryd.prog 11 #[v, dv] w (PlanPost l D w) := by
  obtain ⟨a, cap, rfl⟩ := h.len
  obtain ⟨ad, cd, rfl⟩ := hd.len
  have H := Lib.hid h
  have HD := Lib.hid hd
  have HNO := Lib.hid hno
  clear h hd hno
  go_enter Tryd.func11, Tryd.ntmps11
  go_wp2_with fail
  refine (CheckForms_any _ l w H.out).mono ?_
  rintro e w1 ⟨rfl, hb1⟩
  have HB1 := Lib.hid hb1
  go_wp2_with fail
  refine (checkDemand_any _ D 60 w1 (HD.out.stable intR_stable hb1)).mono ?_
  rintro e w2 ⟨rfl, rfl⟩
  clear hb1
  go_wp2_with fail
  refine (or_any _ [formsE l, demandE D 60] _ (ints2_at w1 _ _ _) (by simp)).mono ?_
  rintro e w2 ⟨rfl, rfl⟩
  have ho := orI2 (formsE l) (demandE D 60)
  have hb2 : Below w.heap.size w (w1.alloc (.cells #[.int .i64 (formsE l), .int .i64 (demandE D 60)] 27)) := HB1.out.alloc HB1.out.size _
  generalize w1.alloc (.cells #[.int .i64 (formsE l), .int .i64 (demandE D 60)] 27) = w2 at *
  have hc : orI [formsE l, demandE D 60] ≠ 0 := by
    rw [ho]
    split
    · rename_i g
      exact fun q => HNO.out ⟨g, q⟩
    · rename_i g; exact g
  clear ho
  generalize orI [formsE l, demandE D 60] = c at *
  have hq0 : (c == 0) = false := by simpa using hc
  have hq1 : (c != 0) = true := by simpa using hc
  have HC := Lib.hid hc
  clear hc
  go_wp2_with fail
  go_ret2
  exact ⟨_, _, _, _, rfl, hb2, .inl ⟨HC.out, rfl⟩⟩

set_option maxRecDepth 100000 in
set_option maxHeartbeats 8000000 in
theorem Plan_ok (v dv : Value) (fs : List FN) (ds : List Nat) (w : World) (h : FormsAt w v fs) (hd : NatsAt w dv ds) (hl : fs.length ≤ 60) (hok : ∀ x ∈ fs, x.ok) (hfe : formsE (fs.map FN.pair) = 0) (hdl : ds.length ≤ 400) (hd60 : ∀ d ∈ ds, d ≤ 60) :
    Calls Tryd.prog 11 #[v, dv] w (PlanPost (fs.map FN.pair) (intsOf ds) w) := by
  have hcf := CheckForms_any v (fs.map FN.pair) w h
  rw [hfe] at hcf
  have e60 : demandE (intsOf ds) 60 = 0 := demandE_ok (m := 60) hdl hd60
  have hcd : ∀ W, NatsAt W dv ds → Calls Tryd.prog 36 #[dv, .int .i64 60] W fun e w' => e = .returned (.int .i64 0) ∧ W = w' := fun W hW => by
    have := checkDemand_any dv (intsOf ds) 60 W hW
    rw [e60] at this
    exact this
  obtain ⟨a, cap, rfl⟩ := h.len
  obtain ⟨ad, cd, rfl⟩ := hd.len
  have HCF := Lib.hid hcf
  have HCD := Lib.hid hcd
  have H := Lib.hid h
  have HD := Lib.hid hd
  have HOK := Lib.hid hok
  have HFE := Lib.hid hfe
  have HD60 := Lib.hid hd60
  have HP60 := Lib.hid (pOf_le hd60)
  clear h hd hcf hcd hok hfe hd60 e60
  go_enter Tryd.func11, Tryd.ntmps11
  go_wp2_with fail
  refine HCF.out.mono ?_
  rintro e w1 ⟨rfl, hb1⟩
  have HB1 := Lib.hid hb1
  go_wp2_with fail
  refine (HCD.out w1 (HD.out.below hb1)).mono ?_
  rintro e w2 ⟨rfl, rfl⟩
  clear hb1
  go_wp2_with fail
  refine (or_any _ [0, 0] _ (ints2_at w1 _ _ _) (by simp)).mono ?_
  rintro e w2 ⟨rfl, rfl⟩
  have ho : orI [0, 0] = 0 := by rw [orI2, if_pos rfl]
  rw [ho]
  have hb2 : Below w.heap.size w (w1.alloc (.cells #[.int .i64 0, .int .i64 0] 27)) := HB1.out.alloc HB1.out.size _
  generalize w1.alloc (.cells #[.int .i64 0, .int .i64 0] 27) = w2 at *
  have HB2 := Lib.hid hb2
  clear hb2 ho
  go_wp2_with fail
  go_loopw [7, 8, 27] (fun _ _ iv wr => ∃ i : Nat, iv = .int .i64 i ∧ i ≤ ds.length ∧ Below w.heap.size w wr ∧ ∀ s, s < i → 0 < pOf ds s → 0 ≤ lngI (fmOf fs) s fs.length) (fun _ _ iv _ => ds.length - (intOf iv).toNat)
  case atStart => exact ⟨0, rfl, Nat.zero_le _, HB2.out, fun s hs => absurd hs (by omega)⟩
  case round =>
    obtain ⟨i, rfl, hi, hbr, hall⟩ := hrel
    have HALL := Lib.hid hall
    have HBR := Lib.hid hbr
    clear hall hbr
    by_cases hlt : i < ds.length
    · obtain ⟨b, off, cap', hv, hb, hel⟩ := HD.out.at (by omega)
      cases hv
      have c0 := (below_cell HBR.out hb).trans (hel i hlt)
      have hdi : pOf ds i = ds[i] := by unfold pOf; simp [hlt]
      rw [← hdi] at c0
      have hdd := HP60.out i
      clear hel hdi
      by_cases hpos : 0 < pOf ds i
      · have hp1 : decide ((0 : Int) < ((pOf ds i : Nat) : Int)) = true := by simpa using hpos
        have hp2 : decide (0 < pOf ds i) = true := by simpa using hpos
        go_wp2_with fail
        refine (longest_any _ fs i _ (H.out.below HBR.out) hl HOK.out (by omega)).mono ?_
        rintro e w3 ⟨rfl, hb3⟩
        have HB3 := Lib.hid (below_up HBR.out hb3 HBR.out.size)
        clear hb3
        by_cases hz : lngI (fmOf fs) i fs.length < 0
        · have hz1 : decide (lngI (fmOf fs) i fs.length < 0) = true := by simpa using hz
          generalize lngI (fmOf fs) i fs.length = z at *
          go_wp2_with fail
          go_ret2
          exact ⟨_, _, _, _, rfl, HB3.out, .inl ⟨by omega, rfl⟩⟩
        · have hz1 : decide (lngI (fmOf fs) i fs.length < 0) = false := by simpa using hz
          have HZ := Lib.hid hz
          generalize hzq : lngI (fmOf fs) i fs.length = z at *
          have HZQ := Lib.hid hzq
          clear hz hzq
          go_wp2_with fail
          go_roundw
          case rel => exact ⟨i + 1, by go_num, by omega, HB3.out, fun s hs h0 => by
            by_cases e : s = i
            · subst e; rw [HZQ.out]; have := HZ.out; omega
            · exact HALL.out s (by omega) h0⟩
          case measure => simp [intOf]; omega
      · have hp1 : decide ((0 : Int) < ((pOf ds i : Nat) : Int)) = false := by simp; omega
        have hp2 : decide (0 < pOf ds i) = false := by simpa using hpos
        have HPOS := Lib.hid hpos
        clear hpos
        go_wp2_with fail
        go_roundw
        case rel => exact ⟨i + 1, by go_num, by omega, HBR.out, fun s hs h0 => by
          by_cases e : s = i
          · subst e; exact absurd h0 HPOS.out
          · exact HALL.out s (by omega) h0⟩
        case measure => simp [intOf]; omega
    · obtain rfl : i = ds.length := by omega
      have hmk1 := fun W => make_ints W fs.length (by omega)
      have hmk2 := fun W => make_ints W ds.length (by omega)
      go_wp2_with fail
      clear hmk1 hmk2
      have hpl := madeInts wr fs.length
      have hth := madeInts (wr.alloc (.cells (madeCells #[.int .i64 0] fs.length) 3)) ds.length
      rw [← rangeL_zero] at hpl hth
      have hpl2 : IntsB ((wr.alloc (.cells (madeCells #[.int .i64 0] fs.length) 3)).alloc (.cells (madeCells #[.int .i64 0] ds.length) 3)) wr.heap.size (rangeL (fun _ => 0) fs.length) := Has.alloc hpl _
      have hsz : (wr.alloc (.cells (madeCells #[.int .i64 0] fs.length) 3)).heap.size = wr.heap.size + 1 := by simp
      rw [hsz] at hth
      have hbl : Below w.heap.size w ((wr.alloc (.cells (madeCells #[.int .i64 0] fs.length) 3)).alloc (.cells (madeCells #[.int .i64 0] ds.length) 3)) := (HBR.out.alloc HBR.out.size _).alloc (by have := HBR.out.size; simp; omega) _
      have hwr := HBR.out.size
      have hpw : PlW fs ds w ((wr.alloc (.cells (madeCells #[.int .i64 0] fs.length) 3)).alloc (.cells (madeCells #[.int .i64 0] ds.length) 3)) wr.heap.size (wr.heap.size + 1) 0 (fun _ => 0) := by
        refine ⟨hpl2, ?_, PlanInv.start _ _ _, fun _ => by omega, hbl⟩
        have e : cov (fmOf fs) (fun _ => 0) fs.length = fun _ => 0 := by
          funext s
          unfold cov pick
          rw [sm_congr (h := fun _ => 0) (fun i _ => by simp), sm_zero]
        rw [e]
        exact hth
      have HPW := Lib.hid hpw
      clear hpl hth hpl2 hsz hbl hpw
      generalize (wr.alloc (.cells (madeCells #[.int .i64 0] fs.length) 3)).alloc (.cells (madeCells #[.int .i64 0] ds.length) 3) = w5 at *
      generalize hbp : wr.heap.size = Bp at *
      have hne : Bp ≠ Bp + 1 := by omega
      have hne' : Bp + 1 ≠ Bp := by omega
      have hBt : w.heap.size ≤ Bp + 1 := by omega
      go_loopw [11, 12, 13, 14, 15, 49] (fun _ _ _ _ _ iv wx => ∃ (t : Nat) (p : Nat → Nat), iv = .int .i64 t ∧ t ≤ ds.length ∧ PlW fs ds w wx Bp (Bp + 1) t p) (fun _ _ _ _ _ iv _ => ds.length - (intOf iv).toNat)
      case atStart => exact ⟨0, _, rfl, Nat.zero_le _, HPW.out⟩
      case round =>
        obtain ⟨t, p, rfl, ht, hP⟩ := hrel
        have HP := Lib.hid hP
        clear hP
        by_cases hlt : t < ds.length
        · obtain ⟨b, off, cap', hv, hb, hel⟩ := HD.out.at (by omega)
          cases hv
          have c0 := (below_cell HP.out.below hb).trans (hel t hlt)
          have hdi : pOf ds t = ds[t] := by unfold pOf; simp [hlt]
          rw [← hdi] at c0
          have hdd := HP60.out t
          obtain ⟨c1, z1⟩ := cells_range HP.out.there hlt
          have hcc := cov_le HP.out.p60 fs.length t (F := fmOf fs)
          have HALT := Lib.hid (HALL.out t hlt)
          clear hel hdi
          by_cases hcv : pOf ds t ≤ cov (fmOf fs) p fs.length t
          · have HCV := Lib.hid hcv
            generalize hcvq : cov (fmOf fs) p fs.length t = cv at *
            generalize hdvq : pOf ds t = dv at *
            have HCVQ := Lib.hid hcvq
            have HDVQ := Lib.hid hdvq
            clear hcvq hdvq
            have s1 : IntKind.i64.wrap ((dv : Int) - (cv : Int)) = (dv : Int) - (cv : Int) := IntWalk.i64_in _ (by omega)
            have s2 : decide ((dv : Int) - (cv : Int) ≤ 0) = true := by simp; omega
            clear hcv
            go_wp2_with fail
            all_goals
              go_roundw
              case rel => exact ⟨t + 1, p, by go_num, by omega, HP.out.plan, HP.out.there, HP.out.inv.skip (by rw [HDVQ.out, HCVQ.out]; exact HCV.out), HP.out.p60, HP.out.below⟩
              case measure => simp [intOf]; omega
          · have hpos : 0 < pOf ds t := by omega
            have hz := HALT.out hpos
            obtain ⟨k, hkz, hkl⟩ : ∃ k : Nat, lngI (fmOf fs) t fs.length = k ∧ IsLongest (fmOf fs) fs.length t k := by
              rcases lngI_spec (fmOf fs) t fs.length with ⟨g, _⟩ | g
              · omega
              · exact g
            have hlg := longest_any (.slice a fs.length cap) fs t
            rw [hkz] at hlg
            have HLG := Lib.hid hlg
            have HKL := Lib.hid hkl
            have HKZ := Lib.hid hkz
            have hkN : k < fs.length := hkl.1
            have HCV := Lib.hid hcv
            obtain ⟨more, hmore⟩ : ∃ more, more = pOf ds t - cov (fmOf fs) p fs.length t := ⟨_, rfl⟩
            have HM := Lib.hid hmore
            have hmore1 : more ≤ 60 := by omega
            have hmore0 : 0 < more := by omega
            have e1 : ((pOf ds t : Nat) : Int) - ((cov (fmOf fs) p fs.length t : Nat) : Int) = (more : Int) := by omega
            generalize hcvq : cov (fmOf fs) p fs.length t = cv at *
            generalize hdvq : pOf ds t = dv at *
            have HCVQ := Lib.hid hcvq
            have HDVQ := Lib.hid hdvq
            clear hcvq hdvq
            have s1 : IntKind.i64.wrap ((dv : Int) - (cv : Int)) = (more : Int) := by rw [IntWalk.i64_in _ (by omega)]; omega
            have s2 : decide ((more : Int) ≤ 0) = false := by simp; omega
            clear hcv hkl hkz hlg hz hmore
            go_wp2_with fail
            refine (HLG.out _ (H.out.below HP.out.below) hl HOK.out (by omega)).mono ?_
            rintro e w6 ⟨rfl, hb6⟩
            have HP6 := Lib.hid (HP.out.up hb6)
            clear hb6 c0 c1 z1
            obtain ⟨c2, z2⟩ := cells_range HP6.out.plan hkN
            have hpk := HP6.out.p60 k
            have s3 : IntKind.i64.wrap (((p k : Nat) : Int) + (more : Int)) = ((p k : Nat) : Int) + (more : Int) := IntWalk.i64_in _ (by omega)
            obtain ⟨bf, of', capf, hvf, hcapf, hbf, helf⟩ := H.out.at (by omega)
            cases hvf
            obtain ⟨f0, f1⟩ := helf k hkN
            have hbw6 := HP6.out.below
            have g0 := (below_cell hbw6 hbf).trans f0
            have g1 := (below_cell hbw6 hbf).trans f1
            have hx := HOK.out fs[k] (List.getElem_mem hkN)
            have hF := fmOf_at hkN
            have hF1 : (fmOf fs k).f = fs[k].f := by rw [hF]
            have hF2 : (fmOf fs k).e = fs[k].f + fs[k].n := by rw [hF]
            have htk := HP6.out.take (k := k) (more := more) hne' (by omega) rfl (by rw [hF1, hF2]; omega)
            have g0' : (w6.setCell ⟨Bp, k, none⟩ (.int .i64 (((p k : Nat) : Int) + (more : Int)))).cell? ⟨bf, of' + k * 2, none⟩ = some (.int .i64 (fs[k].f : Nat)) := (set_block (by omega)).trans g0
            have g1' : (w6.setCell ⟨Bp, k, none⟩ (.int .i64 (((p k : Nat) : Int) + (more : Int)))).cell? ⟨bf, of' + k * 2 + 1, none⟩ = some (.int .i64 (fs[k].n : Nat)) := (set_block (by omega)).trans g1
            have hup : p k + more ≤ 60 → ∀ i, upd p k (p k + more) i ≤ 60 := fun h i => by
              by_cases e : i = k
              · subst e; rw [upd_same]; exact h
              · rw [upd_ne _ _ e]; exact HP6.out.p60 i
            have HUP := Lib.hid hup
            have HTK := Lib.hid htk
            have HF1 := Lib.hid hF1
            have HF2 := Lib.hid hF2
            have hbne : bf ≠ Bp := by omega
            have hbne' : bf ≠ Bp + 1 := by omega
            generalize fs[k] = x at *
            obtain ⟨xf, xn⟩ := x
            obtain ⟨o1, o2, o3⟩ := hx
            simp only at g0 g1 g0' g1' HF1 HF2 o1 o2 o3
            generalize hpkq : p k = pk at *
            have HPK := Lib.hid hpkq
            clear hpkq
            have s4 : IntKind.i64.wrap ((xf : Int) + (xn : Int)) = (xf : Int) + (xn : Int) := IntWalk.i64_in _ (by omega)
            have s5 : (0 : Int) ≤ (k : Int) := by omega
            clear f0 f1 helf hbw6 hF hF1 hF2 htk hup
            by_cases h6 : pk + more ≤ 60
            · have q1 : decide ((60 : Int) < (pk : Int) + (more : Int)) = false := by simp; omega
              have HUP6 := Lib.hid (HUP.out h6)
              go_wp2_with fail
              go_loopw [15] (fun sv wx => ∃ s : Nat, sv = .int .i64 s ∧ PlJ fs ds w wx Bp (Bp + 1) t k more s p bf (of' + k * 2) xf xn) (fun sv _ => xf + xn - (intOf sv).toNat)
              case atStart => exact ⟨xf, rfl, by have := HTK.out; rwa [HF1.out] at this, g0', g1'⟩
              case round =>
                clear g0 g1 g0' g1' c2 z2
                obtain ⟨s, rfl, hJ⟩ := hrel
                have g0 := hJ.g0
                have g1 := hJ.g1
                have hJlo := hJ.inn.lo
                have hJhi := hJ.inn.hi
                have hJn := hJ.inn.hn
                rw [HF1.out] at hJlo hJn
                rw [HF2.out] at hJhi
                have HJ := Lib.hid hJ
                clear hJ
                go_upto_region 22 with fail
                go_cut [97] (fun u wx => u = .bool (decide (s < ds.length ∧ s < xf + xn)) ∧ PlJ fs ds w wx Bp (Bp + 1) t k more s p bf (of' + k * 2) xf xn)
                case first =>
                  go_region
                  all_goals go_wp2
                  all_goals
                    go_meet
                    refine ⟨congrArg Value.bool ?_, HJ.out.inn.drew, HJ.out.g0, HJ.out.g1⟩
                    rw [Bool.eq_iff_iff]
                    simp only [decide_eq_true_eq]
                    omega
                case rest =>
                  obtain ⟨rfl, hJ⟩ := hcut
                  have g0 := hJ.g0
                  have g1 := hJ.g1
                  have HJ := Lib.hid hJ
                  clear hJ
                  by_cases hs : s < ds.length ∧ s < xf + xn
                  · have hsd : decide (s < ds.length ∧ s < xf + xn) = true := by simpa using hs
                    obtain ⟨hs1, hs2⟩ := hs
                    obtain ⟨y0, y1⟩ := cells_range HJ.out.inn.there hs1
                    have hth : thr fs p k more s s ≤ 3720 := by
                      have := cov_le HP6.out.p60 fs.length s (F := fmOf fs)
                      unfold thr
                      split <;> omega
                    have hst := fun (u : Int) hu => HJ.out.inn.step (u := u) hs1 (by rw [HF2.out]; exact hs2) hne hBt hu
                    have HST := Lib.hid hst
                    generalize thr fs p k more s s = tv at *
                    have r1 : IntKind.i64.wrap ((tv : Int) + (more : Int)) = (tv : Int) + (more : Int) := IntWalk.i64_in _ (by omega)
                    clear hst
                    go_wp2_with fail
                    go_roundw
                    case rel => exact ⟨s + 1, by go_num, HST.out _ rfl, (set_block (by omega)).trans HJ.out.g0, (set_block (by omega)).trans HJ.out.g1⟩
                    case measure => simp [intOf]; omega
                  · have hsd : decide (s < ds.length ∧ s < xf + xn) = false := by simpa using hs
                    have HS := Lib.hid hs
                    clear hs
                    go_wp2_with fail
                    go_roundw
                    case rel => exact ⟨t + 1, upd p k (p k + more), by go_num, by omega, HJ.out.inn.done (by rw [HF2.out]; exact HS.out) HKL.out HP6.out.inv (by rw [HDVQ.out, HCVQ.out]; exact HM.out) (by rw [HDVQ.out, HCVQ.out]; have := HCV.out; omega) (by rw [HPK.out]; exact HUP6.out)⟩
                    case measure => simp [intOf]; omega
            · have q1 : decide ((60 : Int) < (pk : Int) + (more : Int)) = true := by simp; omega
              go_wp2_with fail
              go_ret2
              exact ⟨_, _, _, _, rfl, HTK.out.below, .inl ⟨by omega, rfl⟩⟩
        · obtain rfl : t = ds.length := by omega
          have hsl := HP.out.plan.slice (cap := fs.length) (by rw [rangeL_length]; exact Nat.le_refl _)
          rw [rangeL_length, rangeL_ints] at hsl
          have HSL := Lib.hid (show NatsAt wr (.slice (some ⟨Bp, 0, none⟩) fs.length fs.length) ((List.range fs.length).map p) from hsl)
          clear hsl
          go_wp2_with fail
          go_ret2
          exact ⟨_, _, _, _, rfl, HP.out.below, .inr ⟨rfl, HFE.out, fs, ds, (List.range fs.length).map p, rfl, hl, HOK.out, rfl, hdl, HD60.out, by simp, fun q hq => by
            obtain ⟨i, _, rfl⟩ := List.mem_map.1 hq
            exact HP.out.p60 i, rfl, HSL.out, HP.out.inv.congr (fun i hi => (pOf_range hi).symm)⟩⟩

end Go.Proofs.YtfoehmieklldkaaDoor
