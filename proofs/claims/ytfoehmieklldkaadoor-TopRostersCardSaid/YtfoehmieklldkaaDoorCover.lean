/- The walk of staff.cover. -/
import Derived.Test.YtfoehmieklldkaaDoorLongest
namespace Go.Proofs.YtfoehmieklldkaaDoor
open Go.RowKit

theorem make_ints (w : World) (n : Nat) (hn : n ≤ 1000000) :
    (Instr.makeSlice 34 (.int .i64 (n : Int)) (.int .i64 (n : Int))).run Tryd.prog w = .ok (.slice (some ⟨w.heap.size, 0, none⟩) n n) (w.alloc (.cells (madeCells #[.int .i64 0] n) 3)) := by
  obtain ⟨i0, hi, hz0, hz1, hz2⟩ := info_parts infoInt
  have h := run_make (P := Tryd.prog) w 34 3 i0 (.int .i64 0) Tryd.underlying34 hi hz0 .i64 .i64 (n : Int) (n : Int) (by omega) (by omega) (by rw [hz2]; omega) (by omega)
  rw [h, hz1, Nat.mul_one]
  rfl
theorem replicate_map (n : Nat) : List.replicate n (0 : Int) = (List.range n).map fun _ => 0 := by
  apply List.ext_getElem
  · simp
  · intro i h1 h2; simp
theorem map_range_set {g h : Nat → Int} {n s : Nat} {x : Int} (hx : x = h s) (hne : ∀ t, t < n → t ≠ s → h t = g t) : ((List.range n).map g).set s x = (List.range n).map h := by
  subst hx
  apply List.ext_getElem
  · simp
  · intro i h1 h2
    have hi : i < n := by simpa using h2
    by_cases e : i = s
    · subst e; simp
    · rw [List.getElem_set_ne (fun g => e g.symm)]
      simp [hne i hi e]

def pOf (ps : List Nat) (i : Nat) : Nat := ps.getD i 0
def intsOf (ps : List Nat) : List Int := ps.map fun (n : Nat) => (n : Int)
theorem pOf_le {ps : List Nat} {m : Nat} (h : ∀ p ∈ ps, p ≤ m) (i : Nat) : pOf ps i ≤ m := by
  unfold pOf
  by_cases hi : i < ps.length
  · have : ps.getD i 0 = ps[i] := by simp [hi]
    rw [this]; exact h _ (List.getElem_mem hi)
  · have : ps.getD i 0 = 0 := by simp; rw [List.getElem?_eq_none (by omega)]; rfl
    omega
theorem cov_succ (F : Nat → Fm) (p : Nat → Nat) (i t : Nat) : cov F p (i + 1) t = cov F p i t + if hitB (F i) t = true then p i else 0 := rfl
theorem cov_le {F : Nat → Fm} {p : Nat → Nat} {m : Nat} (h : ∀ i, p i ≤ m) (i t : Nat) : cov F p i t ≤ i * m := by
  unfold cov pick
  refine sm_bound fun j _ => ?_
  split
  · exact h j
  · omega
/-- what 'out' holds when i forms are over and the slots of form i up to m -/
def covPart (F : Nat → Fm) (p : Nat → Nat) (i m t : Nat) : Nat := cov F p i t + if (F i).f ≤ t ∧ t < m then p i else 0
theorem covPart_start (F : Nat → Fm) (p : Nat → Nat) (i t : Nat) : covPart F p i (F i).f t = cov F p i t := by
  unfold covPart
  rw [if_neg (by omega)]; rfl
theorem covPart_done {F : Nat → Fm} {p : Nat → Nat} {i m t n : Nat} (h1 : n ≤ m ∨ (F i).e ≤ m) (h2 : m ≤ (F i).e ∨ m ≤ (F i).f) (ht : t < n) : covPart F p i m t = cov F p (i + 1) t := by
  unfold covPart
  rw [cov_succ]
  congr 1
  by_cases hh : hitB (F i) t = true
  · have := hitB_iff.1 hh
    rw [if_pos hh, if_pos (by omega)]
  · rw [if_neg hh, if_neg]
    intro g
    exact hh (hitB_iff.2 (by omega))
def covList (fs : List FN) (ps : List Nat) (n : Nat) : List Int := (List.range n).map fun t => ((cov (fmOf fs) (pOf ps) fs.length t : Nat) : Int)

structure CovInv (fs : List FN) (ps : List Nat) (n : Nat) (w wr : World) (B i m : Nat) : Prop where
  block : IntsB wr B ((List.range n).map fun t => ((covPart (fmOf fs) (pOf ps) i m t : Nat) : Int))
  below : Below w.heap.size w wr

/-- inside the loop over the slots of form i -/
structure InInv (fs : List FN) (ps : List Nat) (n : Nat) (w wx : World) (i xf xn B bp o s : Nat) : Prop where
  lo : xf ≤ s
  hi : s ≤ xf + xn
  hn : s ≤ n ∨ s = xf
  inv : CovInv fs ps n w wx w.heap.size i s
  k0 : wx.cell? ⟨B, 0, none⟩ = some (.int .i64 (xf : Nat))
  k1 : wx.cell? ⟨B, 1, none⟩ = some (.int .i64 (xn : Nat))
  d2 : wx.cell? ⟨bp, o, none⟩ = some (.int .i64 (pOf ps i : Nat))
theorem InInv.step {fs : List FN} {ps : List Nat} {n : Nat} {w wx : World} {i xf xn B bp o s : Nat} (h : InInv fs ps n w wx i xf xn B bp o s) (hf : (fmOf fs i).f = xf) (h1 : s < n) (h2 : s < xf + xn) (hB : w.heap.size ≠ B) (hb : w.heap.size ≠ bp)
    {u : Int} (hu : u = ((covPart (fmOf fs) (pOf ps) i s s : Nat) : Int) + ((pOf ps i : Nat) : Int)) : InInv fs ps n w (wx.setCell ⟨w.heap.size, s, none⟩ (.int .i64 u)) i xf xn B bp o (s + 1) := by
  have hlo := h.lo
  refine ⟨by omega, by omega, .inl (by omega), ⟨?_, h.inv.below.setCell (Nat.le_refl _) _⟩, (set_block hB).trans h.k0, (set_block hB).trans h.k1, (set_block hb).trans h.d2⟩
  have hs := h.inv.block.set s u
  rw [map_range_set (h := fun t => ((covPart (fmOf fs) (pOf ps) i (s + 1) t : Nat) : Int)) (by
    rw [hu]
    unfold covPart
    rw [if_neg (by omega), if_pos (by omega)]
    simp) (fun t ht hne => by
    unfold covPart
    congr 1
    by_cases g : (fmOf fs i).f ≤ t ∧ t < s
    · rw [if_pos g, if_pos (by omega)]
    · rw [if_neg g, if_neg (by omega)])] at hs
  exact hs

theorem InInv.drew {fs : List FN} {ps : List Nat} {n : Nat} {w wx : World} {i xf xn B bp o s : Nat} (h : InInv fs ps n w wx i xf xn B bp o s) : InInv fs ps n w wx.drew i xf xn B bp o s :=
  ⟨h.lo, h.hi, h.hn, ⟨h.inv.block, h.inv.below.drew⟩, h.k0, h.k1, h.d2⟩
theorem InInv.out {fs : List FN} {ps : List Nat} {n : Nat} {w wx : World} {i xf xn B bp o s : Nat} (h : InInv fs ps n w wx i xf xn B bp o s) (hf : (fmOf fs i).f = xf) (he : (fmOf fs i).e = xf + xn) (hs : ¬ (s < n ∧ s < xf + xn)) :
    CovInv fs ps n w wx w.heap.size (i + 1) (fmOf fs (i + 1)).f := by
  have hhi := h.hi
  refine ⟨?_, h.inv.below⟩
  have hb := h.inv.block
  have e : ((List.range n).map fun t => ((covPart (fmOf fs) (pOf ps) i s t : Nat) : Int)) = (List.range n).map fun t => ((covPart (fmOf fs) (pOf ps) (i + 1) (fmOf fs (i + 1)).f t : Nat) : Int) := by
    refine List.map_congr_left fun t ht => ?_
    rw [covPart_start, covPart_done (n := n) (by omega) (by omega) (by simpa using ht)]
  rw [e] at hb
  exact hb

def CoverPost (fs : List FN) (ps : List Nat) (n : Nat) (w : World) (e : Ending) (w' : World) : Prop :=
  ∃ a c, e = .returned (.slice a n c) ∧ SliceAt 1 intR w' (.slice a n c) (covList fs ps n) ∧ Below w.heap.size w w'

set_option maxRecDepth 100000 in
set_option maxHeartbeats 4000000 in
theorem cover_any (v pv : Value) (fs : List FN) (ps : List Nat) (n : Nat) (w : World) (h : FormsAt w v fs) (hp : SliceAt 1 intR w pv (intsOf ps)) (hl : fs.length ≤ 60) (hok : ∀ x ∈ fs, x.ok) (hpl : ps.length = fs.length) (hp60 : ∀ p ∈ ps, p ≤ 60) (hn : n ≤ 400) :
    Calls Tryd.prog 40 #[v, .int .i64 (n : Nat), pv] w (CoverPost fs ps n w) := by
  obtain ⟨a, cap, rfl⟩ := h.len
  obtain ⟨ap, cp, rfl⟩ := hp.len
  have hil : (intsOf ps).length = fs.length := by simp [intsOf, hpl]
  have H := Lib.hid h
  have HP := Lib.hid hp
  have HOK := Lib.hid hok
  have HP60 := Lib.hid (pOf_le hp60)
  have hmk := make_ints w n (by omega)
  have hmi := madeInts w n
  have hbl : Below w.heap.size w (w.alloc (.cells (madeCells #[.int .i64 0] n) 3)) := (Below.refl _ _).alloc (Nat.le_refl _) _
  rw [replicate_map] at hmi
  have HMI := Lib.hid hmi
  have HBL := Lib.hid hbl
  have HPL := Lib.hid hpl
  have HIL := Lib.hid hil
  clear h hp hok hmi hbl hp60 hpl hil
  go_enter Tryd.func40, Tryd.ntmps40
  go_wp2_with fail
  clear hmk
  generalize w.alloc (.cells (madeCells #[.int .i64 0] n) 3) = w1 at *
  go_loopw [8, 9, 10, 15] (fun _ _ _ iv wr => ∃ i : Nat, iv = .int .i64 i ∧ i ≤ fs.length ∧ CovInv fs ps n w wr w.heap.size i (fmOf fs i).f) (fun _ _ _ iv _ => fs.length - (intOf iv).toNat)
  case atStart => exact ⟨0, rfl, Nat.zero_le _, by simpa [covPart_start, cov, pick, sm] using HMI.out, HBL.out⟩
  case round =>
    obtain ⟨i, rfl, hi, hI⟩ := hrel
    have HI := Lib.hid hI
    clear hI
    by_cases hlt : i < fs.length
    · obtain ⟨b, off, cap', hv, hcap, hb, hel⟩ := H.out.at (by omega)
      cases hv
      obtain ⟨bp, op, cpp, hvp, hcpp, hbp, help⟩ := SliceAt.at HP.out (by rw [HIL.out]; omega)
      cases hvp
      have hip : i < (intsOf ps).length := by rw [HIL.out]; exact hlt
      obtain ⟨e0, e1⟩ := hel i hlt
      have c0 := (below_cell HI.out.below hb).trans e0
      have c1 := (below_cell HI.out.below hb).trans e1
      have hpi : pOf ps i ≤ 60 := HP60.out i
      have e2 : w.cell? ⟨bp, op + i, none⟩ = some (.int .i64 (pOf ps i : Nat)) := by
        have hips : i < ps.length := by rw [HPL.out]; exact hlt
        have := ints_cell help i ((ps[i] : Nat) : Int) (by simp [intsOf, hips])
        rw [this]
        simp [pOf, hips]
      have c2 := (below_cell HI.out.below hbp).trans e2
      have hx := HOK.out fs[i] (List.getElem_mem hlt)
      have hF := fmOf_at hlt
      have hF1 : (fmOf fs i).f = fs[i].f := by rw [hF]
      have hF2 : (fmOf fs i).e = fs[i].f + fs[i].n := by rw [hF]
      generalize fs[i] = x at *
      obtain ⟨xf, xn⟩ := x
      obtain ⟨o1, o2, o3⟩ := hx
      simp only at c0 c1 hF1 hF2 o1 o2 o3
      have HF1 := Lib.hid hF1
      have HF2 := Lib.hid hF2
      have hbr : b < wr.heap.size := Nat.lt_of_lt_of_le hb HI.out.below.size
      have hbpr : bp < wr.heap.size := Nat.lt_of_lt_of_le hbp HI.out.below.size
      have hbB := HI.out.block.lt
      clear hel help e0 e1 e2 hF hF1 hF2
      go_upto_region 5 with fail
      obtain ⟨bx, bb⟩ := box1 wr #[.int .i64 (xf : Nat), .int .i64 (xn : Nat)] 76
      have BX := Lib.hid bx
      have hI2 : CovInv fs ps n w (wr.alloc (.cells #[.int .i64 (xf : Nat), .int .i64 (xn : Nat)] 76)) w.heap.size i xf := by
        have := HI.out
        rw [HF1.out] at this
        exact ⟨this.block.below bb hbB, below_up this.below bb this.below.size⟩
      have d2 := (below_cell bb hbpr).trans c2
      have HI2 := Lib.hid hI2
      have hwlt : w.heap.size < wr.heap.size := hbB
      have hbps : bp < (wr.alloc (.cells #[.int .i64 (xf : Nat), .int .i64 (xn : Nat)] 76)).heap.size := Nat.lt_of_lt_of_le hbpr bb.size
      generalize wr.alloc (.cells #[.int .i64 (xf : Nat), .int .i64 (xn : Nat)] 76) = wb at *
      generalize wr.heap.size = B at *
      have k0 : wb.cell? ⟨B, 0, none⟩ = some (.int .i64 (xf : Nat)) := BX.out.cell 0
      have k1 : wb.cell? ⟨B, 1, none⟩ = some (.int .i64 (xn : Nat)) := BX.out.cell 1
      have s0 : IntKind.i64.wrap ((xf : Int) + (xn : Int)) = (xf : Int) + (xn : Int) := IntWalk.i64_in _ (by omega)
      clear bx bb c0 c1 c2 hI2
      have hne1 : w.heap.size ≠ B := by omega
      have hne2 : w.heap.size ≠ bp := by omega
      go_wp2_with fail
      go_loopw [10] (fun sv wx => ∃ s : Nat, sv = .int .i64 s ∧ InInv fs ps n w wx i xf xn B bp (op + i) s) (fun sv _ => xf + xn - (intOf sv).toNat)
      case atStart => exact ⟨xf, rfl, Nat.le_refl _, by omega, .inr rfl, HI2.out, k0, k1, d2⟩
      case round =>
        obtain ⟨s, rfl, hJ⟩ := hrel
        clear k0 k1 d2
        have k0 := hJ.k0
        have k1 := hJ.k1
        have d2 := hJ.d2
        have hJlo := hJ.lo
        have hJhi := hJ.hi
        have hJn := hJ.hn
        have HJ := Lib.hid hJ
        clear hJ
        by_cases hs : s < n ∧ s < xf + xn
        · obtain ⟨hs1, hs2⟩ := hs
          obtain ⟨z0, z1⟩ := HJ.out.inv.block.cells s (by simpa using hs1)
          simp only [List.getElem_map, List.getElem_range] at z0
          have hcl : covPart (fmOf fs) (pOf ps) i s s ≤ 3660 := by
            have := cov_le HP60.out i s (F := fmOf fs)
            unfold covPart
            split <;> omega
          have hstep := fun (u : Int) hu => HJ.out.step (u := u) HF1.out hs1 hs2 hne1 hne2 hu
          have HS := Lib.hid hstep
          generalize covPart (fmOf fs) (pOf ps) i s s = cv at *
          generalize pOf ps i = pv at *
          have s1 : IntKind.i64.wrap ((cv : Int) + (pv : Int)) = (cv : Int) + (pv : Int) := IntWalk.i64_in _ (by omega)
          clear hstep
          go_upto_region 8 with fail
          go_region
          all_goals
            go_wp2
            go_roundw
            case rel => exact ⟨s + 1, by go_num, (HS.out _ rfl).drew⟩
            case measure => simp [intOf]; omega
        · have HS := Lib.hid hs
          go_wp2_with fail
          all_goals
            go_roundw
            case rel => exact ⟨i + 1, by go_num, by omega, HJ.out.out HF1.out HF2.out HS.out⟩
            case measure => simp [intOf]; omega
    · obtain rfl : i = fs.length := by omega
      go_wp2_with fail
      go_ret
      have hs := HI.out.block.slice (cap := n) (by simp)
      simp only [covPart_start] at hs
      exact ⟨_, _, rfl, by simpa [covList] using hs, HI.out.below⟩

end Go.Proofs.YtfoehmieklldkaaDoor
