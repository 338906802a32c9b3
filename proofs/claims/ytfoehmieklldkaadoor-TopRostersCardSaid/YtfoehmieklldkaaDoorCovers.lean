/- The walks of the law PlanLeast's own two functions: the sum, and whether a plan covers. -/
import Derived.Test.YtfoehmieklldkaaDoorSpare
import Derived.Laws.EntriesVeiled
namespace Go.Proofs.YtfoehmieklldkaaDoor
open Go.RowKit

theorem sum_snoc (l : List Nat) (i : Nat) (h : i < l.length) : (l.take (i + 1)).sum = (l.take i).sum + l[i] := by
  rw [List.take_succ_eq_append_getElem h, List.sum_append]
  simp
theorem sum_bd : ∀ (l : List Nat), (∀ x ∈ l, x ≤ 10000) → l.sum ≤ l.length * 10000
  | [], _ => by simp
  | x :: r, h => by
    have h1 := sum_bd r (fun y hy => h y (List.mem_cons_of_mem _ hy))
    have h2 := h x List.mem_cons_self
    rw [List.sum_cons, List.length_cons, Nat.succ_mul]
    omega

set_option maxRecDepth 100000 in
theorem sum_any (v : Value) (ps : List Nat) (w : World) (h : NatsAt w v ps) (hl : ps.length ≤ 1000) (hb : ∀ p ∈ ps, p ≤ 10000) :
    Calls Tryd.prog 12 #[v] w fun e w' => e = .returned (.int .i64 ((ps.sum : Nat) : Int)) ∧ w = w' := by
  obtain ⟨a, cap, rfl⟩ := h.len
  have H := Lib.hid h
  have HB := Lib.hid hb
  clear h hb
  go_enter Tryd.func12, Tryd.ntmps12
  go_wp2_with fail
  go_loop [3, 5, 8] (fun nv _ iv => ∃ i : Nat, i ≤ ps.length ∧ iv = .int .i64 i ∧ nv = .int .i64 (((ps.take i).sum : Nat) : Int)) (fun _ _ iv => ps.length - (intOf iv).toNat)
  case atStart => exact ⟨0, Nat.zero_le _, rfl, rfl⟩
  case round =>
    obtain ⟨i, hi, rfl, rfl⟩ := hrel
    by_cases hlt : i < ps.length
    · obtain ⟨b, off, cap', hv, hb, hel⟩ := H.out.at (by omega)
      cases hv
      have c0 := hel i hlt
      have hs := sum_snoc ps i hlt
      have h1 := sum_bd (ps.take i) (fun x hx => HB.out x (List.mem_of_mem_take hx))
      have h2 : (ps.take i).length ≤ 1000 := by rw [List.length_take]; omega
      have h3 := HB.out _ (List.getElem_mem hlt)
      have h4 : (ps.take i).length * 10000 ≤ 1000 * 10000 := Nat.mul_le_mul_right _ h2
      have HS := Lib.hid hs
      generalize ps[i] = x at *
      generalize (ps.take i).sum = sm0 at *
      have q1 : IntKind.i64.wrap ((sm0 : Int) + (x : Int)) = (sm0 : Int) + (x : Int) := IntWalk.i64_in _ (by omega)
      clear hel hs h1 h2 h4
      go_wp2_with fail
      go_round
      case rel => exact ⟨i + 1, by omega, by go_num, by rw [HS.out]; go_num⟩
      case measure => simp [intOf]; omega
    · obtain rfl : i = ps.length := by omega
      rw [List.take_length]
      go_wp2_with fail
      go_ret
      exact ⟨rfl, rfl⟩

def qOf (p : List Int) (i : Nat) : Nat := (p.getD i 0).toNat
theorem qOf_ints (ps : List Nat) : qOf (intsOf ps) = pOf ps := by
  funext i
  unfold qOf pOf intsOf
  by_cases h : i < ps.length
  · simp [h]
  · simp [List.getElem?_eq_none (show ps.length ≤ i by omega)]
def allB (f : Nat → Bool) (n : Nat) : Bool := (List.range n).all f
theorem allB_iff {f : Nat → Bool} {n : Nat} : allB f n = true ↔ ∀ i, i < n → f i = true := by simp [allB]
/-- whether a plan covers -/
def coversB (fs : List FN) (ds : List Nat) (p : List Int) : Bool := decide (planE fs.length p = 0) && allB (fun s => decide (pOf ds s ≤ cov (fmOf fs) (qOf p) fs.length s)) ds.length
theorem short_zero {ds cs : List Nat} : (shortL ds cs).sum = 0 ↔ ∀ s, s < ds.length → pOf ds s ≤ pOf cs s := by
  unfold shortL
  rw [show ((List.range ds.length).map fun i => ds.getD i 0 - cs.getD i 0).sum = sm (fun i => pOf ds i - pOf cs i) ds.length from ?_]
  · constructor
    · intro h s hs
      have := sm_eq_zero h s hs
      omega
    · intro h
      rw [sm_congr (h := fun _ => 0) (fun i hi => by have := h i hi; omega), sm_zero]
  · generalize ds.length = n
    induction n with
    | zero => rfl
    | succ n ih => rw [List.range_succ, List.map_append, List.sum_append, ih]; simp [sm, pOf]

theorem covList_ints (fs : List FN) (ps : List Nat) (n : Nat) : covList fs ps n = intsOf ((List.range n).map fun t => cov (fmOf fs) (pOf ps) fs.length t) := by simp [covList, intsOf]

/-- what the law's function for 'covers' has captured -/
structure Capt (w : World) (fs : List FN) (ds : List Nat) (b1 b2 b3 : Nat) : Prop where
  forms : ∃ a c, w.cell? ⟨b1, 0, none⟩ = some (.slice a fs.length c) ∧ FormsAt w (.slice a fs.length c) fs
  dem : ∃ a c, w.cell? ⟨b2, 0, none⟩ = some (.slice a ds.length c) ∧ NatsAt w (.slice a ds.length c) ds
  sum : w.cell? ⟨b3, 0, none⟩ = some (.func (.func 12) #[] #[])
  l1 : b1 < w.heap.size
  l2 : b2 < w.heap.size
  l3 : b3 < w.heap.size
theorem Capt.below {w w' : World} {fs : List FN} {ds : List Nat} {b1 b2 b3 : Nat} (h : Capt w fs ds b1 b2 b3) (hb : Below w.heap.size w w') : Capt w' fs ds b1 b2 b3 := by
  obtain ⟨a, c, h1, h2⟩ := h.forms
  obtain ⟨a', c', h3, h4⟩ := h.dem
  exact ⟨⟨a, c, (below_cell hb h.l1).trans h1, h2.below hb⟩, ⟨a', c', (below_cell hb h.l2).trans h3, h4.below hb⟩, (below_cell hb h.l3).trans h.sum, Nat.lt_of_lt_of_le h.l1 hb.size, Nat.lt_of_lt_of_le h.l2 hb.size, Nat.lt_of_lt_of_le h.l3 hb.size⟩

set_option maxRecDepth 100000 in
set_option maxHeartbeats 2000000 in
theorem covers_any (pv : Value) (fs : List FN) (ds : List Nat) (p : List Int) (b1 b2 b3 : Nat) (w : World) (hc : Capt w fs ds b1 b2 b3) (hp : SliceAt 1 intR w pv p) (hl : fs.length ≤ 60) (hok : ∀ x ∈ fs, x.ok) (hfe : formsE (fs.map FN.pair) = 0) (hdl : ds.length ≤ 400) (hd60 : ∀ d ∈ ds, d ≤ 60) :
    Calls Tryd.prog 13 #[pv, .pointer (some ⟨b1, 0, none⟩), .pointer (some ⟨b2, 0, none⟩), .pointer (some ⟨b3, 0, none⟩)] w fun e w' => e = .returned (.bool (coversB fs ds p)) ∧ Below w.heap.size w w' := by
  obtain ⟨a1, c1, k1, hf⟩ := hc.forms
  obtain ⟨a2, c2, k2, hd⟩ := hc.dem
  have k3 := hc.sum
  obtain ⟨ap, cp, rfl⟩ := hp.len
  have HC := Lib.hid hc
  have HF := Lib.hid hf
  have HD := Lib.hid hd
  have HP := Lib.hid hp
  have HOK := Lib.hid hok
  have HFE := Lib.hid hfe
  have HD60 := Lib.hid hd60
  clear hc hf hd hp hok hfe hd60
  go_enter Tryd.func13, Tryd.ntmps13
  go_wp2_with fail
  refine (CoverX_any _ _ fs p ds.length w HF.out HP.out hl HOK.out HFE.out hdl).mono ?_
  rintro e w1 ⟨a3, m3, c3, code, rfl, hb1, hcase⟩
  have HC1 := Lib.hid (HC.out.below hb1)
  have HD1 := Lib.hid (HD.out.below hb1)
  have HB1 := Lib.hid hb1
  rcases hcase with ⟨hcode, hpe⟩ | ⟨rfl, rfl, ps, rfl, hpl, hp60, hs⟩
  · have hcb : coversB fs ds p = false := by
      unfold coversB
      rw [show decide (planE fs.length p = 0) = false by simpa using hpe]
      rfl
    have HCB := Lib.hid hcb
    have q0 : (code == 0) = false := by simpa using hcode
    have q1 : (code != 0) = true := by simpa using hcode
    clear hcode hpe hcb hb1 k1 k2 k3
    go_wp2_with fail
    go_ret
    exact ⟨by rw [HCB.out]; rfl, HB1.out⟩
  · rw [covList_ints] at hs
    have HS := Lib.hid hs
    have hcb : coversB fs ds (intsOf ps) = decide ((shortL ds ((List.range ds.length).map fun t => cov (fmOf fs) (pOf ps) fs.length t)).sum = 0) := by
      have e1 : planE fs.length (intsOf ps) = 0 := by rw [← hpl]; exact planE_ok hp60
      unfold coversB
      rw [show decide (planE fs.length (intsOf ps) = 0) = true by simpa using e1, Bool.true_and, Bool.eq_iff_iff, allB_iff, decide_eq_true_eq, short_zero]
      constructor
      · intro h s hs'
        have := of_decide_eq_true (h s hs')
        rw [qOf_ints] at this
        rwa [pOf_range hs']
      · intro h s hs'
        have := h s hs'
        rw [pOf_range hs'] at this
        rw [qOf_ints]
        simpa using this
    have HCB := Lib.hid hcb
    have h36 : ∀ c ∈ ((List.range ds.length).map fun t => cov (fmOf fs) (pOf ps) fs.length t), c ≤ 3600 := by
      intro c hc'
      obtain ⟨t, _, rfl⟩ := List.mem_map.1 hc'
      have := cov_le (pOf_le hp60) fs.length t (F := fmOf fs)
      omega
    have H36 := Lib.hid h36
    have hcl : ((List.range ds.length).map fun t => cov (fmOf fs) (pOf ps) fs.length t).length = ds.length := by simp
    have HCL := Lib.hid hcl
    have hsl : ∀ x ∈ shortL ds ((List.range ds.length).map fun t => cov (fmOf fs) (pOf ps) fs.length t), x ≤ 10000 := by
      intro x hx
      obtain ⟨t, ht, rfl⟩ := List.mem_map.1 hx
      have := pOf_le HD60.out t
      unfold pOf at this
      omega
    have HSL := Lib.hid hsl
    generalize ((List.range ds.length).map fun t => cov (fmOf fs) (pOf ps) fs.length t) = cs at *
    have k1 := (below_cell hb1 HC.out.l1).trans k1
    have k2 := (below_cell hb1 HC.out.l2).trans k2
    have k3 := (below_cell hb1 HC.out.l3).trans k3
    clear hs hcb h36 hcl hsl hb1 hpl hp60
    go_wp2_with fail
    refine (Short_any _ _ ds cs w1 HD1.out HS.out hdl HCL.out HD60.out H36.out).mono ?_
    rintro e w2 ⟨a4, c4, rfl, hs4, hb2⟩
    have k3 := (below_cell hb2 HC1.out.l3).trans k3
    have HS4 := Lib.hid hs4
    have HB2 := Lib.hid (below_up HB1.out hb2 HB1.out.size)
    clear hs4 hb2
    go_wp2_with fail
    refine (sum_any _ _ w2 HS4.out (by rw [shortL_length]; omega) HSL.out).mono ?_
    rintro e w3 ⟨rfl, rfl⟩
    go_wp2_with fail
    go_ret
    refine ⟨?_, HB2.out⟩
    rw [HCB.out]
    generalize (shortL ds cs).sum = q at *
    refine congrArg (fun b => Ending.returned (Value.bool b)) ?_
    rw [Bool.eq_iff_iff]
    simp only [beq_iff_eq, decide_eq_true_eq]
    omega

end Go.Proofs.YtfoehmieklldkaaDoor
