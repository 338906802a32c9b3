/- The walks of staff.Cover and staff.Short, where the forms are right. -/
import Derived.Test.YtfoehmieklldkaaDoorCover
namespace Go.Proofs.YtfoehmieklldkaaDoor
open Go.RowKit

theorem numsE_ok {m : Nat} : ∀ {ps : List Nat}, (∀ p ∈ ps, p ≤ m) → numsE m (intsOf ps) = 0
  | [], _ => rfl
  | p :: r, h => by
    have h1 := h p List.mem_cons_self
    show (if 0 ≤ (p : Int) ∧ (p : Int) ≤ (m : Int) then numsE m (intsOf r) else 2) = 0
    rw [if_pos (by omega)]
    exact numsE_ok fun q hq => h q (List.mem_cons_of_mem _ hq)
theorem numsE_nat {m : Nat} : ∀ {l : List Int}, numsE m l = 0 → ∃ ps : List Nat, l = intsOf ps ∧ ∀ p ∈ ps, p ≤ m
  | [], _ => ⟨[], rfl, fun p h => by cases h⟩
  | n :: r, h => by
    simp only [numsE] at h
    split at h
    · rename_i g
      obtain ⟨ps, e, hp⟩ := numsE_nat h
      refine ⟨n.toNat :: ps, ?_, ?_⟩
      · show n :: r = ((n.toNat : Nat) : Int) :: intsOf ps
        rw [e, Int.toNat_of_nonneg g.1]
      · intro p hp'
        rw [List.mem_cons] at hp'
        rcases hp' with rfl | hp'
        · omega
        · exact hp p hp'
    · cases h
theorem intsOf_length (ps : List Nat) : (intsOf ps).length = ps.length := by simp [intsOf]
theorem planE_nat {n : Nat} {p : List Int} (h : planE n p = 0) : ∃ ps : List Nat, p = intsOf ps ∧ ps.length = n ∧ ∀ q ∈ ps, q ≤ 60 := by
  unfold planE at h
  split at h
  · rename_i g
    obtain ⟨ps, e, hp⟩ := numsE_nat (m := 60) h
    exact ⟨ps, e, by rw [← g, e, intsOf_length], hp⟩
  · cases h
theorem planE_ok {ps : List Nat} (h : ∀ q ∈ ps, q ≤ 60) : planE ps.length (intsOf ps) = 0 := by
  unfold planE
  rw [if_pos (intsOf_length ps)]
  exact numsE_ok (m := 60) h
theorem demandE_ok {ps : List Nat} {m : Nat} (hl : ps.length ≤ 400) (h : ∀ q ∈ ps, q ≤ m) : demandE (intsOf ps) m = 0 := by
  unfold demandE
  rw [intsOf_length, if_neg (by omega)]
  exact numsE_ok h
theorem demandE_nat {m : Nat} {p : List Int} (h : demandE p m = 0) : ∃ ps : List Nat, p = intsOf ps ∧ ps.length ≤ 400 ∧ ∀ q ∈ ps, q ≤ m := by
  unfold demandE at h
  split at h
  · cases h
  · rename_i g
    obtain ⟨ps, e, hp⟩ := numsE_nat h
    exact ⟨ps, e, by rw [e, intsOf_length] at g; omega, hp⟩
/-- a slice of whole numbers -/
def NatsAt (w : World) (v : Value) (ps : List Nat) : Prop := SliceAt 1 intR w v (intsOf ps)
theorem NatsAt.below {w w' : World} {v : Value} {ps : List Nat} (h : NatsAt w v ps) (hb : Below w.heap.size w w') : NatsAt w' v ps := SliceAt.stable intR_stable h hb
theorem NatsAt.len {w : World} {v : Value} {ps : List Nat} (h : NatsAt w v ps) : ∃ a c, v = .slice a ps.length c := by
  obtain ⟨a, c, e⟩ := SliceAt.len h
  exact ⟨a, c, by rw [e, intsOf_length]⟩
theorem NatsAt.at {w : World} {v : Value} {ps : List Nat} (h : NatsAt w v ps) (hl : 0 < ps.length) : ∃ b off cap, v = .slice (some ⟨b, off, none⟩) ps.length cap ∧ b < w.heap.size ∧
    ∀ i (hi : i < ps.length), w.cell? ⟨b, off + i, none⟩ = some (.int .i64 (ps[i] : Nat)) := by
  obtain ⟨b, off, cap, hv, hc, hb, hel⟩ := SliceAt.at h (by simpa [intsOf] using hl)
  rw [intsOf_length] at hv hc
  refine ⟨b, off, cap, hv, hb, fun i hi => ?_⟩
  have := ints_cell hel i ((ps[i] : Nat) : Int) (by simp [intsOf, hi])
  exact this

def CoverXPost (fs : List FN) (p : List Int) (n : Nat) (w : World) (e : Ending) (w' : World) : Prop :=
  ∃ a m c code, e = .returned (.tuple #[.slice a m c, .int .i64 code]) ∧ Below w.heap.size w w' ∧
    ((code ≠ 0 ∧ planE fs.length p ≠ 0) ∨ (code = 0 ∧ m = n ∧ ∃ ps, p = intsOf ps ∧ ps.length = fs.length ∧ (∀ q ∈ ps, q ≤ 60) ∧ SliceAt 1 intR w' (.slice a m c) (covList fs ps n)))

set_option maxRecDepth 100000 in
set_option maxHeartbeats 2000000 in
theorem CoverX_any (v pv : Value) (fs : List FN) (p : List Int) (n : Nat) (w : World) (h : FormsAt w v fs) (hp : SliceAt 1 intR w pv p) (hl : fs.length ≤ 60) (hok : ∀ x ∈ fs, x.ok) (hfe : formsE (fs.map FN.pair) = 0) (hn : n ≤ 400) :
    Calls Tryd.prog 14 #[v, .int .i64 (n : Nat), pv] w (CoverXPost fs p n w) := by
  have hcf := CheckForms_any v (fs.map FN.pair) w h
  rw [hfe] at hcf
  have HCF := Lib.hid hcf
  obtain ⟨a, cap, rfl⟩ := h.len
  obtain ⟨ap, cp, rfl⟩ := hp.len
  have H := Lib.hid h
  have HP := Lib.hid hp
  have HOK := Lib.hid hok
  clear h hp hok hfe hcf
  go_enter Tryd.func14, Tryd.ntmps14
  go_wp2_with fail
  refine HCF.out.mono ?_
  rintro e w1 ⟨rfl, hb1⟩
  have HB1 := Lib.hid hb1
  go_wp2_with fail
  refine (checkPlan_any a fs.length cap _ p w1 (HP.out.stable intR_stable hb1) (by omega)).mono ?_
  rintro e w2 ⟨rfl, rfl⟩
  clear hb1
  go_wp2_with fail
  refine (or_any _ [0, planE fs.length p] _ (ints2_at w1 _ _ _) (by simp)).mono ?_
  rintro e w2 ⟨rfl, rfl⟩
  have ho : orI [0, planE fs.length p] = planE fs.length p := by rw [orI2, if_pos rfl]
  rw [ho]
  have hb2 : Below w.heap.size w (w1.alloc (.cells #[.int .i64 0, .int .i64 (planE fs.length p)] 27)) := HB1.out.alloc HB1.out.size _
  clear ho
  by_cases hpe : planE fs.length p = 0
  · rw [hpe] at hb2 ⊢
    obtain ⟨ps, rfl, hpl, hp60⟩ := planE_nat hpe
    have HH := Lib.hid (And.intro (H.out.below hb2) (HP.out.stable intR_stable hb2))
    have HB2 := Lib.hid hb2
    have HPL := Lib.hid hpl
    have HP60 := Lib.hid hp60
    have d1 : (0 : Int) ≤ (n : Int) := by omega
    have d2 : (n : Int) ≤ 400 := by omega
    have d3 : (decide ((0 : Int) ≤ (n : Int)) && decide ((n : Int) ≤ 400)) = true := by simp [d2]
    clear hpl hp60 hpe hb2
    go_wp2_with fail
    refine (within_any _ _ _ _).mono ?_
    rintro e w' ⟨rfl, rfl⟩
    rw [d3]
    go_wp2_with fail
    refine (cover_any _ _ fs ps n _ HH.out.1 HH.out.2 hl HOK.out HPL.out HP60.out hn).mono ?_
    rintro e w3 ⟨a3, c3, rfl, hs3, hb3⟩
    have HS3 := Lib.hid hs3
    have HB3 := Lib.hid (below_up HB2.out hb3 HB2.out.size)
    clear hs3 hb3
    go_wp2_with fail
    go_ret2
    exact ⟨_, _, _, _, rfl, HB3.out, .inr ⟨rfl, rfl, ps, rfl, HPL.out, HP60.out, HS3.out⟩⟩
  · have HPE := Lib.hid (show Hid (planE fs.length p ≠ 0) from hpe)
    generalize hcode : planE fs.length p = code at hpe ⊢ hb2
    have HCO := Lib.hid hcode
    clear hcode
    have hq0 : (code == 0) = false := by simpa using hpe
    have hq1 : (code != 0) = true := by simpa using hpe
    clear hpe
    go_wp2_with fail
    go_ret2
    exact ⟨_, _, _, _, rfl, hb2, .inl ⟨by rw [← HCO.out]; exact HPE.out.out, HPE.out.out⟩⟩

/-- how many are missing -/
def shortL (ds cs : List Nat) : List Nat := (List.range ds.length).map fun i => ds.getD i 0 - cs.getD i 0
theorem shortL_length (ds cs : List Nat) : (shortL ds cs).length = ds.length := by simp [shortL]
structure ShInv (ds cs : List Nat) (w wr : World) (v : Value) (i : Nat) : Prop where
  le : i ≤ ds.length
  own : wr.ownsRow w.heap.size 3 1 v i (((shortL ds cs).take i).map fun n => Value.int .i64 (n : Nat))
  below : Below w.heap.size w wr
def ShortPost (ds cs : List Nat) (w : World) (e : Ending) (w' : World) : Prop :=
  ∃ a c, e = .returned (.tuple #[.slice a ds.length c, .int .i64 0]) ∧ NatsAt w' (.slice a ds.length c) (shortL ds cs) ∧ Below w.heap.size w w'

set_option maxRecDepth 100000 in
set_option maxHeartbeats 2000000 in
theorem Short_any (v cv : Value) (ds cs : List Nat) (w : World) (h : NatsAt w v ds) (hc : NatsAt w cv cs) (hl : ds.length ≤ 400) (hcl : cs.length = ds.length) (h60 : ∀ d ∈ ds, d ≤ 60) (hc36 : ∀ c ∈ cs, c ≤ 3600) :
    Calls Tryd.prog 15 #[v, cv] w (ShortPost ds cs w) := by
  have hd1 := checkDemand_any v (intsOf ds) 60 w h
  have hd2 := checkDemand_any cv (intsOf cs) 3600 w hc
  have e60 : demandE (intsOf ds) 60 = 0 := demandE_ok (m := 60) hl h60
  have e36 : demandE (intsOf cs) 3600 = 0 := demandE_ok (m := 3600) (by omega) hc36
  rw [e60] at hd1
  rw [e36] at hd2
  clear e60 e36
  have HD1 := Lib.hid hd1
  obtain ⟨a, cap, rfl⟩ := h.len
  obtain ⟨ac, cc, rfl⟩ := hc.len
  have hne : ((ds.length : Int) != (cs.length : Int)) = false := by simp; omega
  have H := Lib.hid h
  have HC := Lib.hid hc
  have H60 := Lib.hid h60
  have HC36 := Lib.hid hc36
  have HCL := Lib.hid hcl
  clear h hc hd1 h60 hc36 hcl
  have HD2 := Lib.hid hd2
  clear hd2
  go_enter Tryd.func15, Tryd.ntmps15
  go_wp2_with fail
  refine HD1.out.mono ?_
  rintro e w' ⟨rfl, rfl⟩
  go_wp2_with fail
  refine HD2.out.mono ?_
  rintro e w' ⟨rfl, rfl⟩
  go_wp2_with fail
  refine (or_any _ [0, 0] _ (ints2_at w _ _ _) (by simp)).mono ?_
  rintro e w2 ⟨rfl, rfl⟩
  have ho : orI [0, 0] = 0 := by rw [orI2, if_pos rfl]
  rw [ho]
  have hb2 : Below w.heap.size w (w.alloc (.cells #[.int .i64 0, .int .i64 0] 27)) := (Below.refl _ _).alloc (Nat.le_refl _) _
  have HB2 := Lib.hid hb2
  clear ho hb2
  generalize w.alloc (.cells #[.int .i64 0, .int .i64 0] 27) = w2 at *
  go_wp2_with fail
  go_loopw [7, 8, 9, 26] (fun ov _ _ iv wr => ∃ i : Nat, iv = .int .i64 i ∧ ShInv ds cs w wr ov i) (fun _ _ _ iv _ => ds.length - (intOf iv).toNat)
  case atStart => exact ⟨0, rfl, Nat.zero_le _, World.ownsRow_nil _ _ _ _, HB2.out⟩
  case round =>
    obtain ⟨i, rfl, hI⟩ := hrel
    have hi := hI.le
    have HI := Lib.hid hI
    clear hI
    by_cases hlt : i < ds.length
    · obtain ⟨b, off, cap', hv, hb, hel⟩ := H.out.at (by omega)
      cases hv
      obtain ⟨b2, off2, cap2, hv2, hb2, hel2⟩ := HC.out.at (by rw [HCL.out]; omega)
      cases hv2
      have hltc : i < cs.length := by rw [HCL.out]; exact hlt
      have c0 := (below_cell HI.out.below hb).trans (hel i hlt)
      have c1 := (below_cell HI.out.below hb2).trans (hel2 i hltc)
      have q0 := H60.out _ (List.getElem_mem hlt)
      have q1 := HC36.out _ (List.getElem_mem hltc)
      have hsh : (shortL ds cs).take (i + 1) = (shortL ds cs).take i ++ [ds[i] - cs[i]] := by
        rw [List.take_succ_eq_append_getElem (by rw [shortL_length]; exact hlt)]
        simp [shortL, hlt, hltc]
      have HSH := Lib.hid hsh
      generalize ds[i] = d at *
      generalize cs[i] = c at *
      have s1 : IntKind.i64.wrap ((d : Int) - (c : Int)) = (d : Int) - (c : Int) := IntWalk.i64_in _ (by omega)
      have hwb := HI.out.below
      have hB := hwb.size
      clear hel hel2 hsh
      rcases Nat.lt_or_ge c d with g | g
      · have e : ((d - c : Nat) : Int) = (d : Int) - (c : Int) := by omega
        have E := Lib.hid e
        clear e
        go_wp2_with (at_builtin; go_must (refine append_one rfl _ _ 34 rfl w.heap.size 3 (.int .i64 0) 1 8 Tryd.underlying34 infoInt rfl (by decide) w wr _ _ _ rfl HI.out.own _ rfl rfl rfl (by simp [Value.oneCell']) (by omega) (by omega) hB hwb ?_); intro v' w6 ho hb6 _ _)
        go_roundw
        case rel => exact ⟨i + 1, by go_num, by omega, by rw [HSH.out, List.map_append, List.map_singleton, E.out]; exact ho, hb6⟩
        case measure => simp [intOf]; omega
      · have e : ((d - c : Nat) : Int) = 0 := by omega
        have E := Lib.hid e
        clear e
        go_wp2_with (at_builtin; go_must (refine append_one rfl _ _ 34 rfl w.heap.size 3 (.int .i64 0) 1 8 Tryd.underlying34 infoInt rfl (by decide) w wr _ _ _ rfl HI.out.own _ rfl rfl rfl (by simp [Value.oneCell']) (by omega) (by omega) hB hwb ?_); intro v' w6 ho hb6 _ _)
        go_roundw
        case rel => exact ⟨i + 1, by go_num, by omega, by rw [HSH.out, List.map_append, List.map_singleton, E.out]; exact ho, hb6⟩
        case measure => simp [intOf]; omega
    · obtain rfl : i = ds.length := by omega
      have hown := HI.out.own
      obtain ⟨a', c', rfl⟩ := owns_slice hown
      rw [List.take_of_length_le (by rw [shortL_length]; exact Nat.le_refl _)] at hown
      have hsl : NatsAt wr (.slice a' ds.length c') (shortL ds cs) := slice_of_owns1 (e := 3) (B := w.heap.size) (fun n => Value.int .i64 n) (by rw [intsOf_length, shortL_length]; unfold intsOf; rw [List.map_map]; exact hown) (fun _ _ => rfl)
      have HSL := Lib.hid hsl
      clear hown hsl
      go_wp2_with fail
      go_ret2
      exact ⟨_, _, rfl, HSL.out, HI.out.below⟩

end Go.Proofs.YtfoehmieklldkaaDoor
