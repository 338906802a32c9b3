/- slices.BinarySearchFunc at terms; how terms and postings are read cell by cell. -/
import Derived.Test.YtfjcbclakgidkaaIaPost
namespace Go.Proofs.Ytfjcbclakgidkaa
open Go.RowKit

theorem TmL.at {w : World} {v : Value} {L : List TmD} (h : TmL w v L) (hl : 0 < L.length) : ∃ b off cap, v = .slice (some ⟨b, off, none⟩) L.length cap ∧ L.length ≤ cap ∧ b < w.heap.size ∧ ∀ i (h : i < L.length), ∃ lv, w.cell? ⟨b, off + i * 2, none⟩ = some (.string (bs L[i].1)) ∧ w.cell? ⟨b, off + i * 2 + 1, none⟩ = some lv ∧ PoL w lv L[i].2 := by
  obtain ⟨A, rfl, ⟨h2, _⟩, h3⟩ := h
  obtain ⟨b, off, cap, hv, hc, hb, hel⟩ := SliceAt.at h2 (by simpa using hl)
  refine ⟨b, off, cap, by rw [hv]; simp, by simpa using hc, hb, fun i hi => ?_⟩
  have hi2 : i < A.length := by simpa using hi
  obtain ⟨cs, ⟨h1, h4⟩, h5⟩ := hel i (by simpa using hi2)
  have h5 : cs = encT A[i] := by
    have : cs = (A.map encT)[i]'(by simpa using hi2) := h5
    rw [this, List.getElem_map]
  subst h5
  have e0 := h4 0 (by show 0 < 2; decide)
  have e1 := h4 1 (by show 1 < 2; decide)
  refine ⟨A[i].2, ?_, e1, ?_⟩
  · rw [List.getElem_map]; exact e0
  · rw [List.getElem_map]; exact h3 _ (List.getElem_mem _)
theorem PoL.at {w : World} {v : Value} {L : List PoD} (h : PoL w v L) (hl : 0 < L.length) : ∃ b off cap, v = .slice (some ⟨b, off, none⟩) L.length cap ∧ L.length ≤ cap ∧ b < w.heap.size ∧ ∀ i (h : i < L.length), ∃ tv bv, (w.cell? ⟨b, off + i * 3, none⟩ = some (.int .i64 L[i].1) ∧ w.cell? ⟨b, off + i * 3 + 1, none⟩ = some tv ∧ w.cell? ⟨b, off + i * 3 + 2, none⟩ = some bv) ∧ IntsAt w tv L[i].2.1 ∧ IntsAt w bv L[i].2.2 := by
  obtain ⟨A, rfl, ⟨h2, _⟩, h3⟩ := h
  obtain ⟨b, off, cap, hv, hc, hb, hel⟩ := SliceAt.at h2 (by simpa using hl)
  refine ⟨b, off, cap, by rw [hv]; simp, by simpa using hc, hb, fun i hi => ?_⟩
  have hi2 : i < A.length := by simpa using hi
  obtain ⟨cs, ⟨h1, h4⟩, h5⟩ := hel i (by simpa using hi2)
  have h5 : cs = encP A[i] := by
    have : cs = (A.map encP)[i]'(by simpa using hi2) := h5
    rw [this, List.getElem_map]
  subst h5
  have e0 := h4 0 (by show 0 < 3; decide)
  have e1 := h4 1 (by show 1 < 3; decide)
  have e2 := h4 2 (by show 2 < 3; decide)
  have ho := h3 _ (List.getElem_mem hi2)
  refine ⟨A[i].2.1, A[i].2.2, ⟨?_, e1, e2⟩, ?_, ?_⟩
  · rw [List.getElem_map]; exact e0
  · rw [List.getElem_map]; exact ho.1
  · rw [List.getElem_map]; exact ho.2
structure BsInv (L : List TmD) (s : List UInt8) (w wr : World) (i j : Nat) : Prop where
  le : i ≤ j
  hi : j ≤ L.length
  lo : ∀ q (h : q < L.length), q < i → L[q].1 < s
  up : ∀ q (h : q < L.length), j ≤ q → ¬ L[q].1 < s
  below : Below w.heap.size w wr
def FoundT (L : List TmD) (s : List UInt8) (k : Nat) (b : Bool) : Prop := (b = true → ∃ h : k < L.length, L[k].1 = s) ∧ (b = false → ∀ x ∈ L, x.1 ≠ s)
theorem asc_get {L : List TmD} (h : Asc (fun t : TmD => t.1) L) {i j : Nat} (hi : i < L.length) (hj : j < L.length) (hij : i < j) : L[i].1 < L[j].1 := List.pairwise_iff_getElem.1 h i j hi hj hij
set_option maxRecDepth 100000 in
set_option maxHeartbeats 8000000 in
theorem bsf_any (v lt : Value) (L : List TmD) (s : List UInt8) (w : World) (h : TmL w v L) (hlt : lt.oneCell' = true) (hl : L.length ≤ 100000000) (hr : Asc (fun t : TmD => t.1) L) :
    Calls Try.prog 32 #[v, .agg #[.string (bs s), lt], .func (.func 33) #[] #[]] w fun e w' => (∃ k b, e = .returned (.tuple #[.int .i64 (k : Nat), .bool b]) ∧ FoundT L s k b) ∧ Below w.heap.size w w' := by
  obtain ⟨a, cap, rfl⟩ := TmL.len h
  obtain ⟨T, hTe⟩ : ∃ T, T = w.heap.size := ⟨_, rfl⟩
  have hx := Has.new w #[.string (bs s), lt] 54
  have hbx := (Below.refl w.heap.size w).alloc (Nat.le_refl _) (.cells #[.string (bs s), lt] 54)
  have H := Lib.hid (h.below hbx)
  have HR := Lib.hid hr
  have hT1 : T < (w.alloc (.cells #[.string (bs s), lt] 54)).heap.size := by rw [hTe]; exact hx.lt
  have hI0 : BsInv L s w (w.alloc (.cells #[.string (bs s), lt] 54)) 0 L.length := ⟨Nat.zero_le _, Nat.le_refl _, fun q _ h => by omega, fun q _ h => by omega, hbx⟩
  go_enter Try.func32, Try.ntmps32
  go_upto_region 1 with fail
  rw [← hTe] at hx ⊢
  have HX := Lib.hid hx
  have HI0 := Lib.hid hI0
  clear h hr hx hbx hI0 hTe
  generalize w.alloc (.cells #[.string (bs s), lt] 54) = w0 at *
  go_wp2_with fail
  go_loopw [9, 10] (fun iv jv wr => ∃ i j : Nat, iv = .int .i64 i ∧ jv = .int .i64 j ∧ BsInv L s w wr i j ∧ Below w0.heap.size w0 wr) (fun iv jv _ => (intOf jv).toNat - (intOf iv).toNat)
  case atStart => exact ⟨0, L.length, rfl, rfl, HI0.out, Below.refl _ _⟩
  case round =>
    obtain ⟨i, j, rfl, rfl, hI, hb00⟩ := hrel
    have HI := Lib.hid hI
    have HB00 := Lib.hid hb00
    have hij := hI.le
    have hjl := hI.hi
    have t0 : wr.cell? ⟨T, 0, none⟩ = some (.string (bs s)) := (below_cell hb00 hT1).trans (HX.out.cell 0)
    have t1 : wr.cell? ⟨T, 1, none⟩ = some lt := (below_cell hb00 hT1).trans (HX.out.cell 1)
    have hT : T < wr.heap.size := Nat.lt_of_lt_of_le hT1 hb00.size
    clear hI HI0 hb00
    by_cases hlt : i < j
    · have qk : decide ((i : Int) < (j : Int)) = true := decide_eq_true (by omega)
      have s1 : IntKind.i64.wrap ((i : Int) + (j : Int)) = ((i + j : Nat) : Int) := by rw [IntWalk.i64_in _ (by omega)]; omega
      obtain ⟨h, hh⟩ : ∃ h, h = (i + j) / 2 := ⟨_, rfl⟩
      have e : ((i : Int) + (j : Int)) / 2 = (h : Int) := by omega
      have hm : h < L.length := by omega
      obtain ⟨b, off, cap', hv, _, hb0, hel⟩ := TmL.at H.out (by omega)
      simp only [Value.slice.injEq] at hv
      obtain ⟨rfl, _, rfl⟩ := hv
      have hb : b < wr.heap.size := Nat.lt_of_lt_of_le hb0 HB00.out.size
      obtain ⟨lx, e0, e1, _⟩ := hel h hm
      have c0 := (below_cell HB00.out hb0).trans e0
      have c1 := (below_cell HB00.out hb0).trans e1
      have HIH := Lib.hid (show i ≤ h ∧ h < j by omega)
      have HLT := Lib.hid (show L[h].1 < s → ∀ W, Below w.heap.size w W → BsInv L s w W (h + 1) j from fun g W hW => ⟨by omega, hjl, fun q hq hql => by
        by_cases hqh : q = h
        · subst hqh; exact g
        · exact List.lt_trans (asc_get HR.out hq hm (by omega)) g, HI.out.up, hW⟩)
      have HGE := Lib.hid (show ¬ L[h].1 < s → ∀ W, Below w.heap.size w W → BsInv L s w W i h from fun g W hW => ⟨by omega, by omega, HI.out.lo, fun q hq hql => by
        by_cases hqh : q = h
        · subst hqh; exact g
        · exact fun g2 => g (List.lt_trans (asc_get HR.out hm hq (by omega)) g2), hW⟩)
      have HSP := Lib.hid (cmpBytes_spec L[h].1 s)
      generalize L[h].1 = x at *
      clear e0 e1 hel hh
      go_upto_region 5 with fail
      clear e s1
      go_cut [31] (fun v wx => v = .bool (decide (Lib.compareBytes x s < 0)) ∧ Below wr.heap.size wr wx)
      case first =>
        refine anyT_start (S := fun W : World => W.cell? ⟨b, off + h * 2, none⟩ = some (.string (bs x)) ∧ W.cell? ⟨b, off + h * 2 + 1, none⟩ = some lx ∧ W.cell? ⟨T, 0, none⟩ = some (.string (bs s)) ∧ W.cell? ⟨T, 1, none⟩ = some lt) (t := 8) (by kernel_rfl) ?_
        have hb0 := (Below.refl wr.heap.size wr).drew
        have HB0 := Lib.hid hb0
        clear hb0
        have hS0 : wr.drew.cell? ⟨b, off + h * 2, none⟩ = some (.string (bs x)) ∧ wr.drew.cell? ⟨b, off + h * 2 + 1, none⟩ = some lx ∧ wr.drew.cell? ⟨T, 0, none⟩ = some (.string (bs s)) ∧ wr.drew.cell? ⟨T, 1, none⟩ = some lt := ⟨c0, c1, t0, t1⟩
        generalize wr.drew = wd at *
        refine takeS (i := 0) (v := ?_) rfl rfl (by kernel_rfl) (by kernel_rfl) (by kernel_rfl) (fun _ _ _ h => h) (by decide) (by kernel_rfl) ?_ hS0 ?_
        rotate_left
        · intro w hSw; (try dsimp only at hSw); go_simp; (try with_reducible rfl)
        simp only [List.setIfInBounds_toArray, List.set_cons_zero, List.set_cons_succ]
        refine takeS (i := 1) (v := ?_) rfl rfl (by kernel_rfl) (by kernel_rfl) (by kernel_rfl) (fun _ _ _ h => h) (by decide) (by kernel_rfl) ?_ hS0 ?_
        rotate_left
        · intro w hSw; (try dsimp only at hSw); go_simp; (try with_reducible rfl)
        simp only [List.setIfInBounds_toArray, List.set_cons_zero, List.set_cons_succ]
        refine takeS (i := 2) (v := ?_) rfl rfl (by kernel_rfl) (by kernel_rfl) (by kernel_rfl) (fun _ _ _ h => h) (by decide) (by kernel_rfl) ?_ hS0 ?_
        rotate_left
        · intro w hSw; (try dsimp only at hSw); go_simp; (try with_reducible rfl)
        simp only [List.setIfInBounds_toArray, List.set_cons_zero, List.set_cons_succ]
        refine takeS (i := 3) (v := ?_) rfl rfl (by kernel_rfl) (by kernel_rfl) (by kernel_rfl) (fun _ _ _ h => h) (by decide) (by kernel_rfl) ?_ hS0 ?_
        rotate_left
        · intro w hSw; (try dsimp only at hSw); go_simp; (try with_reducible rfl)
        simp only [List.setIfInBounds_toArray, List.set_cons_zero, List.set_cons_succ]
        refine takeS (i := 4) (v := ?_) rfl rfl (by kernel_rfl) (by kernel_rfl) (by kernel_rfl) (fun _ _ _ h => h) (by decide) (by kernel_rfl) ?_ hS0 ?_
        rotate_left
        · intro w hSw; (try dsimp only at hSw); go_simp; (try with_reducible rfl)
        simp only [List.setIfInBounds_toArray, List.set_cons_zero, List.set_cons_succ]
        refine takeS (i := 5) (v := ?_) rfl rfl (by kernel_rfl) (by kernel_rfl) (by kernel_rfl) (fun _ _ _ h => h) (by decide) (by kernel_rfl) ?_ hS0 ?_
        rotate_left
        · intro w hSw; (try dsimp only at hSw); go_simp; (try with_reducible rfl)
        simp only [List.setIfInBounds_toArray, List.set_cons_zero, List.set_cons_succ]
        refine oneT (i := 6) rfl (by kernel_rfl) (fun K hK => ?_)
        go_simp
        refine (byWord_any (bs x) (bs s) lx lt wd).mono ?_
        rintro e w4 ⟨rfl, hb4⟩
        simp only [bs_data]
        have hb4q := below_up HB0.out hb4 HB0.out.size
        have HB4 := Lib.hid hb4q
        have hS4 : w4.cell? ⟨b, off + h * 2, none⟩ = some (.string (bs x)) ∧ w4.cell? ⟨b, off + h * 2 + 1, none⟩ = some lx ∧ w4.cell? ⟨T, 0, none⟩ = some (.string (bs s)) ∧ w4.cell? ⟨T, 1, none⟩ = some lt := ⟨(below_cell hb4q hb).trans c0, (below_cell hb4q hb).trans c1, (below_cell hb4q hT).trans t0, (below_cell hb4q hT).trans t1⟩
        refine hK.out _ _ (fun _ => hS4) ?_
        clear hK hb4 hb4q
        try simp only [List.setIfInBounds_toArray, List.set_cons_zero, List.set_cons_succ, Act.put]
        refine oneT (i := 7) rfl (by kernel_rfl) (fun K hK => ?_)
        go_simp
        refine hK.out _ _ (fun _ => hS4) ?_
        clear hK
        try simp only [List.setIfInBounds_toArray, List.set_cons_zero, List.set_cons_succ, Act.put]
        refine doneT (by kernel_rfl) ?_ _
        go_wp2_with fail
        go_meet
        exact ⟨rfl, HB4.out⟩
      case rest =>
        obtain ⟨rfl, hbc⟩ := hcut
        have HBC := Lib.hid (below_up HI.out.below hbc HI.out.below.size)
        have HBC0 := Lib.hid (below_up HB00.out hbc HB00.out.size)
        have hih := HIH.out
        clear hbc c0 c1 t0 t1
        by_cases hz : Lib.compareBytes x s < 0
        · have HN := Lib.hid (HLT.out (HSP.out.1.1 hz) wc HBC.out)
          rw [decide_eq_true hz]
          clear hz HSP
          go_wp2_with fail
          go_roundw
          case rel => exact ⟨h + 1, j, by go_num, rfl, HN.out, HBC0.out⟩
          case measure => simp [intOf]; omega
        · have HN := Lib.hid (HGE.out (fun q => hz (HSP.out.1.2 q)) wc HBC.out)
          rw [decide_eq_false hz]
          clear hz HSP
          go_wp2_with fail
          go_roundw
          case rel => exact ⟨i, h, rfl, rfl, HN.out, HBC0.out⟩
          case measure => simp [intOf]; omega
    · obtain rfl : i = j := by omega
      by_cases hn : i < L.length
      · obtain ⟨b, off, cap', hv, _, hb0, hel⟩ := TmL.at H.out (by omega)
        simp only [Value.slice.injEq] at hv
        obtain ⟨rfl, _, rfl⟩ := hv
        have hb : b < wr.heap.size := Nat.lt_of_lt_of_le hb0 HB00.out.size
        obtain ⟨lx, e0, e1, _⟩ := hel i hn
        have c0 := (below_cell HB00.out hb0).trans e0
        have c1 := (below_cell HB00.out hb0).trans e1
        have HFD := Lib.hid (show FoundT L s i (Lib.compareBytes L[i].1 s == 0) by
          have hcm := (cmpBytes_spec L[i].1 s).2.1
          refine ⟨fun g => ⟨hn, hcm.1 (by simpa using g)⟩, fun g x hx => ?_⟩
          obtain ⟨q, hq, rfl⟩ := List.mem_iff_getElem.1 hx
          have hne : L[i].1 ≠ s := fun g2 => by rw [hcm.2 g2] at g; simp at g
          have h2 := HI.out.up i hn (Nat.le_refl _)
          intro g3
          rcases Nat.lt_trichotomy q i with g4 | g4 | g4
          · have := HI.out.lo q hq g4
            rw [g3] at this
            exact List.lt_irrefl _ this
          · subst g4
            exact hne g3
          · have := asc_get HR.out hn hq g4
            rw [g3] at this
            exact h2 this)
        generalize L[i].1 = x at *
        clear e0 e1 hel
        have qn : decide ((i : Int) < (L.length : Int)) = true := decide_eq_true (by omega)
        go_upto_region 8 with fail
        go_cut [6, 7] (fun v u wx => v = .int .i64 (i : Nat) ∧ u = .bool (Lib.compareBytes x s == 0) ∧ Below wr.heap.size wr wx)
        case first =>
          refine anyT_start (S := fun W : World => W.cell? ⟨b, off + i * 2, none⟩ = some (.string (bs x)) ∧ W.cell? ⟨b, off + i * 2 + 1, none⟩ = some lx ∧ W.cell? ⟨T, 0, none⟩ = some (.string (bs s)) ∧ W.cell? ⟨T, 1, none⟩ = some lt) (t := 16) (by kernel_rfl) ?_
          have hb0 := (Below.refl wr.heap.size wr).drew
          have HB0 := Lib.hid hb0
          clear hb0
          have hS0 : wr.drew.cell? ⟨b, off + i * 2, none⟩ = some (.string (bs x)) ∧ wr.drew.cell? ⟨b, off + i * 2 + 1, none⟩ = some lx ∧ wr.drew.cell? ⟨T, 0, none⟩ = some (.string (bs s)) ∧ wr.drew.cell? ⟨T, 1, none⟩ = some lt := ⟨c0, c1, t0, t1⟩
          generalize wr.drew = wd at *
          refine takeS (i := 0) (v := ?_) rfl rfl (by kernel_rfl) (by kernel_rfl) (by kernel_rfl) (fun _ _ _ h => h) (by decide) (by kernel_rfl) ?_ hS0 ?_
          rotate_left
          · intro w hSw; (try dsimp only at hSw); go_simp; (try with_reducible rfl)
          simp only [List.setIfInBounds_toArray, List.set_cons_zero, List.set_cons_succ]
          refine takeS (i := 1) (v := ?_) rfl rfl (by kernel_rfl) (by kernel_rfl) (by kernel_rfl) (fun _ _ _ h => h) (by decide) (by kernel_rfl) ?_ hS0 ?_
          rotate_left
          · intro w hSw; (try dsimp only at hSw); go_simp; (try with_reducible rfl)
          simp only [List.setIfInBounds_toArray, List.set_cons_zero, List.set_cons_succ]
          refine takeS (i := 2) (v := ?_) rfl rfl (by kernel_rfl) (by kernel_rfl) (by kernel_rfl) (fun _ _ _ h => h) (by decide) (by kernel_rfl) ?_ hS0 ?_
          rotate_left
          · intro w hSw; (try dsimp only at hSw); go_simp; (try with_reducible rfl)
          simp only [List.setIfInBounds_toArray, List.set_cons_zero, List.set_cons_succ]
          refine takeS (i := 3) (v := ?_) rfl rfl (by kernel_rfl) (by kernel_rfl) (by kernel_rfl) (fun _ _ _ h => h) (by decide) (by kernel_rfl) ?_ hS0 ?_
          rotate_left
          · intro w hSw; (try dsimp only at hSw); go_simp; (try with_reducible rfl)
          simp only [List.setIfInBounds_toArray, List.set_cons_zero, List.set_cons_succ]
          refine takeS (i := 4) (v := ?_) rfl rfl (by kernel_rfl) (by kernel_rfl) (by kernel_rfl) (fun _ _ _ h => h) (by decide) (by kernel_rfl) ?_ hS0 ?_
          rotate_left
          · intro w hSw; (try dsimp only at hSw); go_simp; (try with_reducible rfl)
          simp only [List.setIfInBounds_toArray, List.set_cons_zero, List.set_cons_succ]
          refine takeS (i := 5) (v := ?_) rfl rfl (by kernel_rfl) (by kernel_rfl) (by kernel_rfl) (fun _ _ _ h => h) (by decide) (by kernel_rfl) ?_ hS0 ?_
          rotate_left
          · intro w hSw; (try dsimp only at hSw); go_simp; (try with_reducible rfl)
          simp only [List.setIfInBounds_toArray, List.set_cons_zero, List.set_cons_succ]
          refine takeS (i := 6) (v := ?_) rfl rfl (by kernel_rfl) (by kernel_rfl) (by kernel_rfl) (fun _ _ _ h => h) (by decide) (by kernel_rfl) ?_ hS0 ?_
          rotate_left
          · intro w hSw; (try dsimp only at hSw); go_simp; (try with_reducible rfl)
          simp only [List.setIfInBounds_toArray, List.set_cons_zero, List.set_cons_succ]
          refine takeS (i := 7) (v := ?_) rfl rfl (by kernel_rfl) (by kernel_rfl) (by kernel_rfl) (fun _ _ _ h => h) (by decide) (by kernel_rfl) ?_ hS0 ?_
          rotate_left
          · intro w hSw; (try dsimp only at hSw); go_simp; (try with_reducible rfl)
          simp only [List.setIfInBounds_toArray, List.set_cons_zero, List.set_cons_succ]
          refine takeS (i := 8) (v := ?_) rfl rfl (by kernel_rfl) (by kernel_rfl) (by kernel_rfl) (fun _ _ _ h => h) (by decide) (by kernel_rfl) ?_ hS0 ?_
          rotate_left
          · intro w hSw; (try dsimp only at hSw); go_simp; (try with_reducible rfl)
          simp only [List.setIfInBounds_toArray, List.set_cons_zero, List.set_cons_succ]
          refine takeS (i := 9) (v := ?_) rfl rfl (by kernel_rfl) (by kernel_rfl) (by kernel_rfl) (fun _ _ _ h => h) (by decide) (by kernel_rfl) ?_ hS0 ?_
          rotate_left
          · intro w hSw; (try dsimp only at hSw); go_simp; (try with_reducible rfl)
          simp only [List.setIfInBounds_toArray, List.set_cons_zero, List.set_cons_succ]
          refine takeS (i := 10) (v := ?_) rfl rfl (by kernel_rfl) (by kernel_rfl) (by kernel_rfl) (fun _ _ _ h => h) (by decide) (by kernel_rfl) ?_ hS0 ?_
          rotate_left
          · intro w hSw; (try dsimp only at hSw); go_simp; (try with_reducible rfl)
          simp only [List.setIfInBounds_toArray, List.set_cons_zero, List.set_cons_succ]
          refine oneT (i := 11) rfl (by kernel_rfl) (fun K hK => ?_)
          go_simp
          refine (byWord_any (bs x) (bs s) lx lt wd).mono ?_
          rintro e w4 ⟨rfl, hb4⟩
          simp only [bs_data]
          have hb4q := below_up HB0.out hb4 HB0.out.size
          have HB4 := Lib.hid hb4q
          have hS4 : w4.cell? ⟨b, off + i * 2, none⟩ = some (.string (bs x)) ∧ w4.cell? ⟨b, off + i * 2 + 1, none⟩ = some lx ∧ w4.cell? ⟨T, 0, none⟩ = some (.string (bs s)) ∧ w4.cell? ⟨T, 1, none⟩ = some lt := ⟨(below_cell hb4q hb).trans c0, (below_cell hb4q hb).trans c1, (below_cell hb4q hT).trans t0, (below_cell hb4q hT).trans t1⟩
          refine hK.out _ _ (fun _ => hS4) ?_
          clear hK hb4 hb4q
          try simp only [List.setIfInBounds_toArray, List.set_cons_zero, List.set_cons_succ, Act.put]
          refine takeS (i := 12) (v := ?_) rfl rfl (by kernel_rfl) (by kernel_rfl) (by kernel_rfl) (fun _ _ _ h => h) (by decide) (by kernel_rfl) ?_ hS4 ?_
          rotate_left
          · intro w hSw; (try dsimp only at hSw); go_simp; (try with_reducible rfl)
          simp only [List.setIfInBounds_toArray, List.set_cons_zero, List.set_cons_succ]
          refine takeS (i := 13) (v := ?_) rfl rfl (by kernel_rfl) (by kernel_rfl) (by kernel_rfl) (fun _ _ _ h => h) (by decide) (by kernel_rfl) ?_ hS4 ?_
          rotate_left
          · intro w hSw; (try dsimp only at hSw); go_simp; (try with_reducible rfl)
          simp only [List.setIfInBounds_toArray, List.set_cons_zero, List.set_cons_succ]
          refine oneT (i := 14) rfl (by kernel_rfl) (fun K hK => ?_)
          go_simp
          refine hK.out _ _ (fun _ => hS4) ?_
          clear hK
          try simp only [List.setIfInBounds_toArray, List.set_cons_zero, List.set_cons_succ, Act.put]
          refine oneT (i := 15) rfl (by kernel_rfl) (fun K hK => ?_)
          go_simp
          refine hK.out _ _ (fun _ => hS4) ?_
          clear hK
          try simp only [List.setIfInBounds_toArray, List.set_cons_zero, List.set_cons_succ, Act.put]
          refine doneT (by kernel_rfl) ?_ _
          go_wp2_with fail
          go_meet
          exact ⟨rfl, rfl, HB4.out⟩
        case rest =>
          obtain ⟨rfl, rfl, hbc⟩ := hcut
          have HBC := Lib.hid (below_up HI.out.below hbc HI.out.below.size)
          clear hbc
          go_wp2_with fail
          go_ret2
          exact ⟨⟨i, _, rfl, HFD.out⟩, HBC.out⟩
      · have HFD := Lib.hid (show FoundT L s i false from ⟨fun g => (by cases g), fun _ x hx => by
          obtain ⟨q, hq, rfl⟩ := List.mem_iff_getElem.1 hx
          intro g
          have := HI.out.lo q hq (by omega)
          rw [g] at this
          exact List.lt_irrefl _ this⟩)
        have qn : decide ((i : Int) < (L.length : Int)) = false := decide_eq_false (by omega)
        clear t0 t1
        go_upto_region 8 with fail
        go_quiet (fail)
        go_wp2_with fail
        go_ret2
        exact ⟨⟨i, _, rfl, HFD.out⟩, drewN_below HI.out.below _⟩
end Go.Proofs.Ytfjcbclakgidkaa
