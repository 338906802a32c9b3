/- The walk of porttop.TopFilled. -/
import Derived.Test.YtfohehldkchnjaaTpTopL
import Derived.Test.YtfohehldkchnjaaTpQuote
namespace Go.Proofs.Ytfohehldkchnjaa
open Go.RowKit

theorem awakeT_any (w : World) : Calls Try.prog 4 #[] w fun e w' => e = .returned (.bool true) ∧ Below w.heap.size w w' := by
  have HW := Lib.hid (Words_any ⟨#[97]⟩ w (by decide))
  go_enter Try.func4, Try.ntmps4
  go_wp2_with fail
  refine HW.out.mono ?_
  rintro e w2 ⟨a, c, rfl, ho, hb⟩
  have HB := Lib.hid hb
  have hl : (wordsS ⟨#[97]⟩).length = 1 := by decide
  rw [hl]
  clear ho hb
  go_wp2_with fail
  go_ret
  exact ⟨rfl, HB.out⟩
abbrev lsL (ls : List ByteArray) : List (List UInt8) := ls.map fun s => s.data.toList
theorem lsL_getD (ls : List ByteArray) {i : Nat} (h : i < ls.length) : (lsL ls).getD i [] = ls[i].data.toList := by simp [lsL, List.getD, h]
theorem lsL_small {ls : List ByteArray} (h : ∀ s ∈ ls, s.size ≤ 140737488351232) (i : Nat) : ((lsL ls).getD i []).length ≤ 140737488351232 := by
  by_cases g : i < ls.length
  · rw [lsL_getD ls g]
    have := h _ (List.getElem_mem g)
    simpa using this
  · simp [lsL, List.getD, Nat.le_of_not_lt g]
theorem tpl_size {ls : List ByteArray} (h : ∀ s ∈ ls, s.size ≤ 140737488351232) : ∀ n, (tplT (segN (lsL ls) n) []).length ≤ n * 281474976702484
  | 0 => by simp [segN, tplT, quo]
  | n + 1 => by
    have ih := tpl_size h n
    have h1 := quo_le ((lsL ls).getD n [])
    have h2 := lsL_small h n
    have h3 : (fldT (fdN n)).length ≤ 15 := by rw [fldN]; split <;> (try split) <;> simp [nameN]
    rw [tplN_succ, List.length_append, List.length_append]
    omega
theorem val_size (v : List UInt8) (i : Nat) (h : v.length ≤ 140737488351232) : (valF v (fdN i)).length ≤ 140737488351232 := by
  have h1 : (fdN i).one.length ≤ 4 := by unfold fdN; split <;> (try split) <;> simp
  have h2 : (fdN i).two.length ≤ 2 := by unfold fdN; split <;> (try split) <;> simp
  unfold valF
  split
  · omega
  · split
    · omega
    · exact h
theorem want_size {ls vs : List ByteArray} (h : ∀ s ∈ ls, s.size ≤ 140737488351232) (hv : ∀ s ∈ vs, s.size ≤ 140737488351232) : ∀ n, (wantN (lsL ls) (lsL vs) n).length ≤ n * 281474976702484
  | 0 => by simp [wantN]
  | n + 1 => by
    have ih := want_size h hv n
    have h1 := lsL_small h n
    have h2 := val_size _ n (lsL_small hv n)
    rw [wantN_succ, List.length_append, List.length_append]
    omega
theorem conv_rune : ∀ i, i < 8 → ∀ w : World, (convert 21 9 (.int .i32 (97 + (i : Nat)))).run Try.prog w = .ok (.string ⟨#[UInt8.ofNat (97 + i)]⟩) w := by
  intro i hi w
  obtain rfl | rfl | rfl | rfl | rfl | rfl | rfl | rfl : i = 0 ∨ i = 1 ∨ i = 2 ∨ i = 3 ∨ i = 4 ∨ i = 5 ∨ i = 6 ∨ i = 7 := by omega
  all_goals (show (convert 21 9 _).run Try.prog w = _; kernel_rfl)
theorem infoPr : (Try.prog.info? 27).map (fun i => (i.zero, i.size, i.bytes)) = some (some (.agg #[.string ⟨#[]⟩, .string ⟨#[]⟩]), 2, 32) := by kernel_rfl
theorem fld_pick (i : Nat) (NM F : ByteArray) (hN : NM.data.toList = nameN i) (hF : F = if i % 3 = 0 then ⟨#[123, 123]⟩ ++ NM ++ ⟨#[125, 125]⟩ else if i % 3 = 1 then ⟨#[123, 123]⟩ ++ NM ++ ⟨#[124, 110, 111, 110, 101, 125, 125]⟩ else ⟨#[123, 123]⟩ ++ NM ++ ⟨#[63, 121, 101, 115, 58, 110, 111, 125, 125]⟩) : F.data.toList = fldT (fdN i) := by
  rw [hF, fldN, ← hN]
  split
  · simp [ByteArray.data_append]
  · split <;> simp [ByteArray.data_append]
theorem tpl_step (P : List (List UInt8)) (i : Nat) (T p Q F : ByteArray) (hT : T = bs (tplT (segN P i) [])) (hp : P.getD i [] = p.data.toList) (hQ : Q = ⟨(quo p.data.toList).toArray⟩) (hF : F.data.toList = fldT (fdN i)) : T ++ (Q ++ F) = bs (tplT (segN P (i + 1)) []) := by
  rw [tplN_succ, hp, ← hF, hT, hQ]
  apply ByteArray.ext
  simp [bs, ByteArray.data_append]
theorem want_step (P V : List (List UInt8)) (i : Nat) (W p u X : ByteArray) (hW : W = bs (wantN P V i)) (hp : P.getD i [] = p.data.toList) (hu : V.getD i [] = u.data.toList) (hX : X.data.toList = valF u.data.toList (fdN i)) : W ++ p ++ X = bs (wantN P V (i + 1)) := by
  rw [wantN_succ, hp, hu, ← hX, hW]
  apply ByteArray.ext
  simp [bs, ByteArray.data_append]
theorem val_0 {i : Nat} (v : List UInt8) (h : 0 = i % 3) : valF v (fdN i) = v := by
  have e : fdN i = ⟨nameN i, 0, [], []⟩ := by unfold fdN; rw [if_pos h.symm]
  rw [e]
  simp [valF, nameN]
theorem val_1 {i : Nat} (v : List UInt8) (h : 1 = i % 3) : valF v (fdN i) = if v = [] then [110, 111, 110, 101] else v := by
  have e : fdN i = ⟨nameN i, 124, [110, 111, 110, 101], []⟩ := by unfold fdN; rw [if_neg (by omega), if_pos h.symm]
  rw [e]
  by_cases g : v = [] <;> simp [valF, nameN, g]
theorem val_2 {i : Nat} (v : List UInt8) (h : 2 = i % 3) : valF v (fdN i) = if v = [] then [110, 111] else [121, 101, 115] := by
  have e : fdN i = ⟨nameN i, 63, [121, 101, 115], [110, 111]⟩ := by unfold fdN; rw [if_neg (by omega), if_neg (by omega)]
  rw [e]
  by_cases g : v = [] <;> simp [valF, nameN, g]
structure TtI (ls vs : List ByteArray) (B : Nat) (w0 wr : World) (i : Nat) (tv wv lv : Value) : Prop where
  le : i ≤ ls.length
  t : tv = .string (bs (tplT (segN (lsL ls) i) []))
  wt : wv = .string (bs (wantN (lsL ls) (lsL vs) i))
  own : wr.ownsRow B 27 2 lv i ((prsN (lsL vs) i).flatMap encP)
  below : Below B w0 wr
set_option maxRecDepth 100000 in
set_option maxHeartbeats 16000000 in
theorem filled_walk (ls vs : List ByteArray) (v1 v2 : Value) (w : World) (h1 : SliceAt 1 strR w v1 ls) (h2 : SliceAt 1 strR w v2 vs) (hs1 : ∀ s ∈ ls, s.size ≤ 140737488351232) (hs2 : ∀ s ∈ vs, s.size ≤ 140737488351232) (hl1 : ls.length ≤ 140737488351232) (hl2 : vs.length ≤ 140737488351232) :
    Calls Try.prog 3 #[v1, v2] w fun e w' => e = .returned (.bool true) ∧ Below w.heap.size w w' := by
  obtain ⟨pa, pc, rfl⟩ := SliceAt.len h1
  obtain ⟨va, vc, rfl⟩ := SliceAt.len h2
  have H1 := Lib.hid h1
  have H2 := Lib.hid h2
  have HS1 := Lib.hid hs1
  have HS2 := Lib.hid hs2
  clear h1 h2 hs1 hs2
  go_enter Try.func3, Try.ntmps3
  go_wp2_with fail
  refine (awakeT_any w).mono ?_
  rintro e w2 ⟨rfl, hb2⟩
  have HB2 := Lib.hid hb2
  have H12 := Lib.hid (SliceAt.stable strR_stable H1.out hb2)
  have H22 := Lib.hid (SliceAt.stable strR_stable H2.out hb2)
  clear hb2 H1 H2
  by_cases h8 : 8 < ls.length
  · have q8 : decide ((8 : Int) < (ls.length : Int)) = true := decide_eq_true (by omega)
    clear h8
    go_wp2_with fail
    go_ret
    exact ⟨rfl, HB2.out⟩
  have q8 : decide ((8 : Int) < (ls.length : Int)) = false := decide_eq_false (by omega)
  by_cases hvl : vs.length < ls.length
  · have q9 : decide ((vs.length : Int) < (ls.length : Int)) = true := decide_eq_true (by omega)
    go_wp2_with fail
    go_ret
    exact ⟨rfl, HB2.out⟩
  have q9 : decide ((vs.length : Int) < (ls.length : Int)) = false := decide_eq_false (by omega)
  have q9' : decide (vs.length < ls.length) = false := decide_eq_false (by omega)
  have q8' : decide (8 < ls.length) = false := decide_eq_false (by omega)
  have hl8 : ls.length ≤ 8 := by omega
  have hlv : ls.length ≤ vs.length := by omega
  have HI0 := Lib.hid (show TtI ls vs w2.heap.size w2 w2 0 (.string ⟨#[]⟩) (.string ⟨#[]⟩) (.slice none 0 0) from ⟨Nat.zero_le _, rfl, rfl, World.ownsRow_nil _ _ _ _, Below.refl _ _⟩)
  go_wp2_with fail
  go_loopw [5, 6, 7, 29] (fun tv wv lv iv wr => ∃ i : Nat, iv = .int .i64 ((i : Nat) : Int) ∧ TtI ls vs w2.heap.size w2 wr i tv wv lv) (fun _ _ _ iv _ => ls.length - (intOf iv).toNat)
  case atStart => exact ⟨0, rfl, HI0.out⟩
  case round =>
    obtain ⟨i, rfl, hI⟩ := hrel
    have HI := Lib.hid hI
    have hi := hI.le
    obtain rfl := hI.t
    obtain rfl := hI.wt
    obtain ⟨oa, oc, rfl⟩ := owns_slice hI.own
    clear hI HI0
    obtain ⟨T, hT⟩ : ∃ T, T = bs (tplT (segN (lsL ls) i) []) := ⟨_, rfl⟩
    obtain ⟨W, hW⟩ : ∃ W, W = bs (wantN (lsL ls) (lsL vs) i) := ⟨_, rfl⟩
    have HTT := Lib.hid hT
    have HWW := Lib.hid hW
    have hTs : T.size ≤ 2251799813619872 := by
      rw [hT, bs_size]
      have := tpl_size HS1.out i
      omega
    have hWs : W.size ≤ 2251799813619872 := by
      rw [hW, bs_size]
      have := want_size HS1.out HS2.out i
      omega
    rw [← hT, ← hW]
    clear hT hW
    by_cases hlt : i < ls.length
    · obtain ⟨b, of', cap', hv, hcb, hb, hel⟩ := SliceAt.at H12.out (by omega)
      cases hv
      obtain ⟨b2, of2, cap2, hv, hcb2, hb2, hel2⟩ := SliceAt.at H22.out (by omega)
      cases hv
      obtain ⟨cs, ⟨_, hc⟩, hr⟩ := hel i hlt
      cases hr
      obtain ⟨cs2, ⟨_, hc2⟩, hr2⟩ := hel2 i (by omega)
      cases hr2
      have c0 := (below_cell HI.out.below hb).trans (hc 0 (by show 0 < 1; decide))
      have d0 := HI.out.below
      have HC2 := Lib.hid (fun (W : World) (hW : Below w2.heap.size w2 W) => (below_cell hW hb2).trans (hc2 0 (by show 0 < 1; decide)))
      have HSP := Lib.hid (lsL_getD ls hlt)
      have HSV := Lib.hid (lsL_getD vs (show i < vs.length by omega))
      have hps := HS1.out _ (List.getElem_mem hlt)
      have hvs := HS2.out _ (List.getElem_mem (show i < vs.length by omega))
      simp only [Nat.mul_one, Nat.add_zero] at c0 HC2
      clear hc hc2 hel hel2 d0
      generalize ls[i] = p at *
      generalize vs[i]'(show i < vs.length by omega) = u at *
      obtain ⟨z, hz⟩ : ∃ z : Int, z = 97 + (i : Int) := ⟨_, rfl⟩
      have hi8 : i < 8 := by omega
      have hcv := conv_rune i hi8
      rw [show (97 + ((i : Nat) : Int)) = z from hz.symm] at hcv
      have wz : IntKind.i64.wrap (97 + (i : Int)) = z := by rw [IntWalk.i64_in _ (by omega), hz]
      have wz32 : IntKind.i32.wrap z = z := by
        rw [hz]
        match i, hi8 with
        | 0, _ => rfl
        | 1, _ => rfl
        | 2, _ => rfl
        | 3, _ => rfl
        | 4, _ => rfl
        | 5, _ => rfl
        | 6, _ => rfl
        | 7, _ => rfl
      obtain ⟨C, hC⟩ : ∃ C : ByteArray, C = ⟨#[UInt8.ofNat (97 + i)]⟩ := ⟨_, rfl⟩
      have hCs : C.size = 1 := by rw [hC]; rfl
      have HCC := Lib.hid hC
      rw [← hC] at hcv
      clear hC hz
      go_upto_region 11 with fail
      obtain ⟨NM, hNM⟩ : ∃ NM : ByteArray, NM = ⟨#[118]⟩ ++ C := ⟨_, rfl⟩
      rw [← hNM]
      have hNs : NM.size = 2 := by rw [hNM, ByteArray.size_append, hCs]; rfl
      have HNM := Lib.hid (show NM.data.toList = nameN i by rw [hNM, HCC.out]; simp [nameN, ByteArray.data_append])
      clear hNM
      obtain ⟨k, hk⟩ : ∃ k : Nat, k = i % 3 := ⟨_, rfl⟩
      have hk3 : k < 3 := by omega
      have hkz : Int.tmod (i : Int) 3 = (k : Int) := by rw [Int.tmod_eq_emod_of_nonneg (by omega)]; omega
      have HKK := Lib.hid hk
      clear hk
      go_cut [5] (fun v wx => v = .string (bs (tplT (segN (lsL ls) (i + 1)) [])) ∧ Below wr.heap.size wr wx)
      case first =>
        refine anyT_start (S := fun _ : World => True) (t := 20) (by kernel_rfl) ?_
        have hS0 : True := trivial
        have hb0 := (Below.refl wr.heap.size wr).drew
        have HB0 := Lib.hid hb0
        clear hb0
        generalize wr.drew = wd at *
        refine takeS (i := 0) (v := ?_) rfl rfl (by kernel_rfl) (by kernel_rfl) (by kernel_rfl) (fun _ _ _ h => h) (by decide) (by kernel_rfl) ?_ hS0 ?_
        rotate_left
        · intro w hSw; (try dsimp only at hSw); go_simp; (try with_reducible rfl)
        simp only [List.setIfInBounds_toArray, List.set_cons_zero, List.set_cons_succ]
        refine takeS (i := 1) (v := ?_) rfl rfl (by kernel_rfl) (by kernel_rfl) (by kernel_rfl) (fun _ _ _ h => h) (by decide) (by kernel_rfl) ?_ hS0 ?_
        rotate_left
        · intro w hSw; (try dsimp only at hSw); go_simp; (try with_reducible rfl)
        simp only [List.setIfInBounds_toArray, List.set_cons_zero, List.set_cons_succ]
        refine takeS (i := 3) (v := ?_) rfl rfl (by kernel_rfl) (by kernel_rfl) (by kernel_rfl) (fun _ _ _ h => h) (by decide) (by kernel_rfl) ?_ hS0 ?_
        rotate_left
        · intro w hSw; (try dsimp only at hSw); go_simp; (try with_reducible rfl)
        simp only [List.setIfInBounds_toArray, List.set_cons_zero, List.set_cons_succ]
        have hps2 : (⟨#[123, 123]⟩ : ByteArray).size = 2 := rfl
        have hpt0 : (⟨#[125, 125]⟩ : ByteArray).size = 2 := rfl
        have hpt1 : (⟨#[124, 110, 111, 110, 101, 125, 125]⟩ : ByteArray).size = 7 := rfl
        have hpt2 : (⟨#[63, 121, 101, 115, 58, 110, 111, 125, 125]⟩ : ByteArray).size = 9 := rfl
        refine takeS (i := 4) (v := .string (⟨#[123, 123]⟩ ++ NM : ByteArray)) rfl rfl (by kernel_rfl) (by kernel_rfl) (by kernel_rfl) (fun _ _ _ h => h) (by decide) (by kernel_rfl) ?_ hS0 ?_
        · intro w hSw; (try dsimp only at hSw); go_simp <;> first | (with_reducible rfl) | omega | (rw [if_neg (by omega)]) | (rw [if_neg (by simp only [ByteArray.size_append]; omega)]) | (rw [if_neg (by simp; omega)])
        simp only [List.setIfInBounds_toArray, List.set_cons_zero, List.set_cons_succ]
        refine takeS (i := 5) (v := .string ((⟨#[123, 123]⟩ ++ NM : ByteArray) ++ ⟨#[125, 125]⟩)) rfl rfl (by kernel_rfl) (by kernel_rfl) (by kernel_rfl) (fun _ _ _ h => h) (by decide) (by kernel_rfl) ?_ hS0 ?_
        · intro w hSw; (try dsimp only at hSw); go_simp <;> first | (with_reducible rfl) | omega | (rw [if_neg (by omega)]) | (rw [if_neg (by simp only [ByteArray.size_append]; omega)]) | (rw [if_neg (by simp; omega)])
        simp only [List.setIfInBounds_toArray, List.set_cons_zero, List.set_cons_succ]
        refine takeS (i := 6) (v := ?_) rfl rfl (by kernel_rfl) (by kernel_rfl) (by kernel_rfl) (fun _ _ _ h => h) (by decide) (by kernel_rfl) ?_ hS0 ?_
        rotate_left
        · intro w hSw; (try dsimp only at hSw); go_simp; (try with_reducible rfl)
        simp only [List.setIfInBounds_toArray, List.set_cons_zero, List.set_cons_succ]
        refine takeS (i := 7) (v := .string (⟨#[123, 123]⟩ ++ NM : ByteArray)) rfl rfl (by kernel_rfl) (by kernel_rfl) (by kernel_rfl) (fun _ _ _ h => h) (by decide) (by kernel_rfl) ?_ hS0 ?_
        · intro w hSw; (try dsimp only at hSw); go_simp <;> first | (with_reducible rfl) | omega | (rw [if_neg (by omega)]) | (rw [if_neg (by simp only [ByteArray.size_append]; omega)]) | (rw [if_neg (by simp; omega)])
        simp only [List.setIfInBounds_toArray, List.set_cons_zero, List.set_cons_succ]
        refine takeS (i := 8) (v := .string ((⟨#[123, 123]⟩ ++ NM : ByteArray) ++ ⟨#[124, 110, 111, 110, 101, 125, 125]⟩)) rfl rfl (by kernel_rfl) (by kernel_rfl) (by kernel_rfl) (fun _ _ _ h => h) (by decide) (by kernel_rfl) ?_ hS0 ?_
        · intro w hSw; (try dsimp only at hSw); go_simp <;> first | (with_reducible rfl) | omega | (rw [if_neg (by omega)]) | (rw [if_neg (by simp only [ByteArray.size_append]; omega)]) | (rw [if_neg (by simp; omega)])
        simp only [List.setIfInBounds_toArray, List.set_cons_zero, List.set_cons_succ]
        refine takeS (i := 9) (v := ?_) rfl rfl (by kernel_rfl) (by kernel_rfl) (by kernel_rfl) (fun _ _ _ h => h) (by decide) (by kernel_rfl) ?_ hS0 ?_
        rotate_left
        · intro w hSw; (try dsimp only at hSw); go_simp; (try with_reducible rfl)
        simp only [List.setIfInBounds_toArray, List.set_cons_zero, List.set_cons_succ]
        refine takeS (i := 10) (v := .string (⟨#[123, 123]⟩ ++ NM : ByteArray)) rfl rfl (by kernel_rfl) (by kernel_rfl) (by kernel_rfl) (fun _ _ _ h => h) (by decide) (by kernel_rfl) ?_ hS0 ?_
        · intro w hSw; (try dsimp only at hSw); go_simp <;> first | (with_reducible rfl) | omega | (rw [if_neg (by omega)]) | (rw [if_neg (by simp only [ByteArray.size_append]; omega)]) | (rw [if_neg (by simp; omega)])
        simp only [List.setIfInBounds_toArray, List.set_cons_zero, List.set_cons_succ]
        refine takeS (i := 11) (v := .string ((⟨#[123, 123]⟩ ++ NM : ByteArray) ++ ⟨#[63, 121, 101, 115, 58, 110, 111, 125, 125]⟩)) rfl rfl (by kernel_rfl) (by kernel_rfl) (by kernel_rfl) (fun _ _ _ h => h) (by decide) (by kernel_rfl) ?_ hS0 ?_
        · intro w hSw; (try dsimp only at hSw); go_simp <;> first | (with_reducible rfl) | omega | (rw [if_neg (by omega)]) | (rw [if_neg (by simp only [ByteArray.size_append]; omega)]) | (rw [if_neg (by simp; omega)])
        simp only [List.setIfInBounds_toArray, List.set_cons_zero, List.set_cons_succ]
        have hFs0 : ((⟨#[123, 123]⟩ ++ NM : ByteArray) ++ ⟨#[125, 125]⟩ : ByteArray).size ≤ 15 := by simp only [ByteArray.size_append]; omega
        have hFs1 : ((⟨#[123, 123]⟩ ++ NM : ByteArray) ++ ⟨#[124, 110, 111, 110, 101, 125, 125]⟩ : ByteArray).size ≤ 15 := by simp only [ByteArray.size_append]; omega
        have hFs2 : ((⟨#[123, 123]⟩ ++ NM : ByteArray) ++ ⟨#[63, 121, 101, 115, 58, 110, 111, 125, 125]⟩ : ByteArray).size ≤ 15 := by simp only [ByteArray.size_append]; omega
        generalize hF0 : ((⟨#[123, 123]⟩ ++ NM : ByteArray) ++ ⟨#[125, 125]⟩ : ByteArray) = F0 at *
        generalize hF1 : ((⟨#[123, 123]⟩ ++ NM : ByteArray) ++ ⟨#[124, 110, 111, 110, 101, 125, 125]⟩ : ByteArray) = F1 at *
        generalize hF2 : ((⟨#[123, 123]⟩ ++ NM : ByteArray) ++ ⟨#[63, 121, 101, 115, 58, 110, 111, 125, 125]⟩ : ByteArray) = F2 at *
        refine takeS (i := 13) (v := ?_) rfl rfl (by kernel_rfl) (by kernel_rfl) (by kernel_rfl) (fun _ _ _ h => h) (by decide) (by kernel_rfl) ?_ hS0 ?_
        rotate_left
        · intro w hSw; (try dsimp only at hSw); go_simp; (try with_reducible rfl)
        simp only [List.setIfInBounds_toArray, List.set_cons_zero, List.set_cons_succ]
        refine takeS (i := 14) (v := .int .i64 ((k : Nat) : Int)) rfl rfl (by kernel_rfl) (by kernel_rfl) (by kernel_rfl) (fun _ _ _ h => h) (by decide) (by kernel_rfl) ?_ hS0 ?_
        · intro w hSw; (try dsimp only at hSw); go_simp <;> (try rw [hkz]) <;> first | (with_reducible rfl) | omega | (rw [if_neg (by omega)]) | (rw [if_neg (by simp only [ByteArray.size_append]; omega)]) | (rw [if_neg (by simp; omega)])
        simp only [List.setIfInBounds_toArray, List.set_cons_zero, List.set_cons_succ]
        obtain ⟨F, hF⟩ : ∃ F : ByteArray, F = if i % 3 = 0 then F0 else if i % 3 = 1 then F1 else F2 := ⟨_, rfl⟩
        have hFs : F.size ≤ 15 := by rw [hF]; split <;> (try split) <;> assumption
        have HFF := Lib.hid (show F.data.toList = fldT (fdN i) from fld_pick i NM F HNM.out (by rw [hF, ← hF0, ← hF1, ← hF2]))
        have hFk : k = 0 ∧ F = F0 ∨ k = 1 ∧ F = F1 ∨ k = 2 ∧ F = F2 := by
          rw [hF]
          rw [HKK.out] at *
          by_cases g0 : i % 3 = 0
          · exact .inl ⟨g0, if_pos g0⟩
          · rw [if_neg g0]
            by_cases g1 : i % 3 = 1
            · exact .inr (.inl ⟨g1, if_pos g1⟩)
            · exact .inr (.inr ⟨by omega, if_neg g1⟩)
        have HLD := Lib.hid (fun (W : World) => show (W.alloc (.cells #[.string F0, .string F1, .string F2] 9)).cell? ⟨W.heap.size, k, none⟩ = some (.string F) by
          have h := Has.new W #[.string F0, .string F1, .string F2] 9
          rcases hFk with ⟨e, e2⟩ | ⟨e, e2⟩ | ⟨e, e2⟩
          · rw [e, e2]; exact h.cell 0
          · rw [e, e2]; exact h.cell 1
          · rw [e, e2]; exact h.cell 2)
        have hQs : (⟨(quo p.data.toList).toArray⟩ : ByteArray).size ≤ 281474976702469 := by
          have h1 := quo_le p.data.toList
          have h2 : p.data.toList.length = p.size := by simp
          show (quo p.data.toList).toArray.size ≤ _
          rw [List.size_toArray]
          omega
        have HTS := Lib.hid (fun (Q : ByteArray) (hQ : Q = ⟨(quo p.data.toList).toArray⟩) => tpl_step (lsL ls) i T p Q F HTT.out HSP.out hQ HFF.out)
        clear hF hFk hF0 hF1 hF2
        refine twoT (i := 2) (j := 12) rfl rfl (by kernel_rfl) (fun K hK => ?_) (fun K hK => ?_)
        · go_simp
          refine (Quote_any p wd (by omega)).mono ?_
          rintro e w1 ⟨rfl, hb1⟩
          have hb1q := below_up HB0.out hb1 HB0.out.size
          obtain ⟨Q, hQ⟩ : ∃ Q : ByteArray, Q = ⟨(quo p.data.toList).toArray⟩ := ⟨_, rfl⟩
          rw [← hQ] at hQs ⊢
          have HQQ := Lib.hid hQ
          clear hQ
          refine hK.out _ _ (fun _ => trivial) ?_
          clear hK
          try simp only [List.setIfInBounds_toArray, List.set_cons_zero, List.set_cons_succ, Act.put]
          refine oneT (i := 12) rfl (by kernel_rfl) (fun K hK => ?_)
          go_simp
          refine hK.out _ _ (fun _ => trivial) ?_
          clear hK
          try simp only [List.setIfInBounds_toArray, List.set_cons_zero, List.set_cons_succ, Act.put]
          have hld := HLD.out w1
          have HBZ := Lib.hid (hb1q.alloc hb1q.size (.cells #[.string F0, .string F1, .string F2] 9))
          clear hb1 hb1q
          generalize w1.alloc (.cells #[.string F0, .string F1, .string F2] 9) = w5 at *
          generalize w1.heap.size = G at *
          refine anyT_imp (S2 := fun W : World => W.cell? ⟨G, k, none⟩ = some (.string F)) (fun _ _ => trivial) _ ?_
          refine takeS (i := 15) (v := .pointer (some ⟨G, k, none⟩)) rfl rfl (by kernel_rfl) (by kernel_rfl) (by kernel_rfl) (fun _ _ _ h => h) (by decide) (by kernel_rfl) ?_ hld ?_
          · intro w hSw; (try dsimp only at hSw); go_simp <;> first | (with_reducible rfl) | (intro hh; omega) | (rw [if_neg (by omega)]) | (rw [if_neg (by simp only [ByteArray.size_append]; omega)]) | (rw [if_neg (by simp; omega)])
          simp only [List.setIfInBounds_toArray, List.set_cons_zero, List.set_cons_succ]
          refine takeS (i := 16) (v := .string F) rfl rfl (by kernel_rfl) (by kernel_rfl) (by kernel_rfl) (fun _ _ _ h => h) (by decide) (by kernel_rfl) ?_ hld ?_
          · intro w hSw; (try dsimp only at hSw); go_simp <;> (try rw [hSw]) <;> first | (with_reducible rfl) | omega | (rw [if_neg (by omega)]) | (rw [if_neg (by simp only [ByteArray.size_append]; omega)]) | (rw [if_neg (by simp; omega)])
          simp only [List.setIfInBounds_toArray, List.set_cons_zero, List.set_cons_succ]
          refine takeS (i := 17) (v := .string (Q ++ F)) rfl rfl (by kernel_rfl) (by kernel_rfl) (by kernel_rfl) (fun _ _ _ h => h) (by decide) (by kernel_rfl) ?_ hld ?_
          · intro w hSw; (try dsimp only at hSw); go_simp <;> first | (with_reducible rfl) | omega | (rw [if_neg (by omega)]) | (rw [if_neg (by simp only [ByteArray.size_append]; omega)]) | (rw [if_neg (by simp; omega)])
          simp only [List.setIfInBounds_toArray, List.set_cons_zero, List.set_cons_succ]
          have hsq : (Q ++ F).size ≤ 281474976702484 := by rw [ByteArray.size_append]; omega
          refine takeS (i := 18) (v := .string (T ++ (Q ++ F))) rfl rfl (by kernel_rfl) (by kernel_rfl) (by kernel_rfl) (fun _ _ _ h => h) (by decide) (by kernel_rfl) ?_ hld ?_
          · intro w hSw; (try dsimp only at hSw); go_simp <;> first | (with_reducible rfl) | omega | (rw [if_neg (by omega)]) | (rw [if_neg (by simp only [ByteArray.size_append]; omega)]) | (rw [if_neg (by simp; omega)])
          simp only [List.setIfInBounds_toArray, List.set_cons_zero, List.set_cons_succ]
          refine oneT (i := 19) rfl (by kernel_rfl) (fun K hK => ?_)
          go_simp
          refine hK.out _ _ (fun _ => hld) ?_
          clear hK
          try simp only [List.setIfInBounds_toArray, List.set_cons_zero, List.set_cons_succ, Act.put]
          refine doneT (by kernel_rfl) ?_ _
          go_wp2_with fail
          go_meet
          exact ⟨by rw [HTS.out Q HQQ.out], HBZ.out⟩
        · go_simp
          refine hK.out _ _ (fun _ => trivial) ?_
          clear hK
          try simp only [List.setIfInBounds_toArray, List.set_cons_zero, List.set_cons_succ, Act.put]
          have hld := HLD.out wd
          have HB1 := Lib.hid (HB0.out.alloc HB0.out.size (.cells #[.string F0, .string F1, .string F2] 9))
          have hlt1 : wd.heap.size < (wd.alloc (.cells #[.string F0, .string F1, .string F2] 9)).heap.size := (Has.new wd #[.string F0, .string F1, .string F2] 9).lt
          generalize wd.alloc (.cells #[.string F0, .string F1, .string F2] 9) = w5 at *
          generalize wd.heap.size = G at *
          refine anyT_imp (S2 := fun W : World => W.cell? ⟨G, k, none⟩ = some (.string F)) (fun _ _ => trivial) _ ?_
          refine takeS (i := 15) (v := .pointer (some ⟨G, k, none⟩)) rfl rfl (by kernel_rfl) (by kernel_rfl) (by kernel_rfl) (fun _ _ _ h => h) (by decide) (by kernel_rfl) ?_ hld ?_
          · intro w hSw; (try dsimp only at hSw); go_simp <;> first | (with_reducible rfl) | (intro hh; omega) | (rw [if_neg (by omega)]) | (rw [if_neg (by simp only [ByteArray.size_append]; omega)]) | (rw [if_neg (by simp; omega)])
          simp only [List.setIfInBounds_toArray, List.set_cons_zero, List.set_cons_succ]
          refine takeS (i := 16) (v := .string F) rfl rfl (by kernel_rfl) (by kernel_rfl) (by kernel_rfl) (fun _ _ _ h => h) (by decide) (by kernel_rfl) ?_ hld ?_
          · intro w hSw; (try dsimp only at hSw); go_simp <;> (try rw [hSw]) <;> first | (with_reducible rfl) | omega | (rw [if_neg (by omega)]) | (rw [if_neg (by simp only [ByteArray.size_append]; omega)]) | (rw [if_neg (by simp; omega)])
          simp only [List.setIfInBounds_toArray, List.set_cons_zero, List.set_cons_succ]
          refine oneT (i := 2) rfl (by kernel_rfl) (fun K hK => ?_)
          go_simp
          refine (Quote_any p w5 (by omega)).mono ?_
          rintro e w1 ⟨rfl, hb1⟩
          have HBZ := Lib.hid (below_up HB1.out hb1 HB1.out.size)
          obtain ⟨Q, hQ⟩ : ∃ Q : ByteArray, Q = ⟨(quo p.data.toList).toArray⟩ := ⟨_, rfl⟩
          rw [← hQ] at hQs ⊢
          have HQQ := Lib.hid hQ
          have hldz : w1.cell? ⟨G, k, none⟩ = some (.string F) := (below_cell hb1 hlt1).trans hld
          clear hQ hld hb1
          refine hK.out _ _ (fun _ => hldz) ?_
          clear hK
          try simp only [List.setIfInBounds_toArray, List.set_cons_zero, List.set_cons_succ, Act.put]
          refine takeS (i := 17) (v := .string (Q ++ F)) rfl rfl (by kernel_rfl) (by kernel_rfl) (by kernel_rfl) (fun _ _ _ h => h) (by decide) (by kernel_rfl) ?_ hldz ?_
          · intro w hSw; (try dsimp only at hSw); go_simp <;> first | (with_reducible rfl) | omega | (rw [if_neg (by omega)]) | (rw [if_neg (by simp only [ByteArray.size_append]; omega)]) | (rw [if_neg (by simp; omega)])
          simp only [List.setIfInBounds_toArray, List.set_cons_zero, List.set_cons_succ]
          have hsq : (Q ++ F).size ≤ 281474976702484 := by rw [ByteArray.size_append]; omega
          refine takeS (i := 18) (v := .string (T ++ (Q ++ F))) rfl rfl (by kernel_rfl) (by kernel_rfl) (by kernel_rfl) (fun _ _ _ h => h) (by decide) (by kernel_rfl) ?_ hldz ?_
          · intro w hSw; (try dsimp only at hSw); go_simp <;> first | (with_reducible rfl) | omega | (rw [if_neg (by omega)]) | (rw [if_neg (by simp only [ByteArray.size_append]; omega)]) | (rw [if_neg (by simp; omega)])
          simp only [List.setIfInBounds_toArray, List.set_cons_zero, List.set_cons_succ]
          refine oneT (i := 19) rfl (by kernel_rfl) (fun K hK => ?_)
          go_simp
          refine hK.out _ _ (fun _ => hldz) ?_
          clear hK
          try simp only [List.setIfInBounds_toArray, List.set_cons_zero, List.set_cons_succ, Act.put]
          refine doneT (by kernel_rfl) ?_ _
          go_wp2_with fail
          go_meet
          exact ⟨by rw [HTS.out Q HQQ.out], HBZ.out⟩
      case rest =>
        obtain ⟨rfl, hbc⟩ := hcut
        have HBC := Lib.hid (HI.out.below.trans (hbc.mono HI.out.below.size))
        have HOW := Lib.hid (owns_below HI.out.own hbc)
        have c2 := HC2.out wc HBC.out
        have hBw : w2.heap.size ≤ wc.heap.size := HBC.out.size
        obtain ⟨T2, hT2⟩ : ∃ T2, T2 = bs (tplT (segN (lsL ls) (i + 1)) []) := ⟨_, rfl⟩
        have HT2 := Lib.hid hT2
        rw [← hT2]
        have hle : i + 1 ≤ ls.length := by omega
        clear hbc hT2 c0 hcv wz wz32 HI HTT HCC
        generalize wc = w5 at *
        have hWp : (W ++ p).size ≤ 2392537301971104 := by rw [ByteArray.size_append]; omega
        go_upto_block 2 with fail
        go_cut [6] (fun v wx => wx = w5 ∧ v = .string (bs (wantN (lsL ls) (lsL vs) (i + 1))))
        case first =>
          have HWN := Lib.hid (fun X hX => want_step (lsL ls) (lsL vs) i W p u X HWW.out HSP.out HSV.out hX)
          rcases (show k = 0 ∨ k = 1 ∨ k = 2 by omega) with rfl | rfl | rfl
          · have hk0 : Int.tmod (i : Int) 3 = 0 := hkz
            clear hkz
            go_wp2_with fail
            go_meet
            exact ⟨rfl, by rw [HWN.out u (by rw [val_0 _ HKK.out])]⟩
          · have hk0 : Int.tmod (i : Int) 3 = 1 := hkz
            clear hkz
            by_cases hu : u.data.toList = []
            · obtain rfl : u = ⟨#[]⟩ := bs_inj hu
              go_wp2_with fail
              go_meet
              exact ⟨rfl, by rw [HWN.out ⟨#[110, 111, 110, 101]⟩ (by rw [val_1 _ HKK.out, if_pos rfl])]⟩
            · have hu0 : u.toList ≠ [] := by rw [ByteArray.toList_eq]; exact hu
              have hu1 : (u.toList == []) = false := beq_eq_false_iff_ne.2 hu0
              have hu2 : u.toList.isEmpty = false := by
                cases h : u.toList with
                | nil => exact absurd h hu0
                | cons _ _ => rfl
              go_wp2_with fail
              go_meet
              exact ⟨rfl, by rw [HWN.out u (by rw [val_1 _ HKK.out, if_neg hu])]⟩
          · have hk0 : Int.tmod (i : Int) 3 = 2 := hkz
            clear hkz
            by_cases hu : u.data.toList = []
            · obtain rfl : u = ⟨#[]⟩ := bs_inj hu
              go_wp2_with fail
              go_meet
              exact ⟨rfl, by rw [HWN.out ⟨#[110, 111]⟩ (by rw [val_2 _ HKK.out, if_pos rfl])]⟩
            · have hu0 : u.toList ≠ [] := by rw [ByteArray.toList_eq]; exact hu
              have hu1 : (u.toList == []) = false := beq_eq_false_iff_ne.2 hu0
              have hu2 : u.toList.isEmpty = false := by
                cases h : u.toList with
                | nil => exact absurd h hu0
                | cons _ _ => rfl
              go_wp2_with fail
              go_meet
              exact ⟨rfl, by rw [HWN.out ⟨#[121, 101, 115]⟩ (by rw [val_2 _ HKK.out, if_neg hu])]⟩
        case rest =>
          obtain ⟨hw, rfl⟩ := hcut
          rw [hw]
          clear hw
          obtain ⟨W2, hW2⟩ : ∃ W2, W2 = bs (wantN (lsL ls) (lsL vs) (i + 1)) := ⟨_, rfl⟩
          have HW2 := Lib.hid hW2
          rw [← hW2]
          clear hW2
          go_wp2_with (at_builtin; go_must (refine append_one rfl _ _ 24 rfl w2.heap.size 27 (.agg #[.string ⟨#[]⟩, .string ⟨#[]⟩]) 2 32 Try.underlying24 infoPr rfl (by decide) w5 w5 _ _ _ rfl HOW.out [.string NM, .string u] rfl rfl rfl (by simp [Value.oneCell']) (by omega) (by omega) hBw (Below.refl _ _) ?_); intro v' w6 ho hb6 hg6 hnn; obtain ⟨na, nc, rfl⟩ := owns_slice ho; have HO6 := Lib.hid ho; have HB6 := Lib.hid hb6; clear ho hb6 hg6 hnn)
          go_roundw
          case rel =>
            refine ⟨i + 1, by go_num, hle, by rw [HT2.out], by rw [HW2.out], ?_, HBC.out.trans HB6.out⟩
            have h := HO6.out
            rw [prsN_succ, List.flatMap_append]
            rw [show [(nameN i, (lsL vs).getD i [])].flatMap encP = [.string NM, .string u] from by
              rw [HSV.out, ← HNM.out]
              rfl]
            exact h
          case measure => simp [intOf]; omega
    · obtain rfl : i = ls.length := by omega
      have HOK := Lib.hid (show TpOk (segN (lsL ls) ls.length) [] T from ⟨by omega, by simp [segN]; omega, fun x hx => (by
        obtain ⟨j, hj, rfl⟩ := List.mem_map.1 hx
        exact fdN_ok j (by have := List.mem_range.1 hj; omega)), by rw [HTT.out]; rfl, fun x hx => (by
        obtain ⟨j, hj, rfl⟩ := List.mem_map.1 hx
        exact Nat.le_trans (lsL_small HS1.out j) (by decide)), by simp⟩)
      have HBR := Lib.hid (below_up HB2.out HI.out.below HB2.out.size)
      have hln : (prsN (lsL vs) ls.length).length = ls.length := by simp [prsN]
      have HPR := Lib.hid (show Prs wr (.slice oa ls.length oc) (prsN (lsL vs) ls.length) from slice_of_owns encP (by rw [hln]; exact HI.out.own) (fun _ _ => rfl) (fun _ _ => rfl))
      have HPK := Lib.hid (prs_ok (lsL vs) (n := ls.length) hl8 (fun x hx => by
        obtain ⟨y, hy, rfl⟩ := List.mem_map.1 hx
        have := HS2.out y hy
        simp
        omega))
      have HFT := Lib.hid (fill_top (lsL ls) (lsL vs) (n := ls.length) hl8)
      clear hln HI
      go_wp2_with fail
      refine (CheckTemplate_any _ _ T _ HOK.out).mono ?_
      rintro e w4 ⟨rfl, hb4⟩
      have HB4 := Lib.hid (below_up HBR.out hb4 HBR.out.size)
      have HP4 := Lib.hid (HPR.out.below hb4)
      clear hb4
      rcases tcode_cases T with hc | hc | hc
      · have HC := Lib.hid hc
        rw [hc]
        clear hc
        go_wp2_with fail
        refine (Fill_any _ _ T _ _ _ HOK.out HP4.out HPK.out (names_in _ _ _)).mono ?_
        rintro e w5 ⟨o, k, rfl, hb5, _, h2⟩
        have HB5 := Lib.hid (below_up HB4.out hb5 HB4.out.size)
        clear hb5
        rcases h2 HC.out with ⟨rfl, rfl, _⟩ | ⟨rfl, rfl⟩
        · clear h2
          go_wp2_with fail
          go_ret
          exact ⟨rfl, HB5.out⟩
        · clear h2
          have hww : (W.toList == W.toList) = true := beq_self_eq_true _
          rw [HFT.out, ← HWW.out]
          go_wp2_with fail
          go_ret
          exact ⟨rfl, HB5.out⟩
      · rw [hc]
        clear hc
        go_wp2_with fail
        go_ret
        exact ⟨rfl, HB4.out⟩
      · rw [hc]
        clear hc
        go_wp2_with fail
        go_ret
        exact ⟨rfl, HB4.out⟩
end Go.Proofs.Ytfohehldkchnjaa
