/- The walks of level.kindWords, targetWords, testText. -/
import Derived.Test.YtfcjbjkciefbmaaDoorPoChk3
import Derived.Test.YtfcjbjkciefbmaaDoorCtW
import Derived.Test.YtfcjbjkciefbmaaDoorNumb
import Derived.Test.YtfcjbjkciefbmaaDoorOrd2
namespace Go.Proofs.YtfcjbjkciefbmaaDoor
open Go.RowKit

theorem kindWords_any (w : World) :
    Calls Tryd.prog 21 #[] w fun e w' => e = .returned (.slice (some ⟨w.heap.size, 0, none⟩) 7 7) ∧ Below w.heap.size w w' ∧ WordsB w' w.heap.size kindsL := by
  go_enter Tryd.func21, Tryd.ntmps21
  go_wp2_with fail
  go_ret
  exact ⟨rfl, (Below.refl _ _).alloc (Nat.le_refl _) _, Has.new _ _ _⟩
theorem targetWords_any (w : World) :
    Calls Tryd.prog 13 #[] w fun e w' => e = .returned (.slice (some ⟨w.heap.size, 0, none⟩) 3 3) ∧ Below w.heap.size w w' ∧ WordsB w' w.heap.size tgtsL := by
  go_enter Tryd.func13, Tryd.ntmps13
  go_wp2_with fail
  go_ret
  exact ⟨rfl, (Below.refl _ _).alloc (Nat.le_refl _) _, Has.new _ _ _⟩

set_option maxRecDepth 100000 in
set_option maxHeartbeats 4000000 in
theorem testText_any (t : TstD) (w : World) (hE : Env w) (h : TstOne t) (hn : NumOk t) :
    Calls Tryd.prog 12 #[.agg #[.int .i64 t.fld, .int .i64 t.kind, .int .i64 t.num, .string t.text]] w fun e w' => e = .returned (.string (bs (lineT t))) ∧ Below w.heap.size w w' := by
  have hfl := h.fld
  have hki := h.kind.1
  have hsh := h.short
  have hnn : t.num.natAbs < 10 ^ 18 := hn
  have hp18 : (10 : Nat) ^ 18 = 1000000000000000000 := by decide
  have HS0 := Lib.hid (show t.kind = 0 → lineT t = whenW ++ 32 :: (Lib.itoa t.fld ++ 32 :: kindW t.kind) by
    intro e
    unfold lineT restT endT
    rw [if_pos e])
  have HS3 := Lib.hid (show t.kind = 3 → lineT t = (whenW ++ 32 :: (Lib.itoa t.fld ++ 32 :: kindW t.kind)) ++ 32 :: t.text.data.toList by
    intro e
    unfold lineT restT endT valT
    rw [if_neg (by omega), if_pos e]
    simp)
  have HSN := Lib.hid (show t.kind ≠ 0 → t.kind ≠ 3 → lineT t = (whenW ++ 32 :: (Lib.itoa t.fld ++ 32 :: kindW t.kind)) ++ 32 :: Lib.itoa t.num by
    intro e e2
    unfold lineT restT endT valT
    rw [if_neg e, if_neg e2]
    simp)
  generalize lineT t = L at *
  clear h hn
  obtain ⟨fld, kind, num, text⟩ := t
  simp only at *
  obtain ⟨k, rfl⟩ := Int.eq_ofNat_of_zero_le hki.1
  have hk7 : k < 7 := by omega
  have hk7i : (k : Int) < 7 := by omega
  have hbx := box1 w #[.int .i64 fld, .int .i64 (k : Int), .int .i64 num, .string text] 51
  have HX := Lib.hid hbx.1
  have HB := Lib.hid hbx.2
  have HE := Lib.hid hE
  clear hbx hE
  go_enter Tryd.func12, Tryd.ntmps12
  go_upto_region 1 with fail
  generalize w.alloc (.cells #[.int .i64 fld, .int .i64 (k : Int), .int .i64 num, .string text] 51) = w2 at *
  have hf19 : (Lib.itoa fld).length ≤ 19 := itoa_short18 fld (by omega)
  have hk6 : (kindW (k : Int)).length ≤ 6 := kindW_short _
  obtain ⟨P, hP⟩ : ∃ P, P = whenW ++ 32 :: (Lib.itoa fld ++ 32 :: kindW (k : Int)) := ⟨_, rfl⟩
  rw [← hP] at HS0 HS3 HSN
  have HPL := Lib.hid (show P.length ≤ 40 by
    rw [hP, List.length_append, List.length_cons, List.length_append, List.length_cons]
    have : whenW.length = 4 := rfl
    omega)
  go_cut [3] (fun v wx => v = .string (bs P) ∧ Below w.heap.size w wx ∧ Has wx w.heap.size #[.int .i64 fld, .int .i64 (k : Int), .int .i64 num, .string text] 51)
  case first =>
    clear HS0 HS3 HSN
    have hf19' : (bs (Lib.itoa fld)).size ≤ 19 := by rw [bs_size]; exact hf19
    have hk6' : (bs (kindW (k : Int))).size ≤ 6 := by rw [bs_size]; exact hk6
    have hc := fun W (hW : Below w2.heap.size w2 W) => HX.out.below hW HX.out.lt
    have HC := Lib.hid hc
    have hCAT : ((⟨#[119, 104, 101, 110, 32]⟩ : ByteArray) ++ bs (Lib.itoa fld) ++ ⟨#[32]⟩) ++ bs (kindW (k : Int)) = bs P := by
      rw [hP]
      have e1 : (⟨#[119, 104, 101, 110, 32]⟩ : ByteArray) = bs (whenW ++ [32]) := rfl
      have e2 : (⟨#[32]⟩ : ByteArray) = bs [32] := rfl
      rw [e1, e2, bs_append, bs_append, bs_append]
      simp
    have HCAT := Lib.hid hCAT
    clear hCAT hP hc
    have hS0 : (fun W : World => W.cell? ⟨w.heap.size, 0, none⟩ = some (.int .i64 fld) ∧ W.cell? ⟨w.heap.size, 1, none⟩ = some (.int .i64 (k : Int))) w2.drew := ⟨HX.out.cell 0, HX.out.cell 1⟩
    refine anyT_start (S := fun W : World => W.cell? ⟨w.heap.size, 0, none⟩ = some (.int .i64 fld) ∧ W.cell? ⟨w.heap.size, 1, none⟩ = some (.int .i64 (k : Int))) (t := 13) (by kernel_rfl) ?_
    have HBD := Lib.hid ((Below.refl w2.heap.size w2).drew)
    have HXD := Lib.hid (HX.out.below HBD.out HX.out.lt)
    have hzd : w2.drew.heap.size = w2.heap.size := rfl
    generalize w2.drew = wd at *
    refine takeS (i := 0) (v := ?_) rfl rfl (by kernel_rfl) (by kernel_rfl) (by kernel_rfl) (fun _ _ _ h => h) (by decide) (by kernel_rfl) ?_ hS0 ?_
    rotate_left
    · intro w hSw; (try dsimp only at hSw); go_simp; (try with_reducible rfl)
    simp only [List.setIfInBounds_toArray, List.set_cons_zero, List.set_cons_succ]
    refine takeS (i := 1) (v := ?_) rfl rfl (by kernel_rfl) (by kernel_rfl) (by kernel_rfl) (fun _ _ _ h => h) (by decide) (by kernel_rfl) ?_ hS0 ?_
    rotate_left
    · intro w hSw; (try dsimp only at hSw); go_simp; (try with_reducible rfl)
    simp only [List.setIfInBounds_toArray, List.set_cons_zero, List.set_cons_succ]
    refine takeS (i := 6) (v := ?_) rfl rfl (by kernel_rfl) (by kernel_rfl) (by kernel_rfl) (fun _ _ _ h => h) (by decide) (by kernel_rfl) ?_ hS0 ?_
    rotate_left
    · intro w hSw; (try dsimp only at hSw); go_simp; (try with_reducible rfl)
    simp only [List.setIfInBounds_toArray, List.set_cons_zero, List.set_cons_succ]
    refine takeS (i := 7) (v := ?_) rfl rfl (by kernel_rfl) (by kernel_rfl) (by kernel_rfl) (fun _ _ _ h => h) (by decide) (by kernel_rfl) ?_ hS0 ?_
    rotate_left
    · intro w hSw; (try dsimp only at hSw); go_simp; (try with_reducible rfl)
    simp only [List.setIfInBounds_toArray, List.set_cons_zero, List.set_cons_succ]
    refine takeS (i := 8) (v := ?_) rfl rfl (by kernel_rfl) (by kernel_rfl) (by kernel_rfl) (fun _ _ _ h => h) (by decide) (by kernel_rfl) ?_ hS0 ?_
    rotate_left
    · intro w hSw; (try dsimp only at hSw); go_simp; (try with_reducible rfl)
    simp only [List.setIfInBounds_toArray, List.set_cons_zero, List.set_cons_succ]
    refine oneT (i := 2) rfl (by kernel_rfl) (fun K hK => ?_)
    go_simp
    refine (itoa_any fld (by omega) (by omega) wd (HE.out.below (below_up HB.out HBD.out HB.out.size))).mono ?_
    rintro e we ⟨rfl, hbe⟩
    have HBE := Lib.hid (below_up' HBD.out hbe)
    have HXE := Lib.hid (HC.out we HBE.out)
    have hS1 : (fun W : World => W.cell? ⟨w.heap.size, 0, none⟩ = some (.int .i64 fld) ∧ W.cell? ⟨w.heap.size, 1, none⟩ = some (.int .i64 (k : Int))) we := ⟨HXE.out.cell 0, HXE.out.cell 1⟩
    clear hbe
    refine hK.out _ _ (fun _ => hS1) ?_
    clear hK
    try simp only [List.setIfInBounds_toArray, List.set_cons_zero, List.set_cons_succ, Act.put]
    refine takeS (i := 3) (v := .string ((⟨#[119, 104, 101, 110, 32]⟩ : ByteArray) ++ bs (Lib.itoa fld))) rfl rfl (by kernel_rfl) (by kernel_rfl) (by kernel_rfl) (fun _ _ _ h => h) (by decide) (by kernel_rfl) ?_ hS1 ?_
    · intro w hSw; (try dsimp only at hSw); go_simp; first | (with_reducible rfl) | omega | (rw [if_neg (by omega)]) | (rw [if_neg (by simp only [ByteArray.size_append]; omega)]) | (rw [if_neg (by simp; omega)])
    simp only [List.setIfInBounds_toArray, List.set_cons_zero, List.set_cons_succ]
    refine takeS (i := 4) (v := .string ((⟨#[119, 104, 101, 110, 32]⟩ : ByteArray) ++ bs (Lib.itoa fld) ++ ⟨#[32]⟩)) rfl rfl (by kernel_rfl) (by kernel_rfl) (by kernel_rfl) (fun _ _ _ h => h) (by decide) (by kernel_rfl) ?_ hS1 ?_
    · intro w hSw; (try dsimp only at hSw); go_simp; first | (with_reducible rfl) | omega | (rw [if_neg (by omega)]) | (rw [if_neg (by simp only [ByteArray.size_append]; omega)]) | (rw [if_neg (by simp; omega)])
    simp only [List.setIfInBounds_toArray, List.set_cons_zero, List.set_cons_succ]
    refine oneT (i := 5) rfl (by kernel_rfl) (fun K hK => ?_)
    go_simp
    refine (kindWords_any we).mono ?_
    rintro e w6 ⟨rfl, hb6, hw6⟩
    have HB6 := Lib.hid (below_up HB.out (below_up' HBE.out hb6) HB.out.size)
    have HX6 := Lib.hid (HC.out w6 (below_up' HBE.out hb6))
    have hS2 : (fun W : World => W.cell? ⟨w.heap.size, 0, none⟩ = some (.int .i64 fld) ∧ W.cell? ⟨w.heap.size, 1, none⟩ = some (.int .i64 (k : Int))) w6 := ⟨HX6.out.cell 0, HX6.out.cell 1⟩
    have hcw : w6.cell? ⟨we.heap.size, k, none⟩ = some (.string (bs (kindW (k : Int)))) := hw6.cell k hk7
    clear hb6 hw6
    refine hK.out _ _ (fun _ => hS2) ?_
    clear hK
    try simp only [List.setIfInBounds_toArray, List.set_cons_zero, List.set_cons_succ, Act.put]
    refine oneT (i := 9) rfl (by kernel_rfl) (fun K hK => ?_)
    go_simp
    refine hK.out _ _ (fun _ => hS2) ?_
    clear hK
    try simp only [List.setIfInBounds_toArray, List.set_cons_zero, List.set_cons_succ, Act.put]
    refine oneT (i := 10) rfl (by kernel_rfl) (fun K hK => ?_)
    go_simp
    refine hK.out _ _ (fun _ => hS2) ?_
    clear hK
    try simp only [List.setIfInBounds_toArray, List.set_cons_zero, List.set_cons_succ, Act.put]
    refine oneT (i := 11) rfl (by kernel_rfl) (fun K hK => ?_)
    go_simp
    rw [if_neg (by omega)]
    go_simp
    refine hK.out _ _ (fun _ => hS2) ?_
    clear hK
    try simp only [List.setIfInBounds_toArray, List.set_cons_zero, List.set_cons_succ, Act.put]
    refine oneT (i := 12) rfl (by kernel_rfl) (fun K hK => ?_)
    go_simp
    refine hK.out _ _ (fun _ => hS2) ?_
    refine doneT (by kernel_rfl) ?_ _
    go_wp2_with fail
    go_meet
    exact ⟨by rw [← HCAT.out], HB6.out, HX6.out⟩
  case rest =>
    obtain ⟨rfl, hbw, hbx⟩ := hcut
    have HBW := Lib.hid hbw
    have k1 := hbx.cell 1
    have k2 := hbx.cell 2
    have k3 := hbx.cell 3
    clear hbw hbx hP hf19 hk6
    by_cases h0 : k = 0
    · subst h0
      have HL := Lib.hid (HS0.out rfl)
      clear HS0 HS3 HSN
      go_wp2_with fail
      go_ret
      exact ⟨by rw [HL.out]; rfl, HBW.out⟩
    by_cases h3 : k = 3
    · subst h3
      have HL := Lib.hid (HS3.out rfl)
      have hpz : (bs P).size ≤ 40 := by rw [bs_size]; exact HPL.out
      have HCAT := Lib.hid (show (bs P ++ (⟨#[32]⟩ : ByteArray)) ++ text = bs (P ++ 32 :: text.data.toList) from bs_inj (by simp [bs]))
      clear HS0 HS3 HSN
      generalize bs P = Q at *
      go_wp2_with fail
      go_ret
      exact ⟨by rw [HCAT.out, HL.out]; rfl, HBW.out⟩
    · have HL := Lib.hid (HSN.out (by omega) (by omega))
      have hpz : (bs P).size ≤ 40 := by rw [bs_size]; exact HPL.out
      have hn19 : (bs (Lib.itoa num)).size ≤ 19 := by rw [bs_size]; exact itoa_short18 num hnn
      have q0 : ((k : Int) == 0) = false := by simp; omega
      have q3 : ((k : Int) == 3) = false := by simp; omega
      have HCAT := Lib.hid (show (bs P ++ (⟨#[32]⟩ : ByteArray)) ++ bs (Lib.itoa num) = bs (P ++ 32 :: Lib.itoa num) from bs_inj (by simp [bs]))
      have HIT := Lib.hid (fun W hW => itoa_any num (by omega) (by omega) W hW)
      clear HS0 HS3 HSN
      generalize bs P = Q at *
      generalize bs (Lib.itoa num) = I at *
      go_wp2_with fail
      refine (HIT.out wc (HE.out.below HBW.out)).mono ?_
      rintro e w5 ⟨rfl, hb5⟩
      have HB5 := Lib.hid (below_up HBW.out hb5 HBW.out.size)
      clear hb5
      go_wp2_with fail
      go_ret
      exact ⟨by rw [HCAT.out, HL.out]; rfl, HB5.out⟩
end Go.Proofs.YtfcjbjkciefbmaaDoor
