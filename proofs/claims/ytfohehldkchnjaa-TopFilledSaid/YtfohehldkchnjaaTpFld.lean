/- The walk of the template reader's field at text that is a field. -/
import Derived.Test.YtfohehldkchnjaaTpChs
import Derived.Test.YtfohehldkchnjaaOrd
namespace Go.Proofs.Ytfohehldkchnjaa
open Go.RowKit

def nameI (c : Int) : Bool := (decide (97 ≤ c) && decide (c ≤ 122)) || isDigit c || c == 95
theorem nameB_I (c : UInt8) : nameB c = nameI (c.toNat : Int) := by
  unfold nameB nameI isDigit
  rw [Bool.eq_iff_iff]
  simp
  omega
theorem nameByte_int (c : Int) (w : World) :
    Calls Try.prog 26 #[.int .u8 c] w fun e w' => e = .returned (.bool (nameI c)) ∧ w = w' := by
  go_enter Try.func26, Try.ntmps26
  go_wp2_with (go_at_call 29; refine (digit_any _ _).mono ?_; rintro e w' ⟨rfl, rfl⟩)
  all_goals go_ret
  all_goals (refine ⟨?_, rfl⟩; simp [nameI, *]; try (intros; omega))
theorem nameByte_any (c : UInt8) (z : Int) (hz : (c.toNat : Int) = z) (w : World) :
    Calls Try.prog 26 #[.int .u8 z] w fun e w' => e = .returned (.bool (nameB c)) ∧ w' = w := by
  rw [nameB_I, hz]
  exact (nameByte_int z w).mono fun e w' ⟨h1, h2⟩ => ⟨h1, h2.symm⟩
def fdV (f : Fd) : Array Value := #[.string (bs f.name), .int .u8 f.kind, .string (bs f.one), .string (bs f.two)]
def fd0 : Array Value := #[.string ⟨#[]⟩, .int .u8 0, .string ⟨#[]⟩, .string ⟨#[]⟩]
theorem fdInfo : (Try.prog.info? 48).map (·.size) = some 4 := by kernel_rfl
theorem out_125 {c : UInt8} (h : selfB c = true) : outB ⟨#[125]⟩ c = true := by
  have hc : c ≠ 125 := by rintro rfl; revert h; decide
  unfold outB
  simp [Lib.indexByte, Ne.symm hc]
theorem out_125_58 {c : UInt8} (h : selfB c = true) : outB ⟨#[125, 58]⟩ c = true := by
  have hc : c ≠ 125 := by rintro rfl; revert h; decide
  have hd : c ≠ 58 := by rintro rfl; revert h; decide
  unfold outB
  simp [Lib.indexByte, Ne.symm hc, Ne.symm hd]
theorem extract_drop {s : ByteArray} {p : Nat} (hp : p ≤ s.size) (u v : List UInt8) (h : s.data.toList.drop p = u ++ v) : s.extract p (p + u.length) = bs u := by
  have hle := le_drop hp u v h
  apply ByteArray.ext
  apply Array.ext'
  rw [ByteArray.data_extract]
  simp only [Array.toList_extract, List.extract_eq_take_drop, bs]
  rw [show p + u.length - p = u.length by omega, h]
  simp
theorem bs_ne {u : List UInt8} (h : 0 < u.length) : (bs u).toList ≠ [] := by
  intro e
  have : (bs u).toList = u := by rw [ByteArray.toList_eq]; rfl
  rw [this] at e
  rw [e] at h
  exact absurd h (by decide)
/-- the state of the reading of a field: the reader's place, the result's block -/
structure FdS (r : Nat) (s : ByteArray) (q : Nat) (w W : World) : Prop where
  rd : TR W r s q
  grown : w.grownBy W (some r)
  res : Has W w.heap.size fd0 48
theorem FdS.mov {r : Nat} {s : ByteArray} {q q' : Nat} {w W W' : World} (h : FdS r s q w W) (hr : r < w.heap.size) (k : TMov r s q' W W') : FdS r s q' w W' :=
  ⟨k.rd, grownBy_trans h.grown k.grown, h.res.kept k.grown (by simp; omega)⟩
theorem FdS.drewN {r : Nat} {s : ByteArray} {q : Nat} {w W : World} (h : FdS r s q w W) (n : Nat) : FdS r s q w (W.drewN n) := ⟨h.rd, grownBy_drewN h.grown n, h.res⟩
theorem FdS.drew {r : Nat} {s : ByteArray} {q : Nat} {w W : World} (h : FdS r s q w W) : FdS r s q w W.drew := ⟨h.rd, grownBy_drew' h.grown, h.res⟩
theorem FdS.at {r : Nat} {s : ByteArray} {q : Nat} {w W : World} (h : FdS r s q w W) (hr : r < w.heap.size) (n : Int) (q' : Nat) (hn : n = q') : FdS r s q' w (W.setCell ⟨r, 1, none⟩ (.int .i64 n)) :=
  h.mov hr ⟨h.rd.to n q' hn, grownBy_set _ _ _ _⟩
theorem FdS.setG {r : Nat} {s : ByteArray} {q : Nat} {w W : World} {G : Nat} (h : FdS r s q w W) (hr : r < w.heap.size) (hG : w.heap.size < G) (i : Nat) (v : Value) : FdS r s q w (W.setCell ⟨G, i, none⟩ v) :=
  ⟨(Below.heap_setCell _ _ _ _ (show r ≠ G by omega)).trans h.rd, grownBy_setc h.grown (.inl (Nat.le_of_lt hG)), (Below.heap_setCell _ _ _ _ (show w.heap.size ≠ G by omega)).trans h.res⟩
theorem name_next {f : Fd} (hf : FdOk f) : ∃ c l, midT f ++ [125, 125] = c :: l ∧ nameB c = false ∧ (f.kind = 124 → c = 124) ∧ (f.kind = 63 → c = 63) ∧ (f.kind = 0 → c = 125) := by
  unfold midT
  rcases hf.kind with ⟨h, _, _⟩ | ⟨h, _⟩ | h
  · rw [if_neg (by omega), if_neg (by omega)]
    exact ⟨125, [125], rfl, by decide, fun g => by omega, fun g => by omega, fun _ => rfl⟩
  · rw [if_pos h]
    exact ⟨124, _, rfl, by decide, fun _ => rfl, fun g => by omega, fun g => by omega⟩
  · rw [if_neg (by omega), if_pos h]
    exact ⟨63, _, rfl, by decide, fun g => by omega, fun _ => rfl, fun g => by omega⟩
theorem name_at {s : ByteArray} {p2 k : Nat} {f : Fd} {rest : List UInt8} (hf : FdOk f) (hd : s.data.toList.drop p2 = f.name ++ (midT f ++ ([125, 125] ++ rest))) (hk : k ≤ f.name.length) :
    ∃ h : p2 + k < s.size, nameB s[p2 + k] = decide (k < f.name.length) := by
  obtain ⟨c, l, h1, h2, _⟩ := name_next hf
  by_cases e : k < f.name.length
  · have hd2 : s.data.toList.drop (p2 + (f.name.take k).length) = f.name.drop k ++ (midT f ++ ([125, 125] ++ rest)) := more_drop (f.name.take k) _ (by rw [← List.append_assoc, List.take_append_drop]; exact hd)
    rw [List.length_take, Nat.min_eq_left hk, List.drop_eq_getElem_cons e, List.cons_append] at hd2
    obtain ⟨⟨hq, hx⟩, _⟩ := at_drop hd2
    refine ⟨hq, ?_⟩
    rw [hx, hf.all _ (List.getElem_mem e)]
    simp [e]
  · have hk' : k = f.name.length := by omega
    have hd2 := more_drop f.name _ hd
    rw [← List.append_assoc, h1, ← hk'] at hd2
    obtain ⟨⟨hq, hx⟩, _⟩ := at_drop hd2
    refine ⟨hq, ?_⟩
    rw [hx, h2]
    simp [e]

set_option maxRecDepth 100000 in
set_option maxHeartbeats 8000000 in
theorem field_any (r : Nat) (s : ByteArray) (p : Nat) (f : Fd) (rest : List UInt8) (w : World) (hf : FdOk f) (hR : TR w r s p) (hp : p ≤ s.size) (hd : s.data.toList.drop p = fldT f ++ rest) (hs : s.size ≤ 90000000) :
    Calls Try.prog 34 #[.pointer (some ⟨r, 0, none⟩)] w fun e w' => e = .returned (.agg (fdV f)) ∧ TMov r s (p + (fldT f).length) w w' := by
  have hr := hR.lt
  have HI0 := Lib.hid (show FdS r s p w (w.alloc (.cells #[.string ⟨#[]⟩, .int .u8 0, .string ⟨#[]⟩, .string ⟨#[]⟩] 48)) from
    ⟨Has.alloc hR _, grownBy_alloc' (grownBy_refl _ _) _, Has.new _ _ _⟩)
  obtain ⟨p1, hp1⟩ : ∃ n, n = p + 1 := ⟨_, rfl⟩
  obtain ⟨p2, hp2⟩ : ∃ n, n = p + 2 := ⟨_, rfl⟩
  have hd0 : s.data.toList.drop p = 123 :: (123 :: (f.name ++ (midT f ++ ([125, 125] ++ rest)))) := by rw [hd]; simp [fldT]
  obtain ⟨⟨hl0, hx0⟩, hd1⟩ := at_drop hd0
  rw [← hp1] at hd1
  obtain ⟨⟨hl1, hx1⟩, hd2⟩ := at_drop hd1
  have hp12 : p1 + 1 = p2 := by omega
  rw [hp12] at hd2
  have HD := Lib.hid hd2
  have HF := Lib.hid hf
  have HM0 := Lib.hid (fun (W : World) (hW : TR W r s p) => must_any r s p 123 W hW hl0 (by omega) (by rw [hx0]; rfl))
  have HM1 := Lib.hid (fun (W : World) (hW : TR W r s p1) => must_any r s p1 123 W hW hl1 (by omega) (by rw [hx1]; rfl))
  rw [← hp1] at HM0
  rw [hp12] at HM1
  have hfew := hf.few
  have hpos := hf.pos
  obtain ⟨q, hq⟩ : ∃ q, q = p2 + f.name.length := ⟨_, rfl⟩
  have HQ := Lib.hid hq
  have hps : p2 ≤ s.size := by omega
  have hqs : q + 2 ≤ s.size := by
    have h1 := le_drop hps (f.name ++ (midT f ++ [125, 125])) rest (by rw [hd2]; simp)
    simp at h1
    omega
  have HPP := Lib.hid hp2
  clear hR hd hd0 hd1 hd2 hx0 hx1 hf hp1 hp2 hp12 hq
  go_enter Try.func34, Try.ntmps34
  go_upto_region 1 with fail
  generalize w.alloc (.cells #[.string ⟨#[]⟩, .int .u8 0, .string ⟨#[]⟩, .string ⟨#[]⟩] 48) = w1 at *
  go_wp2_with fail
  refine (HM0.out w1 HI0.out.rd).mono ?_
  rintro e w2 ⟨rfl, hm⟩
  have HI2 := Lib.hid (HI0.out.mov hr hm)
  clear hm HM0 HI0
  go_wp2_with fail
  refine (HM1.out w2 HI2.out.rd).mono ?_
  rintro e w3 ⟨rfl, hm⟩
  have HI3 := Lib.hid (HI2.out.mov hr hm)
  obtain ⟨c0, c1, c2, f1⟩ := HI3.out.rd.cells
  clear hm HM1 HI2
  go_wp2_with fail
  go_loopg [] f.name.length (fun n wr => ∃ k, n = f.name.length - k ∧ k ≤ f.name.length ∧ FdS r s (p2 + k) w wr)
  case atStart => exact ⟨0, rfl, Nat.zero_le _, HI3.out⟩
  case round =>
    obtain ⟨k, rfl, hk, hI⟩ := hrel
    have HI := Lib.hid hI
    clear c0 c1 c2 f1
    obtain ⟨c0, c1, c2, f1⟩ := hI.rd.cells
    obtain ⟨hlt, hnb⟩ := name_at HF.out HD.out hk
    obtain ⟨pk, hpk⟩ : ∃ n, n = p2 + k := ⟨_, rfl⟩
    obtain ⟨kb, hkb⟩ : ∃ b, b = decide (k < f.name.length) := ⟨_, rfl⟩
    have HPK := Lib.hid hpk
    have HKB := Lib.hid hkb
    rw [← hkb] at hnb
    rw [← hpk] at c1
    have hlt2 : pk < s.size := by omega
    have HNB := Lib.hid (show ∀ W, Calls Try.prog 26 #[.int .u8 s[pk].toNat] W fun e w' => e = .returned (.bool kb) ∧ w' = W from fun W => by
      subst hpk
      rw [← hnb]
      exact nameByte_any _ _ rfl W)
    have hlt1 : decide ((pk : Int) < (s.size : Int)) = true := decide_eq_true (by omega)
    have w1 : IntKind.i64.wrap ((pk : Int) - (p2 : Int)) = ((k : Nat) : Int) := by rw [IntWalk.i64_in _ (by omega)]; omega
    have HID := Lib.hid hI.drew
    clear hI hnb hpk hkb hlt HI3
    go_upto_region 4 with fail
    go_cut [50] (fun v wx => v = .bool kb ∧ FdS r s (p2 + k) w wx)
    case first =>
      by_cases h20 : k < 20
      · have hd20 : decide ((k : Int) < 20) = true := decide_eq_true (by omega)
        go_region_held3 (fun W => W.cell? ⟨r, 0, none⟩ = some (.string s) ∧ W.cell? ⟨r, 1, none⟩ = some (.int .i64 (pk : Int)) ∧ W.cell? ⟨r, 2, none⟩ = some (.bool false))
          (first | exact ⟨HI.out.rd.cells.1, by rw [HPK.out]; exact HI.out.rd.cells.2.1, HI.out.rd.cells.2.2.1⟩ | fail)
          ((go_at_call 26; refine (HNB.out _).mono ?_; rintro e w' ⟨rfl, rfl⟩))
        go_wp2
        go_meet
        exact ⟨rfl, HID.out⟩
      · have hd20 : decide ((k : Int) < 20) = false := decide_eq_false (by omega)
        have hn20 : ¬ k < 20 := h20
        have hkf : kb = false := by rw [HKB.out]; simp; omega
        go_quiet (fail)
        go_wp2_with fail
        go_meet
        exact ⟨by rw [hkf], HI.out.drewN nq⟩
    case rest =>
      obtain ⟨rfl, hI2⟩ := hcut
      have HI2 := Lib.hid hI2
      clear c0 c1 c2 f1
      obtain ⟨c0, c1, c2, f1⟩ := hI2.rd.cells
      rw [← HPK.out] at c1
      clear hI2 HNB HID HI
      generalize wc = w4 at *
      cases kb with
      | true =>
        have hkl : k < f.name.length := of_decide_eq_true HKB.out.symm
        have w2' : IntKind.i64.wrap ((pk : Int) + 1) = ((pk + 1 : Nat) : Int) := by rw [IntWalk.i64_in _ (by omega)]; omega
        have HZ := Lib.hid (HI2.out.at hr ((pk + 1 : Nat) : Int) (p2 + (k + 1)) (by rw [HPK.out]; omega))
        go_wp2_with fail
        go_roundg (f.name.length - (k + 1))
        case measure => omega
        case rel => exact ⟨k + 1, rfl, hkl, by first | exact HZ.out | (have := HZ.out; push_cast at this; exact this)⟩
      | false =>
        have hkl : k = f.name.length := by have := of_decide_eq_false HKB.out.symm; omega
        have hpq : pk = q := by rw [HPK.out, HQ.out, hkl]
        have HIQ := Lib.hid (show FdS r s q w w4 from by rw [HQ.out, ← hkl]; exact HI2.out)
        subst hpq
        clear HI2 w1 hlt1 hkl hk
        have hxn : s.extract p2 pk = bs f.name := by
          rw [HQ.out]
          exact extract_drop hps _ _ HD.out
        have hb1 : (0 : Int) ≤ (p2 : Int) := by omega
        have hb2 : (p2 : Int) ≤ (pk : Int) := by have := HQ.out; omega
        have hb3 : (pk : Int) ≤ (s.size : Int) := by omega
        have hS0 : (fun W : World => W.cell? ⟨r, 0, none⟩ = some (.string s) ∧ W.cell? ⟨r, 1, none⟩ = some (.int .i64 (pk : Int))) w4.drew := ⟨c0, c1⟩
        go_upto_region 6 with fail
        refine anyT_start (S := fun W : World => W.cell? ⟨r, 0, none⟩ = some (.string s) ∧ W.cell? ⟨r, 1, none⟩ = some (.int .i64 (pk : Int))) (t := 12) (by kernel_rfl) ?_
        refine takeT (i := 0) (v := ?_) rfl rfl (by kernel_rfl) (by kernel_rfl) (by kernel_rfl) (fun _ _ _ h => h) (by decide) (by kernel_rfl) (by kernel_rfl) ?_ hS0 ?_
        rotate_left
        · intro w hSw; (try dsimp only at hSw); go_simp; (try with_reducible rfl)
        simp only [List.setIfInBounds_toArray, List.set_cons_zero, List.set_cons_succ]
        refine takeT (i := 1) (v := ?_) rfl rfl (by kernel_rfl) (by kernel_rfl) (by kernel_rfl) (fun _ _ _ h => h) (by decide) (by kernel_rfl) (by kernel_rfl) ?_ hS0 ?_
        rotate_left
        · intro w hSw; (try dsimp only at hSw); go_simp; (try with_reducible rfl)
        simp only [List.setIfInBounds_toArray, List.set_cons_zero, List.set_cons_succ]
        refine takeT (i := 2) (v := ?_) rfl rfl (by kernel_rfl) (by kernel_rfl) (by kernel_rfl) (fun _ _ _ h => h) (by decide) (by kernel_rfl) (by kernel_rfl) ?_ hS0 ?_
        rotate_left
        · intro w hSw; (try dsimp only at hSw); go_simp; (try with_reducible rfl)
        simp only [List.setIfInBounds_toArray, List.set_cons_zero, List.set_cons_succ]
        refine takeT (i := 3) (v := ?_) rfl rfl (by kernel_rfl) (by kernel_rfl) (by kernel_rfl) (fun _ _ _ h => h) (by decide) (by kernel_rfl) (by kernel_rfl) ?_ hS0 ?_
        rotate_left
        · intro w hSw; (try dsimp only at hSw); go_simp; (try with_reducible rfl)
        simp only [List.setIfInBounds_toArray, List.set_cons_zero, List.set_cons_succ]
        refine takeT (i := 4) (v := ?_) rfl rfl (by kernel_rfl) (by kernel_rfl) (by kernel_rfl) (fun _ _ _ h => h) (by decide) (by kernel_rfl) (by kernel_rfl) ?_ hS0 ?_
        rotate_left
        · intro w hSw; (try dsimp only at hSw); go_simp; (try with_reducible rfl)
        simp only [List.setIfInBounds_toArray, List.set_cons_zero, List.set_cons_succ]
        refine takeT (i := 5) (v := ?_) rfl rfl (by kernel_rfl) (by kernel_rfl) (by kernel_rfl) (fun _ _ _ h => h) (by decide) (by kernel_rfl) (by kernel_rfl) ?_ hS0 ?_
        rotate_left
        · intro w hSw; (try dsimp only at hSw); go_simp; (try with_reducible rfl)
        simp only [List.setIfInBounds_toArray, List.set_cons_zero, List.set_cons_succ]
        refine takeT (i := 6) (v := ?_) rfl rfl (by kernel_rfl) (by kernel_rfl) (by kernel_rfl) (fun _ _ _ h => h) (by decide) (by kernel_rfl) (by kernel_rfl) ?_ hS0 ?_
        rotate_left
        · intro w hSw; (try dsimp only at hSw); go_simp; (try with_reducible rfl)
        simp only [List.setIfInBounds_toArray, List.set_cons_zero, List.set_cons_succ]
        refine takeT (i := 7) (v := ?_) rfl rfl (by kernel_rfl) (by kernel_rfl) (by kernel_rfl) (fun _ _ _ h => h) (by decide) (by kernel_rfl) (by kernel_rfl) ?_ hS0 ?_
        rotate_left
        · intro w hSw; (try dsimp only at hSw); go_simp; (try with_reducible rfl)
        simp only [List.setIfInBounds_toArray, List.set_cons_zero, List.set_cons_succ]
        refine takeT (i := 8) (v := ?_) rfl rfl (by kernel_rfl) (by kernel_rfl) (by kernel_rfl) (fun _ _ _ h => h) (by decide) (by kernel_rfl) (by kernel_rfl) ?_ hS0 ?_
        rotate_left
        · intro w hSw; (try dsimp only at hSw); go_simp; (try with_reducible rfl)
        simp only [List.setIfInBounds_toArray, List.set_cons_zero, List.set_cons_succ]
        refine takeT (i := 9) (v := ?_) rfl rfl (by kernel_rfl) (by kernel_rfl) (by kernel_rfl) (fun _ _ _ h => h) (by decide) (by kernel_rfl) (by kernel_rfl) ?_ hS0 ?_
        rotate_left
        · intro w hSw; (try dsimp only at hSw); go_simp; first | (with_reducible rfl) | (rw [if_pos (by omega)])
        simp only [List.setIfInBounds_toArray, List.set_cons_zero, List.set_cons_succ]
        refine takeT (i := 10) (v := ?_) rfl rfl (by kernel_rfl) (by kernel_rfl) (by kernel_rfl) (fun _ _ _ h => h) (by decide) (by kernel_rfl) (by kernel_rfl) ?_ hS0 ?_
        rotate_left
        · intro w hSw; (try dsimp only at hSw); go_simp; (try with_reducible rfl)
        simp only [List.setIfInBounds_toArray, List.set_cons_zero, List.set_cons_succ]
        refine oneT (i := 11) rfl (by kernel_rfl) (fun K hK => ?_)
        go_simp
        have hA := Has.alloc HIQ.out.rd (.cells #[.string ⟨#[]⟩, .int .u8 0, .string ⟨#[]⟩, .string ⟨#[]⟩] 48)
        have hF1 := Has.new w4 #[.string ⟨#[]⟩, .int .u8 0, .string ⟨#[]⟩, .string ⟨#[]⟩] 48
        have hD1 := HIQ.out.res.alloc (.cells #[.string ⟨#[]⟩, .int .u8 0, .string ⟨#[]⟩, .string ⟨#[]⟩] 48)
        have hG1 := grownBy_alloc' HIQ.out.grown (.cells #[.string ⟨#[]⟩, .int .u8 0, .string ⟨#[]⟩, .string ⟨#[]⟩] 48)
        refine hK.out _ _ (fun _ => ⟨hA.cell 0, hA.cell 1⟩) ?_
        clear hK
        try simp only [List.setIfInBounds_toArray, List.set_cons_zero, List.set_cons_succ, Act.put]
        have HA := Lib.hid (show FdS r s pk w (w4.alloc (.cells #[.string ⟨#[]⟩, .int .u8 0, .string ⟨#[]⟩, .string ⟨#[]⟩] 48)).drew from ⟨hA, grownBy_drew' hG1, hD1⟩)
        have HF1 := Lib.hid (show Has (w4.alloc (.cells #[.string ⟨#[]⟩, .int .u8 0, .string ⟨#[]⟩, .string ⟨#[]⟩] 48)).drew w4.heap.size #[.string ⟨#[]⟩, .int .u8 0, .string ⟨#[]⟩, .string ⟨#[]⟩] 48 from hF1)
        have hne : w.heap.size < w4.heap.size := HIQ.out.res.lt
        clear hA hF1 hD1 hG1 hS0 c0 c1 c2 f1
        generalize (w4.alloc (.cells #[.string ⟨#[]⟩, .int .u8 0, .string ⟨#[]⟩, .string ⟨#[]⟩] 48)).drew = w5 at *
        generalize w4.heap.size = G at *
        have z0 := HF1.out.cell 0
        have z1 := HF1.out.cell 1
        have z2 := HF1.out.cell 2
        have z3 := HF1.out.cell 3
        have y0 := HF1.out.fz 0
        have y1 := HF1.out.fz 1
        have y2 := HF1.out.fz 2
        have y3 := HF1.out.fz 3
        refine oneT (i := 12) rfl (by kernel_rfl) (fun K hK => ?_)
        go_simp
        refine hK.out _ _ (fun q => absurd rfl q) ?_
        refine doneT (by kernel_rfl) ?_ _
        have hGr : w.heap.size < G := hne
        have HG := Lib.hid (show Has ((((w5.setCell ⟨G, 0, none⟩ (.string (bs f.name))).setCell ⟨G, 1, none⟩ (.int .u8 0)).setCell ⟨G, 2, none⟩ (.string ⟨#[]⟩)).setCell ⟨G, 3, none⟩ (.string ⟨#[]⟩)) G #[.string (bs f.name), .int .u8 0, .string ⟨#[]⟩, .string ⟨#[]⟩] 48 from (((HF1.out.set 0 _).set 1 _).set 2 _).set 3 _)
        have HS := Lib.hid (((((HA.out.setG hr hGr 0 (.string (bs f.name))).setG hr hGr 1 (.int .u8 0)).setG hr hGr 2 (.string ⟨#[]⟩)).setG hr hGr 3 (.string ⟨#[]⟩)))
        clear z0 z1 z2 z3 y0 y1 y2 y3 HF1 HA hK
        generalize ((((w5.setCell ⟨G, 0, none⟩ (.string (bs f.name))).setCell ⟨G, 1, none⟩ (.int .u8 0)).setCell ⟨G, 2, none⟩ (.string ⟨#[]⟩)).setCell ⟨G, 3, none⟩ (.string ⟨#[]⟩)) = w6 at *
        have z0 := HG.out.cell 0
        have hnm1 : ((bs f.name).toList == []) = false := by have := bs_ne hpos; simp [this]
        have hnm2 : (bs f.name).toList.isEmpty = false := by have := bs_ne hpos; simp [this]
        have HDQ := Lib.hid (show s.data.toList.drop pk = midT f ++ ([125, 125] ++ rest) from by
          rw [HQ.out]
          exact more_drop f.name _ HD.out)
        obtain ⟨ch, cl, hcl, hcn, hk1, hk2, hk0⟩ := name_next HF.out
        have hdq2 : s.data.toList.drop pk = ch :: (cl ++ rest) := by rw [HDQ.out, ← List.append_assoc, hcl]; rfl
        obtain ⟨⟨hltq, hxq⟩, _⟩ := at_drop hdq2
        have hneq : ((pk : Int) == (s.size : Int)) = false := by simp; omega
        obtain ⟨c0, c1, c2, f1⟩ := HS.out.rd.cells
        clear hcl hdq2 hb1 hb2 hb3 hxn
        go_upto_region 9 with fail
        go_quiet (fail)
        have HS7 := Lib.hid (HS.out.drewN nq)
        have HG7 := Lib.hid (show Has (w6.drewN nq) G _ _ from HG.out)
        generalize w6.drewN nq = w7 at *
        clear c0 c1 c2 f1 z0
        obtain ⟨c0, c1, c2, f1⟩ := HS7.out.rd.cells
        go_upto_region 12 with fail
        go_quiet (fail)
        have HS8 := Lib.hid (HS7.out.drewN nq)
        have HG8 := Lib.hid (show Has (w7.drewN nq) G _ _ from HG7.out)
        generalize w7.drewN nq = w8 at *
        clear c0 c1 c2 f1 HS HG HS7 HG7
        obtain ⟨c0, c1, c2, f1⟩ := HS8.out.rd.cells
        have z1 := HG8.out.cell 1
        have y1 := HG8.out.fz 1
        rcases HF.out.kind with ⟨hkd, hon, htw⟩ | ⟨hkd, htw⟩ | hkd
        · obtain rfl : ch = 125 := hk0 hkd
          have hde : s.data.toList.drop pk = 125 :: (125 :: rest) := by
            rw [HDQ.out]
            unfold midT
            rw [if_neg (by omega), if_neg (by omega)]
            rfl
          obtain ⟨e0, he0⟩ : ∃ n, n = pk := ⟨_, rfl⟩
          rw [← he0] at hde
          have hlte : e0 < s.size := by omega
          have hl := le_drop (Nat.le_of_lt hlte) [125, 125] rest hde
          have hl2 : e0 + 2 ≤ s.size := hl
          obtain ⟨⟨_, hxe0⟩, hde1⟩ := at_drop hde
          obtain ⟨e1, he1⟩ : ∃ n, n = e0 + 1 := ⟨_, rfl⟩
          rw [← he1] at hde1
          obtain ⟨⟨hle1, hxe1⟩, _⟩ := at_drop hde1
          have HME0 := Lib.hid (fun (W : World) (hW : TR W r s e0) => must_any r s e0 125 W hW hlte (by omega) (by rw [hxe0]; rfl))
          have HME1 := Lib.hid (fun (W : World) (hW : TR W r s e1) => must_any r s e1 125 W hW hle1 (by omega) (by rw [hxe1]; rfl))
          rw [← he1] at HME0
          clear hde hde1 hxe0 hxe1 hle1 hl hl2
          have HEND := Lib.hid (show e1 + 1 = p + (fldT f).length by
            rw [he1, he0, HQ.out, HPP.out]
            unfold fldT midT
            rw [if_neg (by omega), if_neg (by omega)]
            simp
            omega)
          have HSE := Lib.hid HS8.out
          have HGE := Lib.hid HG8.out
          rw [← he0] at HSE
          have hx1 : s[pk].toNat = 125 := by rw [hxq]; rfl
          clear hxq hk0 hk1 hk2 he1 he0
          go_wp2_with fail
          refine (HME0.out w8 HSE.out.rd).mono ?_
          rintro e wa ⟨rfl, hm⟩
          have HSA := Lib.hid (HSE.out.mov hr hm)
          have HGA := Lib.hid (HGE.out.kept hm.grown (by simp; omega))
          clear hm HME0 HSE HGE
          go_wp2_with fail
          refine (HME1.out wa HSA.out.rd).mono ?_
          rintro e wb ⟨rfl, hm⟩
          have HSB := Lib.hid (HSA.out.mov hr hm)
          have HGB := Lib.hid (HGA.out.kept hm.grown (by simp; omega))
          clear hm HME1 HSA HGA
          have u0 := HGB.out.cell 0
          have u1 := HGB.out.cell 1
          have u2 := HGB.out.cell 2
          have u3 := HGB.out.cell 3
          have HRS := Lib.hid (show Has wb w.heap.size #[.string ⟨#[]⟩, .int .u8 0, .string ⟨#[]⟩, .string ⟨#[]⟩] 48 from HSB.out.res)
          have v0 := HRS.out.cell 0
          have v1 := HRS.out.cell 1
          have v2 := HRS.out.cell 2
          have v3 := HRS.out.cell 3
          have g0 := HRS.out.fz 0
          have g1 := HRS.out.fz 1
          have g2 := HRS.out.fz 2
          have g3 := HRS.out.fz 3
          go_wp2_with fail
          have HRF := (((HRS.out.set 0 (.string (bs f.name))).set 1 (.int .u8 0)).set 2 (.string ⟨#[]⟩)).set 3 (.string ⟨#[]⟩)
          refine bodyPost_ret (results_cell_row rfl _ _ w.heap.size _ _ (0, 0) _ rfl HRF Try.underlying48 rfl fdInfo) rfl ?_
          refine ⟨?_, ?_, ?_⟩
          · have hv : fdV f = #[.string (bs f.name), .int .u8 0, .string ⟨#[]⟩, .string ⟨#[]⟩] := by unfold fdV; rw [hkd, hon, htw]; (try rfl)
            rw [hv]
            rfl
          · rw [← HEND.out]
            have hrn : r ≠ w.heap.size := Nat.ne_of_lt hr
            exact (Below.heap_setCell _ _ _ _ hrn).trans ((Below.heap_setCell _ _ _ _ hrn).trans ((Below.heap_setCell _ _ _ _ hrn).trans ((Below.heap_setCell _ _ _ _ hrn).trans HSB.out.rd)))
          · exact grownBy_setc (grownBy_setc (grownBy_setc (grownBy_setc HSB.out.grown (.inl (Nat.le_refl _))) (.inl (Nat.le_refl _))) (.inl (Nat.le_refl _))) (.inl (Nat.le_refl _))
        · obtain rfl : ch = 124 := hk1 hkd
          have hda : s.data.toList.drop pk = 124 :: (f.one ++ 125 :: (125 :: rest)) := by
            rw [HDQ.out]
            unfold midT
            rw [if_pos hkd]
            simp
          obtain ⟨a1, ha1⟩ : ∃ n, n = pk + 1 := ⟨_, rfl⟩
          have hdb := (at_drop hda).2
          rw [← ha1] at hdb
          have ha1s : a1 ≤ s.size := by omega
          obtain ⟨e0, he0⟩ : ∃ n, n = a1 + f.one.length := ⟨_, rfl⟩
          have hde := more_drop _ _ hdb
          rw [← he0] at hde
          have hlte : e0 < s.size := (at_drop hde).1.1
          have hl := le_drop (Nat.le_of_lt hlte) [125, 125] rest hde
          have hl2 : e0 + 2 ≤ s.size := hl
          obtain ⟨⟨_, hxe0⟩, hde1⟩ := at_drop hde
          obtain ⟨e1, he1⟩ : ∃ n, n = e0 + 1 := ⟨_, rfl⟩
          rw [← he1] at hde1
          obtain ⟨⟨hle1, hxe1⟩, _⟩ := at_drop hde1
          have HME0 := Lib.hid (fun (W : World) (hW : TR W r s e0) => must_any r s e0 125 W hW hlte (by omega) (by rw [hxe0]; rfl))
          have HME1 := Lib.hid (fun (W : World) (hW : TR W r s e1) => must_any r s e1 125 W hW hle1 (by omega) (by rw [hxe1]; rfl))
          rw [← he1] at HME0
          clear hde hde1 hxe0 hxe1 hle1 hl hl2
          have HCH := Lib.hid (fun (W : World) (hW : TR W r s a1) => choice_any ⟨#[125]⟩ r s a1 f.one _ 125 W hW ha1s hdb hs (by decide) (fun c hc => ⟨out_125 (HF.out.one c hc), HF.out.one c hc⟩))
          rw [← he0] at HCH
          have HEND := Lib.hid (show e1 + 1 = p + (fldT f).length by
            rw [he1, he0, ha1, HQ.out, HPP.out]
            unfold fldT midT
            rw [if_pos hkd]
            simp
            omega)
          have hx1 : s[pk].toNat = 124 := by rw [hxq]; rfl
          have wa1 : IntKind.i64.wrap ((pk : Int) + 1) = (pk : Int) + 1 := IntWalk.i64_in _ (by omega)
          clear hxq hk0 hk1 hk2 he1 he0 hda hdb
          go_upto_region 16 with fail
          have HSC := Lib.hid ((HS8.out.setG hr hne 1 (.int .u8 124)).at hr ((pk : Int) + 1) a1 (by omega))
          have HGC := Lib.hid ((HG8.out.set 1 (.int .u8 124)).kept (grownBy_set (w8.setCell ⟨G, 1, none⟩ (.int .u8 124)) r 1 (.int .i64 ((pk : Int) + 1))) (by simp; omega))
          generalize (w8.setCell ⟨G, 1, none⟩ (.int .u8 124)).setCell ⟨r, 1, none⟩ (.int .i64 ((pk : Int) + 1)) = w9 at *
          clear c0 c1 c2 f1 z1 y1
          go_wp2_with fail
          refine (HCH.out w9 HSC.out.rd).mono ?_
          rintro e w10 ⟨rfl, hm⟩
          have HSD := Lib.hid (HSC.out.mov hr hm)
          have HGD := Lib.hid (HGC.out.kept hm.grown (by simp; omega))
          have z2 := HGD.out.cell 2
          have y2 := HGD.out.fz 2
          have HSE := Lib.hid (HSD.out.setG hr hne 2 (.string (bs f.one)))
          have HGE := Lib.hid (HGD.out.set 2 (.string (bs f.one)))
          clear hm HCH HSC HGC HSD HGD
          go_upto_region 23 with fail
          generalize w10.setCell ⟨G, 2, none⟩ (.string (bs f.one)) = w11 at *
          clear z2 y2
          go_wp2_with fail
          refine (HME0.out w11 HSE.out.rd).mono ?_
          rintro e wa ⟨rfl, hm⟩
          have HSA := Lib.hid (HSE.out.mov hr hm)
          have HGA := Lib.hid (HGE.out.kept hm.grown (by simp; omega))
          clear hm HME0 HSE HGE
          go_wp2_with fail
          refine (HME1.out wa HSA.out.rd).mono ?_
          rintro e wb ⟨rfl, hm⟩
          have HSB := Lib.hid (HSA.out.mov hr hm)
          have HGB := Lib.hid (HGA.out.kept hm.grown (by simp; omega))
          clear hm HME1 HSA HGA
          have u0 := HGB.out.cell 0
          have u1 := HGB.out.cell 1
          have u2 := HGB.out.cell 2
          have u3 := HGB.out.cell 3
          have HRS := Lib.hid (show Has wb w.heap.size #[.string ⟨#[]⟩, .int .u8 0, .string ⟨#[]⟩, .string ⟨#[]⟩] 48 from HSB.out.res)
          have v0 := HRS.out.cell 0
          have v1 := HRS.out.cell 1
          have v2 := HRS.out.cell 2
          have v3 := HRS.out.cell 3
          have g0 := HRS.out.fz 0
          have g1 := HRS.out.fz 1
          have g2 := HRS.out.fz 2
          have g3 := HRS.out.fz 3
          go_wp2_with fail
          have HRF := (((HRS.out.set 0 (.string (bs f.name))).set 1 (.int .u8 124)).set 2 (.string (bs f.one))).set 3 (.string ⟨#[]⟩)
          refine bodyPost_ret (results_cell_row rfl _ _ w.heap.size _ _ (0, 0) _ rfl HRF Try.underlying48 rfl fdInfo) rfl ?_
          refine ⟨?_, ?_, ?_⟩
          · have hv : fdV f = #[.string (bs f.name), .int .u8 124, .string (bs f.one), .string ⟨#[]⟩] := by unfold fdV; rw [hkd, htw]; (try rfl)
            rw [hv]
            rfl
          · rw [← HEND.out]
            have hrn : r ≠ w.heap.size := Nat.ne_of_lt hr
            exact (Below.heap_setCell _ _ _ _ hrn).trans ((Below.heap_setCell _ _ _ _ hrn).trans ((Below.heap_setCell _ _ _ _ hrn).trans ((Below.heap_setCell _ _ _ _ hrn).trans HSB.out.rd)))
          · exact grownBy_setc (grownBy_setc (grownBy_setc (grownBy_setc HSB.out.grown (.inl (Nat.le_refl _))) (.inl (Nat.le_refl _))) (.inl (Nat.le_refl _))) (.inl (Nat.le_refl _))
        · obtain rfl : ch = 63 := hk2 hkd
          have hda : s.data.toList.drop pk = 63 :: (f.one ++ 58 :: (f.two ++ 125 :: (125 :: rest))) := by
            rw [HDQ.out]
            unfold midT
            rw [if_neg (by omega), if_pos hkd]
            simp
          obtain ⟨a1, ha1⟩ : ∃ n, n = pk + 1 := ⟨_, rfl⟩
          have hdb := (at_drop hda).2
          rw [← ha1] at hdb
          have ha1s : a1 ≤ s.size := by omega
          obtain ⟨a2, ha2⟩ : ∃ n, n = a1 + f.one.length := ⟨_, rfl⟩
          have hdc := more_drop _ _ hdb
          rw [← ha2] at hdc
          obtain ⟨⟨hlt2, hxc⟩, hdd⟩ := at_drop hdc
          obtain ⟨a3, ha3⟩ : ∃ n, n = a2 + 1 := ⟨_, rfl⟩
          rw [← ha3] at hdd
          have ha3s : a3 ≤ s.size := by omega
          obtain ⟨e0, he0⟩ : ∃ n, n = a3 + f.two.length := ⟨_, rfl⟩
          have hde := more_drop _ _ hdd
          rw [← he0] at hde
          have hlte : e0 < s.size := (at_drop hde).1.1
          have hl := le_drop (Nat.le_of_lt hlte) [125, 125] rest hde
          have hl2 : e0 + 2 ≤ s.size := hl
          obtain ⟨⟨_, hxe0⟩, hde1⟩ := at_drop hde
          obtain ⟨e1, he1⟩ : ∃ n, n = e0 + 1 := ⟨_, rfl⟩
          rw [← he1] at hde1
          obtain ⟨⟨hle1, hxe1⟩, _⟩ := at_drop hde1
          have HME0 := Lib.hid (fun (W : World) (hW : TR W r s e0) => must_any r s e0 125 W hW hlte (by omega) (by rw [hxe0]; rfl))
          have HME1 := Lib.hid (fun (W : World) (hW : TR W r s e1) => must_any r s e1 125 W hW hle1 (by omega) (by rw [hxe1]; rfl))
          rw [← he1] at HME0
          clear hde hde1 hxe0 hxe1 hle1 hl hl2
          have HCH := Lib.hid (fun (W : World) (hW : TR W r s a1) => choice_any ⟨#[125, 58]⟩ r s a1 f.one _ 58 W hW ha1s hdb hs (by decide) (fun c hc => ⟨out_125_58 (HF.out.one c hc), HF.out.one c hc⟩))
          rw [← ha2] at HCH
          have HMC := Lib.hid (fun (W : World) (hW : TR W r s a2) => must_any r s a2 58 W hW hlt2 (by omega) (by rw [hxc]; rfl))
          rw [← ha3] at HMC
          have HCH2 := Lib.hid (fun (W : World) (hW : TR W r s a3) => choice_any ⟨#[125]⟩ r s a3 f.two _ 125 W hW ha3s hdd hs (by decide) (fun c hc => ⟨out_125 (HF.out.two c hc), HF.out.two c hc⟩))
          rw [← he0] at HCH2
          have HEND := Lib.hid (show e1 + 1 = p + (fldT f).length by
            rw [he1, he0, ha3, ha2, ha1, HQ.out, HPP.out]
            unfold fldT midT
            rw [if_neg (by omega), if_pos hkd]
            simp
            omega)
          have hx1 : s[pk].toNat = 63 := by rw [hxq]; rfl
          have wa1 : IntKind.i64.wrap ((pk : Int) + 1) = (pk : Int) + 1 := IntWalk.i64_in _ (by omega)
          clear hxq hk0 hk1 hk2 he1 he0 hda hdb hdc hdd hxc ha2 ha3
          go_upto_region 20 with fail
          have HSC := Lib.hid ((HS8.out.setG hr hne 1 (.int .u8 63)).at hr ((pk : Int) + 1) a1 (by omega))
          have HGC := Lib.hid ((HG8.out.set 1 (.int .u8 63)).kept (grownBy_set (w8.setCell ⟨G, 1, none⟩ (.int .u8 63)) r 1 (.int .i64 ((pk : Int) + 1))) (by simp; omega))
          generalize (w8.setCell ⟨G, 1, none⟩ (.int .u8 63)).setCell ⟨r, 1, none⟩ (.int .i64 ((pk : Int) + 1)) = w9 at *
          clear c0 c1 c2 f1 z1 y1
          go_wp2_with fail
          refine (HCH.out w9 HSC.out.rd).mono ?_
          rintro e w10 ⟨rfl, hm⟩
          have HSD := Lib.hid (HSC.out.mov hr hm)
          have HGD := Lib.hid (HGC.out.kept hm.grown (by simp; omega))
          have z2 := HGD.out.cell 2
          have y2 := HGD.out.fz 2
          have HSX := Lib.hid (HSD.out.setG hr hne 2 (.string (bs f.one)))
          have HGX := Lib.hid (HGD.out.set 2 (.string (bs f.one)))
          clear hm HCH HSC HGC HSD HGD
          go_upto_region 21 with fail
          generalize w10.setCell ⟨G, 2, none⟩ (.string (bs f.one)) = w11 at *
          clear z2 y2
          go_wp2_with fail
          refine (HMC.out w11 HSX.out.rd).mono ?_
          rintro e w12 ⟨rfl, hm⟩
          have HSY := Lib.hid (HSX.out.mov hr hm)
          have HGY := Lib.hid (HGX.out.kept hm.grown (by simp; omega))
          clear hm HMC HSX HGX
          go_wp2_with fail
          refine (HCH2.out w12 HSY.out.rd).mono ?_
          rintro e w13 ⟨rfl, hm⟩
          have HSZ := Lib.hid (HSY.out.mov hr hm)
          have HGZ := Lib.hid (HGY.out.kept hm.grown (by simp; omega))
          have z3 := HGZ.out.cell 3
          have y3 := HGZ.out.fz 3
          have HSE := Lib.hid (HSZ.out.setG hr hne 3 (.string (bs f.two)))
          have HGE := Lib.hid (HGZ.out.set 3 (.string (bs f.two)))
          clear hm HCH2 HSY HGY HSZ HGZ
          go_upto_region 23 with fail
          generalize w13.setCell ⟨G, 3, none⟩ (.string (bs f.two)) = w14 at *
          clear z3 y3
          go_wp2_with fail
          refine (HME0.out w14 HSE.out.rd).mono ?_
          rintro e wa ⟨rfl, hm⟩
          have HSA := Lib.hid (HSE.out.mov hr hm)
          have HGA := Lib.hid (HGE.out.kept hm.grown (by simp; omega))
          clear hm HME0 HSE HGE
          go_wp2_with fail
          refine (HME1.out wa HSA.out.rd).mono ?_
          rintro e wb ⟨rfl, hm⟩
          have HSB := Lib.hid (HSA.out.mov hr hm)
          have HGB := Lib.hid (HGA.out.kept hm.grown (by simp; omega))
          clear hm HME1 HSA HGA
          have u0 := HGB.out.cell 0
          have u1 := HGB.out.cell 1
          have u2 := HGB.out.cell 2
          have u3 := HGB.out.cell 3
          have HRS := Lib.hid (show Has wb w.heap.size #[.string ⟨#[]⟩, .int .u8 0, .string ⟨#[]⟩, .string ⟨#[]⟩] 48 from HSB.out.res)
          have v0 := HRS.out.cell 0
          have v1 := HRS.out.cell 1
          have v2 := HRS.out.cell 2
          have v3 := HRS.out.cell 3
          have g0 := HRS.out.fz 0
          have g1 := HRS.out.fz 1
          have g2 := HRS.out.fz 2
          have g3 := HRS.out.fz 3
          go_wp2_with fail
          have HRF := (((HRS.out.set 0 (.string (bs f.name))).set 1 (.int .u8 63)).set 2 (.string (bs f.one))).set 3 (.string (bs f.two))
          refine bodyPost_ret (results_cell_row rfl _ _ w.heap.size _ _ (0, 0) _ rfl HRF Try.underlying48 rfl fdInfo) rfl ?_
          refine ⟨?_, ?_, ?_⟩
          · have hv : fdV f = #[.string (bs f.name), .int .u8 63, .string (bs f.one), .string (bs f.two)] := by unfold fdV; rw [hkd]; (try rfl)
            rw [hv]
            rfl
          · rw [← HEND.out]
            have hrn : r ≠ w.heap.size := Nat.ne_of_lt hr
            exact (Below.heap_setCell _ _ _ _ hrn).trans ((Below.heap_setCell _ _ _ _ hrn).trans ((Below.heap_setCell _ _ _ _ hrn).trans ((Below.heap_setCell _ _ _ _ hrn).trans HSB.out.rd)))
          · exact grownBy_setc (grownBy_setc (grownBy_setc (grownBy_setc HSB.out.grown (.inl (Nat.le_refl _))) (.inl (Nat.le_refl _))) (.inl (Nat.le_refl _))) (.inl (Nat.le_refl _))
end Go.Proofs.Ytfohehldkchnjaa
