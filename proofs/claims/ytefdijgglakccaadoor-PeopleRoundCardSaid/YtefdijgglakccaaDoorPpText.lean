/- The walk of route.PeopleText. -/
import Derived.Test.YtefdijgglakccaaDoorPpChk2
import Derived.Test.YtefdijgglakccaaDoorOrd
import Derived.Deep.RegionLaw
import Derived.Deep.AppendLies
namespace Go.Proofs.YtefdijgglakccaaDoor
open Go.RowKit

theorem owns_built {w : World} {B g n : Nat} {e : TypeId} {cs : Array Value} (h : Has w g cs e) (hB : B ≤ g) (hn : cs.size = n) (hc : n ≤ 1000000) : w.ownsRow B e 1 (.slice (some ⟨g, 0, none⟩) n n) n cs.toList :=
  ⟨by simp [hn], .inr ⟨g, n, cs, rfl, hB, h, Nat.le_refl _, by unfold maxLen; omega, by simp [hn], by rw [Nat.mul_one]; exact List.take_of_length_le (by simp [hn])⟩⟩
theorem infoWord : (Tryd.prog.info? 9).map (fun i => (i.zero, i.size, i.bytes)) = some (some (.string ⟨#[]⟩), 1, 16) := by kernel_rfl
def wordV (x : List UInt8) : Value := .string (bs x)
/-- the words that are written so far -/
def wordsP (p : PerD) (j : Nat) : List (List UInt8) := personW :: Lib.itoa p.no :: Lib.itoa p.cap :: Lib.itoa p.cl :: skW (p.sk.take j)
theorem wordsP_len (p : PerD) {j : Nat} (hj : j ≤ p.sk.length) : (wordsP p j).length = 4 + 2 * j := by
  have e : (wordsP p j).length = (skW (p.sk.take j)).length + 1 + 1 + 1 + 1 := rfl
  rw [e, skW_len, List.length_take]
  omega
theorem wordsP_next (p : PerD) {j : Nat} (hj : j < p.sk.length) : wordsP p (j + 1) = wordsP p j ++ [p.sk[j].1.data.toList, Lib.itoa p.sk[j].2] := by
  unfold wordsP skW
  rw [List.take_succ_eq_append_getElem hj, List.flatMap_append]
  simp
theorem wordsP_all (p : PerD) : wordsP p p.sk.length = personW :: perW p := by
  unfold wordsP perW
  rw [List.take_length]
theorem join_own (W : List (List UInt8)) (v : Value) (B n : Nat) (hn : n = W.length) (w : World) (h : w.ownsRow B 9 1 v n (W.map wordV)) (h0 : 0 < n) (hN : n ≤ 1000) (hlen : (Lib.join W [32]).length ≤ 1000000) :
    Calls Tryd.prog 10 #[v, .string ⟨#[32]⟩] w fun e w' => e = .returned (.string (bs (Lib.join W [32]))) ∧ Below w.heap.size w w' := by
  subst hn
  obtain ⟨g, cap, rfl, _, hlt⟩ := h.form h0
  have hcap : W.length ≤ cap := by
    rcases h.2 with ⟨hv, _⟩ | ⟨g', cap', cur, hv, _, _, hc, _⟩
    · cases hv
    · cases hv; exact hc
  have e : (W.map bs).map (fun x => x.data.toList) = W := by rw [List.map_map]; exact List.map_id' W
  have c := Tryd.strings_Join g 0 cap (W.map bs) ⟨#[32]⟩ w (fun j x hx => by
    rw [List.getElem?_map] at hx
    obtain ⟨y, hy, rfl⟩ := Option.map_eq_some_iff.1 hx
    rw [Nat.zero_add]
    have hj : j < W.length := (List.getElem?_eq_some_iff.1 hy).1
    exact (h.cellAt j (by omega)).trans (by rw [List.getElem?_map, hy]; rfl)) hlt (by rw [List.length_map]; omega) (by rw [List.length_map]; exact hcap) (by rw [e]; show (Lib.join W [32]).length ≤ _; omega)
  rw [e, List.length_map] at c
  exact c

structure TpInv (l : List PerD) (w wr : World) (B i : Nat) : Prop where
  le : i ≤ l.length
  b : BuildsAt wr B (textP (l.take i))
  below : Below w.heap.size w wr
def TpPost (l : List PerD) (w : World) (e : Ending) (w' : World) : Prop :=
  ∃ s k, e = .returned (.tuple #[.string s, .int .i64 k]) ∧ Below w.heap.size w w' ∧ (k ≠ 0 → s = ⟨#[]⟩) ∧ (k = 0 → PpFine l ∧ s = bs (textP l)) ∧ (PpFine l → k = 0)

set_option maxRecDepth 100000 in
set_option maxHeartbeats 4000000 in
theorem PeopleText_any (l : List PerD) (v : Value) (w : World) (h : Pers w v l) (hE : Env w) :
    Calls Tryd.prog 5 #[v] w (TpPost l w) := by
  have hck := CheckPeople_any l v w h
  obtain ⟨a, cap, rfl⟩ := SliceAt.len h
  have H := Lib.hid h
  have HE := Lib.hid hE
  clear h hE
  go_enter Tryd.func5, Tryd.ntmps5
  go_wp2_with fail
  refine hck.mono ?_
  rintro e w2 ⟨⟨k, rfl, hk⟩, hb2⟩
  have HK := Lib.hid hk
  have HB2 := Lib.hid hb2
  clear hck hk hb2
  by_cases hkz : k = 0
  rotate_left
  · have q1 : (k == 0) = false := by simpa using hkz
    have q2 : (k != 0) = true := by simpa using hkz
    have HKZ := Lib.hid hkz
    clear hkz
    go_wp2_with fail
    go_ret2
    exact ⟨_, _, rfl, HB2.out, fun _ => rfl, fun h => absurd h HKZ.out, fun h => absurd (HK.out.2 h) HKZ.out⟩
  subst hkz
  have HF := Lib.hid (HK.out.1 rfl)
  clear HK
  have hl40 := HF.out.1
  have hBw := HB2.out.size
  have HI2 := Lib.hid (show TpInv l w (w2.alloc (.cells #[.pointer none, .slice none 0 0] 34)) w2.heap.size 0 from
    ⟨Nat.zero_le _, by rw [List.take_zero]; exact BuildsAt.new w2, HB2.out.alloc HB2.out.size _⟩)
  go_upto_region 5 with fail
  generalize w2.alloc (.cells #[.pointer none, .slice none 0 0] 34) = w3 at *
  generalize w2.heap.size = B at *
  go_wp2_with fail
  go_loopw [18] (fun iv wr => ∃ i : Nat, iv = .int .i64 ((i : Nat) : Int) ∧ TpInv l w wr B i) (fun iv _ => l.length - (intOf iv).toNat)
  case atStart => exact ⟨0, rfl, HI2.out⟩
  case round =>
    obtain ⟨i, rfl, hI⟩ := hrel
    have HI := Lib.hid hI
    have hi := hI.le
    clear hI HI2
    by_cases hlt : i < l.length
    · obtain ⟨b, of', cap', hv, hb, hel⟩ := Pers.at H.out (by omega)
      cases hv
      obtain ⟨u, e0, e1, e2, e3, hsk⟩ := hel i hlt
      obtain ⟨sa, sc, rfl⟩ := SliceAt.len hsk
      have c0 := (below_cell HI.out.below hb).trans e0
      have c1 := (below_cell HI.out.below hb).trans e1
      have c2 := (below_cell HI.out.below hb).trans e2
      have c3 := (below_cell HI.out.below hb).trans e3
      have HSK := Lib.hid hsk
      have HOK := Lib.hid (HF.out.ok _ (List.getElem_mem hlt))
      have HON := Lib.hid (show PpOne l[i] from HF.out.2.each i hlt)
      have HNX := Lib.hid (text_next hlt)
      clear hsk e0 e1 e2 e3 hel
      generalize l[i] = p at *
      obtain ⟨x1, x2, x3, sk⟩ := p
      simp only at c0 c1 c2 c3 HSK
      go_upto_region 8 with fail
      obtain ⟨bx, bbl⟩ := box1 wr #[.int .i64 x1, .int .i64 x2, .int .i64 x3, .slice sa sk.length sc] 37
      have HBW := Lib.hid bbl
      have HBX := Lib.hid bx
      have k0 := bx.cell 0
      have k1 := bx.cell 1
      have k2 := bx.cell 2
      have hgl := bx.lt
      have hwz : wr.heap.size ≤ (wr.alloc (.cells #[.int .i64 x1, .int .i64 x2, .int .i64 x3, .slice sa sk.length sc] 37)).heap.size := bbl.size
      generalize wr.alloc (.cells #[.int .i64 x1, .int .i64 x2, .int .i64 x3, .slice sa sk.length sc] 37) = wb at *
      generalize hRz : wr.heap.size = R at *
      have HRZ := Lib.hid hRz
      clear bx bbl c0 c1 c2 c3 hRz
      obtain ⟨n1, n2, n3, hfew⟩ := HON.out
      have hfew := hfew.1
      simp only at n1 n2 n3 hfew
      have hwR : w.heap.size ≤ R := by rw [← HRZ.out]; exact HI.out.below.size
      have HIB := Lib.hid HI.out.below
      go_cut [7, 8] (fun pv wv wx => pv = .pointer (some ⟨R, 0, none⟩) ∧ Below R wr wx ∧ Has wx R #[.int .i64 x1, .int .i64 x2, .int .i64 x3, .slice sa sk.length sc] 37 ∧ wx.ownsRow R 9 1 wv 4 ((wordsP ⟨x1, x2, x3, sk⟩ 0).map wordV))
      case first =>
        clear hwz HI
        have hS0 : (fun W : World => W.cell? ⟨R, 0, none⟩ = some (.int .i64 x1) ∧ W.cell? ⟨R, 1, none⟩ = some (.int .i64 x2) ∧ W.cell? ⟨R, 2, none⟩ = some (.int .i64 x3)) wb.drew := ⟨k0, k1, k2⟩
        refine anyT_start (S := fun W : World => W.cell? ⟨R, 0, none⟩ = some (.int .i64 x1) ∧ W.cell? ⟨R, 1, none⟩ = some (.int .i64 x2) ∧ W.cell? ⟨R, 2, none⟩ = some (.int .i64 x3)) (t := 10) (by kernel_rfl) ?_
        have HBD := Lib.hid HBW.out.drew
        have HWD := Lib.hid (HIB.out.trans (HBD.out.mono hwR))
        have hbd : Below wb.heap.size wb wb.drew := (Below.refl _ _).drew
        have HBXD := Lib.hid (HBX.out.below hbd HBX.out.lt)
        have hRd : R < wb.drew.heap.size := HBXD.out.lt
        have hwd : w.heap.size ≤ wb.drew.heap.size := HWD.out.size
        clear k0 k1 k2 HBX HBW hgl hbd
        generalize wb.drew = wd at *
        refine takeT (i := 0) (v := ?_) rfl rfl (by kernel_rfl) (by kernel_rfl) (by kernel_rfl) (fun _ _ _ h => h) (by decide) (by kernel_rfl) (by kernel_rfl) ?_ hS0 ?_
        rotate_left
        · intro w hSw; (try dsimp only at hSw); go_simp; (try with_reducible rfl)
        simp only [List.setIfInBounds_toArray, List.set_cons_zero, List.set_cons_succ]
        refine takeT (i := 1) (v := ?_) rfl rfl (by kernel_rfl) (by kernel_rfl) (by kernel_rfl) (fun _ _ _ h => h) (by decide) (by kernel_rfl) (by kernel_rfl) ?_ hS0 ?_
        rotate_left
        · intro w hSw; (try dsimp only at hSw); go_simp; (try with_reducible rfl)
        simp only [List.setIfInBounds_toArray, List.set_cons_zero, List.set_cons_succ]
        refine takeT (i := 3) (v := ?_) rfl rfl (by kernel_rfl) (by kernel_rfl) (by kernel_rfl) (fun _ _ _ h => h) (by decide) (by kernel_rfl) (by kernel_rfl) ?_ hS0 ?_
        rotate_left
        · intro w hSw; (try dsimp only at hSw); go_simp; (try with_reducible rfl)
        simp only [List.setIfInBounds_toArray, List.set_cons_zero, List.set_cons_succ]
        refine takeT (i := 4) (v := ?_) rfl rfl (by kernel_rfl) (by kernel_rfl) (by kernel_rfl) (fun _ _ _ h => h) (by decide) (by kernel_rfl) (by kernel_rfl) ?_ hS0 ?_
        rotate_left
        · intro w hSw; (try dsimp only at hSw); go_simp; (try with_reducible rfl)
        simp only [List.setIfInBounds_toArray, List.set_cons_zero, List.set_cons_succ]
        refine takeT (i := 6) (v := ?_) rfl rfl (by kernel_rfl) (by kernel_rfl) (by kernel_rfl) (fun _ _ _ h => h) (by decide) (by kernel_rfl) (by kernel_rfl) ?_ hS0 ?_
        rotate_left
        · intro w hSw; (try dsimp only at hSw); go_simp; (try with_reducible rfl)
        simp only [List.setIfInBounds_toArray, List.set_cons_zero, List.set_cons_succ]
        refine takeT (i := 7) (v := ?_) rfl rfl (by kernel_rfl) (by kernel_rfl) (by kernel_rfl) (fun _ _ _ h => h) (by decide) (by kernel_rfl) (by kernel_rfl) ?_ hS0 ?_
        rotate_left
        · intro w hSw; (try dsimp only at hSw); go_simp; (try with_reducible rfl)
        simp only [List.setIfInBounds_toArray, List.set_cons_zero, List.set_cons_succ]
        refine oneT (i := 2) rfl (by kernel_rfl) (fun K hK => ?_)
        go_simp
        refine (itoa_any x1 (by omega) (by omega) wd (HE.out.below HWD.out)).mono ?_
        rintro e we0 ⟨rfl, hbwe0⟩
        have hzwe0 : wd.heap.size ≤ we0.heap.size := hbwe0.size
        have HW0 := Lib.hid (below_up HWD.out hbwe0 (by omega))
        have HB0 := Lib.hid (below_up HBD.out hbwe0 (by omega))
        have HX0 := Lib.hid (HBXD.out.below hbwe0 (by omega))
        have hS1 : (fun W : World => W.cell? ⟨R, 0, none⟩ = some (.int .i64 x1) ∧ W.cell? ⟨R, 1, none⟩ = some (.int .i64 x2) ∧ W.cell? ⟨R, 2, none⟩ = some (.int .i64 x3)) we0 := ⟨HX0.out.cell 0, HX0.out.cell 1, HX0.out.cell 2⟩
        clear hbwe0
        refine hK.out _ _ (fun _ => hS1) ?_
        clear hK
        try simp only [List.setIfInBounds_toArray, List.set_cons_zero, List.set_cons_succ, Act.put]
        refine oneT (i := 5) rfl (by kernel_rfl) (fun K hK => ?_)
        go_simp
        refine (itoa_any x2 (by omega) (by omega) we0 (HE.out.below HW0.out)).mono ?_
        rintro e we1 ⟨rfl, hbwe1⟩
        have hzwe1 : we0.heap.size ≤ we1.heap.size := hbwe1.size
        have HW1 := Lib.hid (below_up HW0.out hbwe1 (by omega))
        have HB1 := Lib.hid (below_up HB0.out hbwe1 (by omega))
        have HX1 := Lib.hid (HX0.out.below hbwe1 (by omega))
        have hS2 : (fun W : World => W.cell? ⟨R, 0, none⟩ = some (.int .i64 x1) ∧ W.cell? ⟨R, 1, none⟩ = some (.int .i64 x2) ∧ W.cell? ⟨R, 2, none⟩ = some (.int .i64 x3)) we1 := ⟨HX1.out.cell 0, HX1.out.cell 1, HX1.out.cell 2⟩
        clear hbwe1
        refine hK.out _ _ (fun _ => hS2) ?_
        clear hK
        try simp only [List.setIfInBounds_toArray, List.set_cons_zero, List.set_cons_succ, Act.put]
        refine oneT (i := 8) rfl (by kernel_rfl) (fun K hK => ?_)
        go_simp
        refine (itoa_any x3 (by omega) (by omega) we1 (HE.out.below HW1.out)).mono ?_
        rintro e we2 ⟨rfl, hbwe2⟩
        have hzwe2 : we1.heap.size ≤ we2.heap.size := hbwe2.size
        have HW2 := Lib.hid (below_up HW1.out hbwe2 (by omega))
        have HB2 := Lib.hid (below_up HB1.out hbwe2 (by omega))
        have HX2 := Lib.hid (HX1.out.below hbwe2 (by omega))
        have hS3 : (fun W : World => W.cell? ⟨R, 0, none⟩ = some (.int .i64 x1) ∧ W.cell? ⟨R, 1, none⟩ = some (.int .i64 x2) ∧ W.cell? ⟨R, 2, none⟩ = some (.int .i64 x3)) we2 := ⟨HX2.out.cell 0, HX2.out.cell 1, HX2.out.cell 2⟩
        clear hbwe2
        refine hK.out _ _ (fun _ => hS3) ?_
        clear hK
        try simp only [List.setIfInBounds_toArray, List.set_cons_zero, List.set_cons_succ, Act.put]
        refine oneT (i := 9) rfl (by kernel_rfl) (fun K hK => ?_)
        go_simp
        have hb9 : Below we2.heap.size we2 (we2.alloc (.cells #[.string ⟨#[112, 101, 114, 115, 111, 110]⟩, .string (bs (Lib.itoa x1)), .string (bs (Lib.itoa x2)), .string (bs (Lib.itoa x3))] 9)) := (Below.refl _ _).alloc (Nat.le_refl _) _
        have HB9 := Lib.hid (below_up HB2.out hb9 (by omega))
        have HX9 := Lib.hid (HX2.out.below hb9 (by omega))
        have HO9 := Lib.hid (show (we2.alloc (.cells #[.string ⟨#[112, 101, 114, 115, 111, 110]⟩, .string (bs (Lib.itoa x1)), .string (bs (Lib.itoa x2)), .string (bs (Lib.itoa x3))] 9)).ownsRow R 9 1 (.slice (some ⟨we2.heap.size, 0, none⟩) 4 4) 4 ((wordsP ⟨x1, x2, x3, sk⟩ 0).map wordV) from owns_built (Has.new _ _ _) (by omega) rfl (by omega))
        have hS9 : (fun W : World => W.cell? ⟨R, 0, none⟩ = some (.int .i64 x1) ∧ W.cell? ⟨R, 1, none⟩ = some (.int .i64 x2) ∧ W.cell? ⟨R, 2, none⟩ = some (.int .i64 x3)) (we2.alloc (.cells #[.string ⟨#[112, 101, 114, 115, 111, 110]⟩, .string (bs (Lib.itoa x1)), .string (bs (Lib.itoa x2)), .string (bs (Lib.itoa x3))] 9)) := ⟨HX9.out.cell 0, HX9.out.cell 1, HX9.out.cell 2⟩
        refine hK.out _ _ (fun _ => hS9) ?_
        clear hK hb9
        try simp only [List.setIfInBounds_toArray, List.set_cons_zero, List.set_cons_succ, Act.put]
        refine oneT (i := 10) rfl (by kernel_rfl) (fun K hK => ?_)
        go_simp
        refine hK.out _ _ (fun q => absurd rfl q) ?_
        refine doneT (by kernel_rfl) ?_ _
        go_wp2_with fail
        go_meet
        exact ⟨rfl, HB9.out, HX9.out, HO9.out⟩
      case rest =>
        obtain ⟨rfl, hbw, hbx, hown⟩ := hcut
        have k3 := hbx.cell 3
        have HO := Lib.hid hown
        have HBC := Lib.hid hbw
        have hRc : R ≤ wc.heap.size := Nat.le_of_lt hbx.lt
        obtain ⟨wa, wcap, rfl⟩ := owns_slice hown
        clear hown hbw hbx k0 k1 k2 hgl hwz HBW HBX
        go_wp2_with fail
        go_loopw [8, 35] (fun wv jv wx => ∃ j n : Nat, jv = .int .i64 ((j : Nat) : Int) ∧ n = 4 + 2 * j ∧ j ≤ sk.length ∧ Below R wr wx ∧ R ≤ wx.heap.size ∧ wx.ownsRow R 9 1 wv n ((wordsP ⟨x1, x2, x3, sk⟩ j).map wordV)) (fun _ jv _ => sk.length - (intOf jv).toNat)
        case atStart => exact ⟨0, 4, rfl, rfl, Nat.zero_le _, HBC.out, hRc, HO.out⟩
        case round =>
          obtain ⟨j, n, rfl, hn, hj, hbx, hRx, hown⟩ := hrel
          rename World => wx
          obtain ⟨va, vcap, rfl⟩ := owns_slice hown
          have HN := Lib.hid hn
          have hn28 : n ≤ 28 := by omega
          have HO2 := Lib.hid hown
          have HBX2 := Lib.hid hbx
          have HWX := Lib.hid (HIB.out.trans (hbx.mono hwR))
          clear hown hbx hn HO HBC hRc k3
          by_cases hjl : j < sk.length
          · obtain ⟨b2, o2, cap2, hv2, hb2', hel2⟩ := Skls.at HSK.out (by omega)
            cases hv2
            obtain ⟨d0, d1, -⟩ := hel2 j hjl
            have d0 := (below_cell HWX.out hb2').trans d0
            have d1 := (below_cell HWX.out hb2').trans d1
            have HWN := Lib.hid (wordsP_next ⟨x1, x2, x3, sk⟩ hjl)
            have HRK := Lib.hid (show 1 ≤ sk[j].2 ∧ sk[j].2 ≤ 9 from (HON.out.2.2.2.2.each j hjl).2)
            simp only at HWN
            clear hel2
            generalize sk[j] = s at *
            obtain ⟨y1, y2⟩ := s
            simp only at d0 d1 HRK
            have hy2 := HRK.out
            go_upto_region 12 with fail
            obtain ⟨bx, bbl⟩ := box1 wx #[.string y1, .int .i64 y2] 41
            have HBS := Lib.hid bx
            have HBL := Lib.hid bbl
            have g0 := bx.cell 0
            have g1 := bx.cell 1
            generalize wx.alloc (.cells #[.string y1, .int .i64 y2] 41) = wb at *
            generalize hDz : wx.heap.size = D at *
            have HDZ := Lib.hid hDz
            clear bx bbl d0 d1 hDz
            have hS0 : (fun W : World => W.cell? ⟨D, 0, none⟩ = some (.string y1) ∧ W.cell? ⟨D, 1, none⟩ = some (.int .i64 y2)) wb.drew := ⟨g0, g1⟩
            obtain ⟨i0, hi0, hz0, hz1, hz2⟩ := info_parts infoWord
            refine anyT_start (S := fun W : World => W.cell? ⟨D, 0, none⟩ = some (.string y1) ∧ W.cell? ⟨D, 1, none⟩ = some (.int .i64 y2)) (t := 8) (by kernel_rfl) ?_
            have HBLD := Lib.hid HBL.out.drew
            have hbd : Below wb.heap.size wb wb.drew := (Below.refl _ _).drew
            have HBSD := Lib.hid (HBS.out.below hbd HBS.out.lt)
            have hDd : D < wb.drew.heap.size := HBSD.out.lt
            clear g0 g1 HBS HBL hbd
            generalize wb.drew = wd at *
            refine takeT (i := 0) (v := ?_) rfl rfl (by kernel_rfl) (by kernel_rfl) (by kernel_rfl) (fun _ _ _ h => h) (by decide) (by kernel_rfl) (by kernel_rfl) ?_ hS0 ?_
            rotate_left
            · intro w hSw; (try dsimp only at hSw); go_simp; (try with_reducible rfl)
            simp only [List.setIfInBounds_toArray, List.set_cons_zero, List.set_cons_succ]
            refine takeT (i := 1) (v := ?_) rfl rfl (by kernel_rfl) (by kernel_rfl) (by kernel_rfl) (fun _ _ _ h => h) (by decide) (by kernel_rfl) (by kernel_rfl) ?_ hS0 ?_
            rotate_left
            · intro w hSw; (try dsimp only at hSw); go_simp; (try with_reducible rfl)
            simp only [List.setIfInBounds_toArray, List.set_cons_zero, List.set_cons_succ]
            refine takeT (i := 2) (v := ?_) rfl rfl (by kernel_rfl) (by kernel_rfl) (by kernel_rfl) (fun _ _ _ h => h) (by decide) (by kernel_rfl) (by kernel_rfl) ?_ hS0 ?_
            rotate_left
            · intro w hSw; (try dsimp only at hSw); go_simp; (try with_reducible rfl)
            simp only [List.setIfInBounds_toArray, List.set_cons_zero, List.set_cons_succ]
            refine takeT (i := 3) (v := ?_) rfl rfl (by kernel_rfl) (by kernel_rfl) (by kernel_rfl) (fun _ _ _ h => h) (by decide) (by kernel_rfl) (by kernel_rfl) ?_ hS0 ?_
            rotate_left
            · intro w hSw; (try dsimp only at hSw); go_simp; (try with_reducible rfl)
            simp only [List.setIfInBounds_toArray, List.set_cons_zero, List.set_cons_succ]
            refine takeT (i := 4) (v := ?_) rfl rfl (by kernel_rfl) (by kernel_rfl) (by kernel_rfl) (fun _ _ _ h => h) (by decide) (by kernel_rfl) (by kernel_rfl) ?_ hS0 ?_
            rotate_left
            · intro w hSw; (try dsimp only at hSw); go_simp; (try with_reducible rfl)
            simp only [List.setIfInBounds_toArray, List.set_cons_zero, List.set_cons_succ]
            refine oneT (i := 5) rfl (by kernel_rfl) (fun K hK => ?_)
            go_simp
            refine (itoa_any y2 (by omega) (by omega) wd (HE.out.below (HWX.out.trans (HBLD.out.mono (by omega))))).mono ?_
            rintro e we ⟨rfl, hbe⟩
            have hze : wd.heap.size ≤ we.heap.size := hbe.size
            have HBE := Lib.hid (below_up HBLD.out hbe (by omega))
            have HXE := Lib.hid (HBSD.out.below hbe (by omega))
            have hS1 : (fun W : World => W.cell? ⟨D, 0, none⟩ = some (.string y1) ∧ W.cell? ⟨D, 1, none⟩ = some (.int .i64 y2)) we := ⟨HXE.out.cell 0, HXE.out.cell 1⟩
            clear hbe
            refine hK.out _ _ (fun _ => hS1) ?_
            clear hK
            try simp only [List.setIfInBounds_toArray, List.set_cons_zero, List.set_cons_succ, Act.put]
            have HOE := Lib.hid (owns_below HO2.out (by rw [HDZ.out]; exact HBE.out))
            have HRE := Lib.hid (HBX2.out.trans (HBE.out.mono (by omega)))
            refine oneT (i := 6) rfl (by kernel_rfl) (fun K hK => ?_)
            go_simp
            have hb6 : Below we.heap.size we (we.alloc (.cells #[.string y1, .string (bs (Lib.itoa y2))] 9)) := (Below.refl _ _).alloc (Nat.le_refl _) _
            refine hK.out _ _ (fun _ => ⟨(below_cell hb6 (by omega)).trans hS1.1, (below_cell hb6 (by omega)).trans hS1.2⟩) ?_
            clear hK
            try simp only [List.setIfInBounds_toArray, List.set_cons_zero, List.set_cons_succ, Act.put]
            refine oneT (i := 7) rfl (by kernel_rfl) (fun K hK => ?_)
            refine step_append_lies _ (by rfl) _ _ _ (by rfl) R 9 i0 (.string ⟨#[]⟩) 1 16 Tryd.underlying39 hi0 hz0 hz1 hz2 rfl (by omega) _ _ _ (by rfl) (HOE.out.alloc _) ⟨we.heap.size, 0, none⟩ 2 2 [.string y1, .string (bs (Lib.itoa y2))] (by rfl) rfl (World.news_of_block (heap_alloc_new _ _)) (by simp [Value.oneCell']) (by omega) (by unfold maxLen; omega) (by omega) (by simp; omega) (we.heap.size + 1) (by simp) ?_
            intro g' c' w6 hown1 hgrow hat hlt'
            have hown4 := HOE.out.alloc (.cells #[.string y1, .string (bs (Lib.itoa y2))] 9)
            have box6 := (HXE.out.alloc (.cells #[.string y1, .string (bs (Lib.itoa y2))] 9)).kept_own hown4 (by decide) hgrow
            have hb7 : Below R wr w6 := (HRE.out.alloc (by omega) _).grown hgrow (by simp; omega) (fun q hq => (hown4.lt q hq).1)
            have h' : w6.ownsRow R 9 1 (.slice (some ⟨g', 0, none⟩) (n + 2) c') (n + 2) ((wordsP ⟨x1, x2, x3, sk⟩ (j + 1)).map wordV) := by
              rw [HWN.out, List.map_append]
              exact hown1
            have H7 := Lib.hid (And.intro hb7 (And.intro (Nat.le_trans (by simp; omega) hgrow.size : R ≤ w6.heap.size) h'))
            have hS6 : (fun W : World => W.cell? ⟨D, 0, none⟩ = some (.string y1) ∧ W.cell? ⟨D, 1, none⟩ = some (.int .i64 y2)) w6 := ⟨box6.cell 0, box6.cell 1⟩
            refine hK.out _ _ (fun _ => hS6) ?_
            clear hK hown1 hgrow hat hlt' hown4 box6 hb7 h' hb6 hS0 hS1
            try simp only [List.setIfInBounds_toArray, List.set_cons_zero, List.set_cons_succ, Act.put]
            refine oneT (i := 8) rfl (by kernel_rfl) (fun K hK => ?_)
            go_simp
            refine hK.out _ _ (fun q => absurd rfl q) ?_
            refine doneT (by kernel_rfl) ?_ _
            go_wp2_with fail
            go_roundw
            case rel => exact ⟨j + 1, n + 2, by go_num, by have := HN.out; omega, hjl, H7.out.1, H7.out.2.1, H7.out.2.2⟩
            case measure => simp [intOf]; omega
          · obtain rfl : j = sk.length := by omega
            have HOW := Lib.hid HO2.out
            have hjn := join_own (wordsP ⟨x1, x2, x3, sk⟩ sk.length) (.slice va n vcap) R n (by rw [wordsP_len _ (Nat.le_refl _)]; exact HN.out) wx HO2.out (by have := HN.out; omega) (by omega)
              (by rw [wordsP_all]; have := line_short HOK.out; unfold lineP at this; omega)
            rw [wordsP_all] at hjn
            have hjn : Calls Tryd.prog 10 #[.slice va n vcap, .string ⟨#[32]⟩] wx fun e w' => e = .returned (.string (bs (lineP ⟨x1, x2, x3, sk⟩))) ∧ Below wx.heap.size wx w' := hjn
            have HJN := Lib.hid hjn
            have HLS := Lib.hid (line_short HOK.out)
            have hsz : (bs (lineP ⟨x1, x2, x3, sk⟩)).size ≤ 600 := by rw [bs_size]; exact HLS.out
            have HCAT := Lib.hid (show bs (lineP ⟨x1, x2, x3, sk⟩) ++ (⟨#[10]⟩ : ByteArray) = bs (lineP ⟨x1, x2, x3, sk⟩ ++ [10]) from bs_append _ [10])
            have HTS := Lib.hid (show (textP (l.take i)).length ≤ 30000 by
              have := text_short (l.take i) (fun q hq => HF.out.ok q (List.mem_of_mem_take hq))
              rw [List.length_take] at this
              omega)
            have HBU := Lib.hid (HI.out.b.below (by rw [HRZ.out]; exact HBX2.out))
            clear hjn
            go_wp2_with fail
            refine HJN.out.mono ?_
            rintro e w7 ⟨rfl, hb7⟩
            have hw7 := write_any B (textP (l.take i)) (lineP ⟨x1, x2, x3, sk⟩ ++ [10]) w7 (HBU.out.below hb7) (by have := HTS.out; have := HLS.out; rw [List.length_append, List.length_singleton]; omega)
            rw [← HCAT.out] at hw7
            have HW7 := Lib.hid hw7
            have HB7 := Lib.hid (below_up HWX.out hb7 HWX.out.size)
            clear hw7 hb7
            generalize bs (lineP ⟨x1, x2, x3, sk⟩) = L at *
            go_wp2_with fail
            refine HW7.out.mono ?_
            rintro e w8 ⟨rfl, hbu, hbb, hku⟩
            have HST := Lib.hid (show TpInv l w w8 B (i + 1) from ⟨hlt, by rw [HNX.out]; exact hbu, HB7.out.trans (hbb.mono hBw)⟩)
            clear hbu hbb hku
            go_wp2_with fail
            go_roundw
            case rel => exact ⟨i + 1, by go_num, HST.out⟩
            case measure => simp [intOf]; omega
    · obtain rfl : i = l.length := by omega
      have hbt := HI.out.b
      rw [List.take_length] at hbt
      have HST := Lib.hid (Tryd.Builder_String_any B B _ wr hbt (Nat.le_of_lt hbt.lt))
      obtain ⟨T, hT⟩ : ∃ T, textP l = T := ⟨_, rfl⟩
      have HT := Lib.hid hT
      rw [hT] at HST
      clear hbt hT
      go_wp2_with fail
      refine HST.out.mono ?_
      rintro e w8 ⟨rfl, hb8⟩
      have HP := Lib.hid (show TpPost l w (.returned (.tuple #[.string ⟨T.toArray⟩, .int .i64 0])) w8 from ⟨_, _, rfl, HI.out.below.trans (hb8.mono hBw), fun h => absurd rfl h, fun _ => ⟨HF.out, by rw [HT.out]; rfl⟩, fun _ => rfl⟩)
      clear hb8
      go_wp2_with fail
      go_ret2
      exact HP.out
end Go.Proofs.YtefdijgglakccaaDoor
