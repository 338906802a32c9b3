/- The walk of the law StaffGrows. -/
import Derived.Test.YtfoehmieklldkaaDoorGrows
namespace Go.Proofs.YtfoehmieklldkaaDoor
open Go.RowKit

def Copied (w3 : World) (cs ds : Array Value) (s t : Value) (wx : World) : Prop :=
  ∃ b c, s = .pointer (some ⟨b, 0, none⟩) ∧ t = .pointer (some ⟨c, 0, none⟩) ∧ Has wx b cs 23 ∧ Has wx c ds 25 ∧ b ≠ c ∧ w3.heap.size ≤ b ∧ w3.heap.size ≤ c ∧ Below w3.heap.size w3 wx

theorem copied_lp (w : World) (cs ds : Array Value) : Copied w cs ds (.pointer (some ⟨w.heap.size, 0, none⟩)) (.pointer (some ⟨w.heap.size + 1, 0, none⟩)) ((w.alloc (.cells cs 23)).alloc (.cells ds 25)).drew := by
  obtain ⟨h1, h2, h3⟩ := box2 w cs ds 23 25
  exact ⟨_, _, rfl, rfl, h1, h2, by omega, by omega, by omega, h3.drew⟩
theorem copied_pl (w : World) (cs ds : Array Value) : Copied w cs ds (.pointer (some ⟨w.heap.size + 1, 0, none⟩)) (.pointer (some ⟨w.heap.size, 0, none⟩)) ((w.alloc (.cells ds 25)).alloc (.cells cs 23)).drew := by
  obtain ⟨h1, h2, h3⟩ := box2 w ds cs 25 23
  exact ⟨_, _, rfl, rfl, h2, h1, by omega, by omega, by omega, h3.drew⟩

theorem grow_end {C L S sh f wt pt k C2 L2 S2 sh2 f2 wt2 pt2 m : Nat} (HL : LdOk C L S) (hleast : ∀ j, j < k → keepsN ⟨C, L, S⟩ ⟨sh, f, wt, pt⟩ j = false) {X Y : Int} (e1 : X = (C2 : Int)) (e2 : (L : Int) = L2) (e3 : (S : Int) = S2) (e4 : Y = (sh2 : Int))
    (e5 : (f : Int) = f2) (e6 : (wt : Int) = wt2) (e7 : (pt : Int) = pt2) (hX : (C : Int) ≤ X) (hY : Y ≤ (sh : Int)) (hk : keepsN ⟨C2, L2, S2⟩ ⟨sh2, f2, wt2, pt2⟩ m = true) : k ≤ m := by
  rcases Nat.lt_or_ge m k with h | h
  · have h1 := hleast m h
    have h2 := keeps_mono ⟨C, L, S⟩ ⟨C2, L2, S2⟩ ⟨sh, f, wt, pt⟩ ⟨sh2, f2, wt2, pt2⟩ m (by show L = L2; omega) (by show S = S2; omega) (by show C ≤ C2; omega) HL.l0 HL.s0 (by show f = f2; omega) (by show wt = wt2; omega) (by show pt = pt2; omega) (by show sh2 ≤ sh; omega) hk
    rw [h1] at h2
    cases h2
  · exact h

set_option maxRecDepth 100000 in
set_option maxHeartbeats 16000000 in
theorem grows_walk (C L S sh f wt pt more less : Int) (w : World) :
    Calls Tryd.prog 3 #[.agg #[.int .i64 C, .int .i64 L, .int .i64 S], .agg #[.int .i64 sh, .int .i64 f, .int .i64 wt, .int .i64 pt], .int .i64 more, .int .i64 less] w (fun e w' => e = .returned (.bool true) ∧ Below w.heap.size w w') := by
  have hbx := box2 w #[.int .i64 C, .int .i64 L, .int .i64 S] #[.int .i64 sh, .int .i64 f, .int .i64 wt, .int .i64 pt] 23 25
  go_enter Tryd.func3, Tryd.ntmps3
  go_upto_region 1 with fail
  generalize (w.alloc (.cells #[.int .i64 C, .int .i64 L, .int .i64 S] 23)).alloc (.cells #[.int .i64 sh, .int .i64 f, .int .i64 wt, .int .i64 pt] 25) = w2 at *
  obtain ⟨hx, hx2, hbl⟩ := hbx
  have f1 := hx.lt
  have f2 := hx2.lt
  have hks : ∀ W, Below w2.heap.size w2 W → W.cell? ⟨w.heap.size, 0, none⟩ = some (.int .i64 C) ∧ W.cell? ⟨w.heap.size, 1, none⟩ = some (.int .i64 L) ∧ W.cell? ⟨w.heap.size, 2, none⟩ = some (.int .i64 S) ∧ W.cell? ⟨w.heap.size + 1, 0, none⟩ = some (.int .i64 sh) ∧ W.cell? ⟨w.heap.size + 1, 1, none⟩ = some (.int .i64 f) ∧ W.cell? ⟨w.heap.size + 1, 2, none⟩ = some (.int .i64 wt) ∧ W.cell? ⟨w.heap.size + 1, 3, none⟩ = some (.int .i64 pt) := fun W h =>
    ⟨(below_cell h f1).trans (hx.cell 0), (below_cell h f1).trans (hx.cell 1), (below_cell h f1).trans (hx.cell 2), (below_cell h f2).trans (hx2.cell 0), (below_cell h f2).trans (hx2.cell 1), (below_cell h f2).trans (hx2.cell 2), (below_cell h f2).trans (hx2.cell 3)⟩
  have HKS := Lib.hid hks
  have HBL := Lib.hid hbl
  clear hks hx hx2 hbl
  go_wp2_with fail
  refine (awake_any w2).mono ?_
  rintro e w3 ⟨rfl, hb3⟩
  obtain ⟨c0, c1, c2, c3, c4, c5, c6⟩ := HKS.out _ hb3
  go_wp2_with fail
  refine (Staff_any C L S sh f wt pt w3).mono ?_
  rintro e w4 ⟨n, c, rfl, hb4, hcase⟩
  have hb4' := below_up' hb3 hb4
  have HB4 := Lib.hid hb4'
  clear c0 c1 c2 c3 c4 c5 c6
  obtain ⟨c0, c1, c2, c3, c4, c5, c6⟩ := HKS.out _ hb4'
  clear hb3 hb4 hb4'
  rcases hcase with ⟨hc, rfl⟩ | ⟨rfl, C', L', S', sh', f', wt', pt', k, rfl, rfl, rfl, rfl, rfl, rfl, rfl, rfl, hl, hp, hk, hkeep, hleast⟩
  · have hb0 : (c == 0) = false := by simpa using hc
    have hb1 : (c != 0) = true := by simpa using hc
    clear hc
    go_wp2_with fail
    go_ret
    exact ⟨rfl, below_up HBL.out HB4.out HBL.out.size⟩
  · have HL := Lib.hid hl
    have HP := Lib.hid hp
    have HK := Lib.hid hkeep
    have HLEAST := Lib.hid hleast
    clear hl hp hkeep hleast
    go_upto_if 31 with fail
    go_cut [] (fun wx => Below w2.heap.size w2 wx)
    case first =>
      cases k with
      | zero =>
        go_wp2_with fail
        go_meet
        exact HB4.out
      | succ j =>
        have s1 : IntKind.i64.wrap ((j : Int) + 1 - 1) = (j : Int) := by rw [IntWalk.i64_in _ (by omega)]; omega
        have hkj := HLEAST.out j (by omega)
        have hkx := KeepsX_any C' L' S' j sh' f' wt' pt' HL.out HP.out (by omega)
        rw [hkj] at hkx
        have HKX := Lib.hid hkx
        clear hkj hkx
        go_wp2_with fail
        refine (HKX.out w4).mono ?_
        rintro e w5 ⟨rfl, hb5⟩
        have HB5 := Lib.hid (below_up' HB4.out hb5)
        clear hb5
        go_wp2_with fail
        go_meet
        exact HB5.out
    case rest =>
      have HB5 := Lib.hid hcut
      clear c0 c1 c2 c3 c4 c5 c6
      obtain ⟨c0, c1, c2, c3, c4, c5, c6⟩ := HKS.out _ hcut
      have hkx := KeepsX_any C' L' S' k sh' f' wt' pt' HL.out HP.out hk
      rw [HK.out] at hkx
      have HKX := Lib.hid hkx
      clear hkx hcut
      go_wp2_with fail
      refine (HKX.out wc).mono ?_
      rintro e w6 ⟨rfl, hb6⟩
      have HB6 := Lib.hid (below_up' HB5.out hb6)
      clear c0 c1 c2 c3 c4 c5 c6
      obtain ⟨c0, c1, c2, c3, c4, c5, c6⟩ := HKS.out _ HB6.out
      clear hb6
      go_upto_region 13 with fail
      go_cut [15, 16] (fun s t wx => Copied w6 #[.int .i64 (C' : Nat), .int .i64 (L' : Nat), .int .i64 (S' : Nat)] #[.int .i64 (sh' : Nat), .int .i64 (f' : Nat), .int .i64 (wt' : Nat), .int .i64 (pt' : Nat)] s t wx)
      case first =>
        have hl1 : w.heap.size < w6.heap.size := Nat.lt_of_lt_of_le f1 HB6.out.size
        have hl2 : w.heap.size + 1 < w6.heap.size := Nat.lt_of_lt_of_le f2 HB6.out.size
        go_region
        all_goals
          go_wp2
          go_meet
        · exact copied_lp w6 _ _
        · exact copied_pl w6 _ _
      case rest =>
        obtain ⟨b, c, rfl, rfl, hbc, hcc, hne, hlb, hlc, hbw⟩ := hcut
        have hl1 : w.heap.size < w6.heap.size := Nat.lt_of_lt_of_le f1 HB6.out.size
        have hl2 : w.heap.size + 1 < w6.heap.size := Nat.lt_of_lt_of_le f2 HB6.out.size
        have d0 : wc.cell? ⟨b, 0, none⟩ = some (.int .i64 (C' : Nat)) := hbc.cell 0
        have d1 : wc.cell? ⟨b, 1, none⟩ = some (.int .i64 (L' : Nat)) := hbc.cell 1
        have d2 : wc.cell? ⟨b, 2, none⟩ = some (.int .i64 (S' : Nat)) := hbc.cell 2
        have e0 : wc.cell? ⟨c, 0, none⟩ = some (.int .i64 (sh' : Nat)) := hcc.cell 0
        have e1 : wc.cell? ⟨c, 1, none⟩ = some (.int .i64 (f' : Nat)) := hcc.cell 1
        have e2 : wc.cell? ⟨c, 2, none⟩ = some (.int .i64 (wt' : Nat)) := hcc.cell 2
        have e3 : wc.cell? ⟨c, 3, none⟩ = some (.int .i64 (pt' : Nat)) := hcc.cell 3
        have k3 := (below_cell hbw hl2).trans c3
        have z0 := hbc.fz 0
        have z1 := hcc.fz 0
        have n1 : c ≠ b := fun e => hne e.symm
        have n2 : b ≠ w.heap.size + 1 := by omega
        have HBC := Lib.hid hbc
        have HCC := Lib.hid hcc
        have HBW := Lib.hid hbw
        clear hbc hcc hbw c0 c1 c2 c3 c4 c5 c6
        have bC : C' ≤ 100000 := HL.out.c
        have bs : sh' ≤ f' := HP.out.s
        have bf : f' ≤ 1000000 := HP.out.o
        go_wp2_with fail
        all_goals
          refine (Staff_any _ _ _ _ _ _ _ _).mono ?_
          rintro e w7 ⟨m, c7, rfl, hb7, hcase⟩
          have hbz : Below w.heap.size w w7 := below_up HBL.out (below_up' HB6.out (below_up' ((HBW.out.setCell hlb _).setCell hlc _) hb7)) HBL.out.size
          rcases hcase with ⟨hc7, rfl⟩ | ⟨rfl, C2, L2, S2, sh2, f2, wt2, pt2, m2, e1, e2, e3, e4, e5, e6, e7, rfl, _, _, _, hk2, _⟩
          · have hq0 : (c7 == 0) = false := by simpa using hc7
            have hq1 : (c7 != 0) = true := by simpa using hc7
            clear hc7
            go_wp2_with fail
            go_ret
            exact ⟨rfl, hbz⟩
          · have hkm : k ≤ m2 := grow_end HL.out HLEAST.out e1 e2 e3 e4 e5 e6 e7 (by omega) (by omega) hk2
            have hkd : decide (k ≤ m2) = true := by simpa using hkm
            clear e1 e2 e3 e4 e5 e6 e7 hk2
            go_wp2_with fail
            go_ret
            exact ⟨by first | rfl | simp [hkm], hbz⟩

end Go.Proofs.YtfoehmieklldkaaDoor
