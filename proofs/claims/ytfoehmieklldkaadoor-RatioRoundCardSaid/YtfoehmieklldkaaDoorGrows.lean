/- The walks of staff.Keeps, of the look whether the package is there, and of the law StaffGrows. -/
import Derived.Test.YtfoehmieklldkaaDoorFind
namespace Go.Proofs.YtfoehmieklldkaaDoor
open Go.RowKit

theorem loadE_ok {C L S : Nat} (h : LdOk C L S) : loadE C L S = 0 := by
  obtain ⟨h1, h2, h3, h4, h5⟩ := h
  unfold loadE
  rw [if_pos (by omega)]
theorem promE_ok {sh f wt pt : Nat} (h : PrOk sh f wt pt) : promE sh f wt pt = 0 := by
  obtain ⟨h1, h2, h3, h4, h5, h6⟩ := h
  unfold promE
  rw [if_pos (by omega)]
theorem peoE_ok {n : Nat} (h : n ≤ 60) : peoE n = 0 := by
  unfold peoE
  rw [if_pos (by omega)]

set_option maxRecDepth 100000 in
set_option maxHeartbeats 2000000 in
theorem KeepsX_any (C L S n sh f wt pt : Nat) (hl : LdOk C L S) (hp : PrOk sh f wt pt) (hn : n ≤ 60) (w : World) :
    Calls Tryd.prog 10 #[.agg #[.int .i64 (C : Nat), .int .i64 (L : Nat), .int .i64 (S : Nat)], .agg #[.int .i64 (sh : Nat), .int .i64 (f : Nat), .int .i64 (wt : Nat), .int .i64 (pt : Nat)], .int .i64 (n : Nat)] w
      (fun e w' => e = .returned (.tuple #[.bool (keepsN ⟨C, L, S⟩ ⟨sh, f, wt, pt⟩ n), .int .i64 0]) ∧ Below w.heap.size w w') := by
  have hbx := box2 w #[.int .i64 (C : Nat), .int .i64 (L : Nat), .int .i64 (S : Nat)] #[.int .i64 (sh : Nat), .int .i64 (f : Nat), .int .i64 (wt : Nat), .int .i64 (pt : Nat)] 23 25
  have hcl := checkLoad_any C L S
  have hcp := checkPromise_any sh f wt pt
  have hce := checkPeople_any n
  rw [loadE_ok hl] at hcl
  rw [promE_ok hp] at hcp
  rw [peoE_ok hn] at hce
  have HCL := Lib.hid hcl
  have HCP := Lib.hid hcp
  have HCE := Lib.hid hce
  have HK := Lib.hid (keeps_any C L S n sh f wt pt hl hp hn)
  generalize keepsN ⟨C, L, S⟩ ⟨sh, f, wt, pt⟩ n = kn at *
  clear hcl hcp hce hl hp
  go_enter Tryd.func10, Tryd.ntmps10
  go_upto_region 1 with fail
  generalize (w.alloc (.cells #[.int .i64 (C : Nat), .int .i64 (L : Nat), .int .i64 (S : Nat)] 23)).alloc (.cells #[.int .i64 (sh : Nat), .int .i64 (f : Nat), .int .i64 (wt : Nat), .int .i64 (pt : Nat)] 25) = w2 at *
  obtain ⟨hx, hx2, hbl⟩ := hbx
  have f1 := hx.lt
  have f2 := hx2.lt
  have hks : ∀ W, Below w2.heap.size w2 W → W.cell? ⟨w.heap.size, 0, none⟩ = some (.int .i64 (C : Nat)) ∧ W.cell? ⟨w.heap.size, 1, none⟩ = some (.int .i64 (L : Nat)) ∧ W.cell? ⟨w.heap.size, 2, none⟩ = some (.int .i64 (S : Nat)) ∧ W.cell? ⟨w.heap.size + 1, 0, none⟩ = some (.int .i64 (sh : Nat)) ∧ W.cell? ⟨w.heap.size + 1, 1, none⟩ = some (.int .i64 (f : Nat)) ∧ W.cell? ⟨w.heap.size + 1, 2, none⟩ = some (.int .i64 (wt : Nat)) ∧ W.cell? ⟨w.heap.size + 1, 3, none⟩ = some (.int .i64 (pt : Nat)) := fun W h =>
    ⟨(below_cell h f1).trans (hx.cell 0), (below_cell h f1).trans (hx.cell 1), (below_cell h f1).trans (hx.cell 2), (below_cell h f2).trans (hx2.cell 0), (below_cell h f2).trans (hx2.cell 1), (below_cell h f2).trans (hx2.cell 2), (below_cell h f2).trans (hx2.cell 3)⟩
  have HKS := Lib.hid hks
  have HBL := Lib.hid hbl
  clear hks hx hx2 hbl
  go_cut [8] (fun s wx => s = .int .i64 0 ∧ Below w2.heap.size w2 wx)
  case first =>
    go_region_held3 (fun W => W.cell? ⟨w.heap.size, 0, none⟩ = some (.int .i64 (C : Nat)) ∧ W.cell? ⟨w.heap.size, 1, none⟩ = some (.int .i64 (L : Nat)) ∧ W.cell? ⟨w.heap.size, 2, none⟩ = some (.int .i64 (S : Nat)) ∧ W.cell? ⟨w.heap.size + 1, 0, none⟩ = some (.int .i64 (sh : Nat)) ∧ W.cell? ⟨w.heap.size + 1, 1, none⟩ = some (.int .i64 (f : Nat)) ∧ W.cell? ⟨w.heap.size + 1, 2, none⟩ = some (.int .i64 (wt : Nat)) ∧ W.cell? ⟨w.heap.size + 1, 3, none⟩ = some (.int .i64 (pt : Nat)))
      (first | exact HKS.out _ (hB.alloc hB.size _) | exact HKS.out _ hB | exact HKS.out _ (Below.refl _ _).drew)
      (first
        | (go_at_call 30; refine (or_any _ [0, 0, 0] _ (ints3_at _ _ _ _ _) (by simp)).mono ?_; rintro e w' ⟨rfl, rfl⟩; have hB := hB.alloc hB.size (.cells #[.int .i64 0, .int .i64 0, .int .i64 0] 27))
        | (go_at_call 32; refine (HCP.out _).mono ?_; rintro e w' ⟨rfl, hb⟩; have hB := below_up' hB hb)
        | (go_at_call 34; refine (HCE.out _).mono ?_; rintro e w' ⟨rfl, rfl⟩)
        | (go_at_call 31; refine (HCL.out w2.drew).mono ?_; rintro e w' ⟨rfl, hb⟩; have hB := below_up' (Below.refl _ w2).drew hb))
    go_wp2
    go_meet
    exact ⟨rfl, hB⟩
  case rest =>
    obtain ⟨rfl, hb⟩ := hcut
    obtain ⟨c0, c1, c2, c3, c4, c5, c6⟩ := HKS.out _ hb
    have HB := Lib.hid hb
    clear hb
    go_wp2_with fail
    refine (HK.out wc).mono ?_
    rintro e w3 ⟨rfl, hb3⟩
    go_wp2_with fail
    go_ret2
    exact ⟨rfl, below_up HBL.out (below_up' HB.out hb3) HBL.out.size⟩

theorem infoRatioS : (Tryd.prog.info? 44).map (·.size) = some 2 := by kernel_rfl
set_option maxRecDepth 100000 in
theorem RatioOf_no (w : World) :
    Calls Tryd.prog 29 #[.int .i64 1, .int .i64 0] w fun e w' => e = .returned (.tuple #[.agg #[.string ⟨#[]⟩, .string ⟨#[]⟩], .int .i64 2]) ∧ Below w.heap.size w w' := by
  go_enter Tryd.func29, Tryd.ntmps29
  go_wp2_with fail
  have hx : Has (w.alloc (.cells #[.string ⟨#[]⟩, .string ⟨#[]⟩] 44)) w.heap.size #[.string ⟨#[]⟩, .string ⟨#[]⟩] 44 := Has.new _ _ _
  refine bodyPost_ret (results_cell_tmp_row rfl _ _ w.heap.size _ _ (0, 0) _ rfl hx Tryd.underlying44 rfl infoRatioS) rfl ?_
  exact ⟨rfl, (Below.refl _ _).alloc (Nat.le_refl _) _⟩

set_option maxRecDepth 100000 in
theorem awake_any (w : World) : Calls Tryd.prog 8 #[] w fun e w' => e = .returned (.bool true) ∧ Below w.heap.size w w' := by
  go_enter Tryd.func8, Tryd.ntmps8
  go_wp2_with fail
  refine (RatioOf_no w).mono ?_
  rintro e w1 ⟨rfl, hb⟩
  go_wp2
  go_ret
  exact ⟨rfl, hb.alloc hb.size _⟩

end Go.Proofs.YtfoehmieklldkaaDoor
