/- The walks of staff.Staff and staff.Keeps. -/
import Derived.Test.YtfoehmieklldkaaDoorKeeps
import Derived.Test.YtfoehmieklldkaaDoorChecks
namespace Go.Proofs.YtfoehmieklldkaaDoor
open Go.RowKit

theorem ints2_at (w : World) (a b : Int) (t : TypeId) : SliceAt 1 intR (w.alloc (.cells #[.int .i64 a, .int .i64 b] t)) (.slice (some ⟨w.heap.size, 0, none⟩) 2 2) [a, b] := by
  have hx := Has.new w #[.int .i64 a, .int .i64 b] t
  refine .inr ⟨w.heap.size, 0, 2, rfl, by simp, by simp, fun i hi => ?_⟩
  match i, hi with
  | 0, _ => exact ⟨[.int .i64 a], ⟨rfl, fun j hj => by
      have hj0 : j = 0 := by simpa using hj
      subst hj0
      exact hx.cell 0⟩, rfl⟩
  | 1, _ => exact ⟨[.int .i64 b], ⟨rfl, fun j hj => by
      have hj0 : j = 0 := by simpa using hj
      subst hj0
      exact hx.cell 1⟩, rfl⟩
theorem ints3_at (w : World) (a b c : Int) (t : TypeId) : SliceAt 1 intR (w.alloc (.cells #[.int .i64 a, .int .i64 b, .int .i64 c] t)) (.slice (some ⟨w.heap.size, 0, none⟩) 3 3) [a, b, c] := by
  have hx := Has.new w #[.int .i64 a, .int .i64 b, .int .i64 c] t
  refine .inr ⟨w.heap.size, 0, 3, rfl, by simp, by simp, fun i hi => ?_⟩
  match i, hi with
  | 0, _ => exact ⟨[.int .i64 a], ⟨rfl, fun j hj => by
      have hj0 : j = 0 := by simpa using hj
      subst hj0
      exact hx.cell 0⟩, rfl⟩
  | 1, _ => exact ⟨[.int .i64 b], ⟨rfl, fun j hj => by
      have hj0 : j = 0 := by simpa using hj
      subst hj0
      exact hx.cell 1⟩, rfl⟩
  | 2, _ => exact ⟨[.int .i64 c], ⟨rfl, fun j hj => by
      have hj0 : j = 0 := by simpa using hj
      subst hj0
      exact hx.cell 2⟩, rfl⟩

theorem load_ok {C L S : Int} (h : loadE C L S = 0) : ∃ c l s : Nat, C = c ∧ L = l ∧ S = s ∧ LdOk c l s := by
  unfold loadE at h
  split at h
  · rename_i g
    refine ⟨C.toNat, L.toNat, S.toNat, by omega, by omega, by omega, ⟨by omega, by omega, by omega, by omega, by omega⟩⟩
  · cases h
theorem prom_ok {a b c d : Int} (h : promE a b c d = 0) : ∃ sh f wt pt : Nat, a = sh ∧ b = f ∧ c = wt ∧ d = pt ∧ PrOk sh f wt pt := by
  unfold promE at h
  split at h
  · rename_i g
    refine ⟨a.toNat, b.toNat, c.toNat, d.toNat, by omega, by omega, by omega, by omega, ⟨by omega, by omega, by omega, by omega, by omega, by omega⟩⟩
  · cases h
theorem orI2 (a b : Int) : orI [a, b] = if a = 0 then b else a := by
  simp only [orI]
  split
  · split <;> simp_all
  · rfl
theorem orI3 (a b c : Int) : orI [a, b, c] = if a = 0 then (if b = 0 then c else b) else a := by
  simp only [orI]
  split
  · split
    · split <;> simp_all
    · rfl
  · rfl

/-- what staff.Staff finds -/
def StaffPost (C L S sh f wt pt : Int) (w : World) (e : Ending) (w' : World) : Prop :=
  ∃ n c : Int, e = .returned (.tuple #[.int .i64 n, .int .i64 c]) ∧ Below w.heap.size w w' ∧
    ((c ≠ 0 ∧ n = 0) ∨ (c = 0 ∧ ∃ C' L' S' sh' f' wt' pt' k : Nat, C = C' ∧ L = L' ∧ S = S' ∧ sh = sh' ∧ f = f' ∧ wt = wt' ∧ pt = pt' ∧ n = k ∧ LdOk C' L' S' ∧ PrOk sh' f' wt' pt' ∧ k ≤ 60 ∧ keepsN ⟨C', L', S'⟩ ⟨sh', f', wt', pt'⟩ k = true ∧ ∀ j, j < k → keepsN ⟨C', L', S'⟩ ⟨sh', f', wt', pt'⟩ j = false))

set_option maxRecDepth 100000 in
set_option maxHeartbeats 2000000 in
theorem Staff_any (C L S sh f wt pt : Int) (w : World) :
    Calls Tryd.prog 9 #[.agg #[.int .i64 C, .int .i64 L, .int .i64 S], .agg #[.int .i64 sh, .int .i64 f, .int .i64 wt, .int .i64 pt]] w (StaffPost C L S sh f wt pt w) := by
  have hbx := box2 w #[.int .i64 C, .int .i64 L, .int .i64 S] #[.int .i64 sh, .int .i64 f, .int .i64 wt, .int .i64 pt] 23 25
  go_enter Tryd.func9, Tryd.ntmps9
  go_upto_region 1 with fail
  generalize (w.alloc (.cells #[.int .i64 C, .int .i64 L, .int .i64 S] 23)).alloc (.cells #[.int .i64 sh, .int .i64 f, .int .i64 wt, .int .i64 pt] 25) = w2 at *
  obtain ⟨hx, hx2, hbl⟩ := hbx
  have f1 := hx.lt
  have f2 := hx2.lt
  have hks : ∀ W, Below w2.heap.size w2 W → W.cell? ⟨w.heap.size, 0, none⟩ = some (.int .i64 C) ∧ W.cell? ⟨w.heap.size, 1, none⟩ = some (.int .i64 L) ∧ W.cell? ⟨w.heap.size, 2, none⟩ = some (.int .i64 S) ∧ W.cell? ⟨w.heap.size + 1, 0, none⟩ = some (.int .i64 sh) ∧ W.cell? ⟨w.heap.size + 1, 1, none⟩ = some (.int .i64 f) ∧ W.cell? ⟨w.heap.size + 1, 2, none⟩ = some (.int .i64 wt) ∧ W.cell? ⟨w.heap.size + 1, 3, none⟩ = some (.int .i64 pt) := fun W h =>
    ⟨(below_cell h f1).trans (hx.cell 0), (below_cell h f1).trans (hx.cell 1), (below_cell h f1).trans (hx.cell 2), (below_cell h f2).trans (hx2.cell 0), (below_cell h f2).trans (hx2.cell 1), (below_cell h f2).trans (hx2.cell 2), (below_cell h f2).trans (hx2.cell 3)⟩
  have HKS := Lib.hid hks
  have HBL := Lib.hid hbl
  clear hks hx hx2 hbl
  go_cut [6] (fun s wx => s = .int .i64 (orI [loadE C L S, promE sh f wt pt]) ∧ Below w2.heap.size w2 wx)
  case first =>
    go_region_held3 (fun W => W.cell? ⟨w.heap.size, 0, none⟩ = some (.int .i64 C) ∧ W.cell? ⟨w.heap.size, 1, none⟩ = some (.int .i64 L) ∧ W.cell? ⟨w.heap.size, 2, none⟩ = some (.int .i64 S) ∧ W.cell? ⟨w.heap.size + 1, 0, none⟩ = some (.int .i64 sh) ∧ W.cell? ⟨w.heap.size + 1, 1, none⟩ = some (.int .i64 f) ∧ W.cell? ⟨w.heap.size + 1, 2, none⟩ = some (.int .i64 wt) ∧ W.cell? ⟨w.heap.size + 1, 3, none⟩ = some (.int .i64 pt))
      (first | exact HKS.out _ (hB.alloc hB.size _) | exact HKS.out _ hB | exact HKS.out _ (Below.refl _ _).drew)
      (first
        | (go_at_call 30; refine (or_any _ [loadE C L S, promE sh f wt pt] _ (ints2_at _ _ _ _) (by simp)).mono ?_; rintro e w' ⟨rfl, rfl⟩; have hB := hB.alloc hB.size (.cells #[.int .i64 (loadE C L S), .int .i64 (promE sh f wt pt)] 27))
        | (go_at_call 32; refine (checkPromise_any sh f wt pt _).mono ?_; rintro e w' ⟨rfl, hb⟩; have hB := below_up' hB hb)
        | (go_at_call 31; refine (checkLoad_any C L S w2.drew).mono ?_; rintro e w' ⟨rfl, hb⟩; have hB := below_up' (Below.refl _ w2).drew hb))
    go_wp2
    go_meet
    exact ⟨rfl, hB⟩
  case rest =>
    obtain ⟨rfl, hb⟩ := hcut
    by_cases hl : loadE C L S = 0
    · by_cases hp : promE sh f wt pt = 0
      · have ho : orI [loadE C L S, promE sh f wt pt] = 0 := by rw [orI2, if_pos hl, hp]
        rw [ho]
        obtain ⟨C', L', S', rfl, rfl, rfl, hlo⟩ := load_ok hl
        obtain ⟨sh', f', wt', pt', rfl, rfl, rfl, rfl, hpo⟩ := prom_ok hp
        have HL := Lib.hid hlo
        have HP := Lib.hid hpo
        have HB := Lib.hid hb
        clear hlo hpo hb ho hl hp
        go_wp2_with fail
        go_loopw [7, 17] (fun _ kv wr => ∃ k : Nat, kv = .int .i64 k ∧ k ≤ 61 ∧ Below w2.heap.size w2 wr ∧ ∀ j, j < k → keepsN ⟨C', L', S'⟩ ⟨sh', f', wt', pt'⟩ j = false) (fun _ kv _ => 61 - (intOf kv).toNat)
        case atStart => exact ⟨0, rfl, by omega, HB.out, fun j hj => absurd hj (by omega)⟩
        case round =>
          obtain ⟨k, rfl, hk, hbr, hno⟩ := hrel
          have HBR := Lib.hid hbr
          have HNO := Lib.hid hno
          obtain ⟨c0, c1, c2, c3, c4, c5, c6⟩ := HKS.out _ hbr
          clear hbr hno
          by_cases hlt : k < 61
          · go_wp2_with fail
            refine (keeps_any C' L' S' k sh' f' wt' pt' HL.out HP.out (by omega) wr).mono ?_
            rintro e w3 ⟨rfl, hb3⟩
            have HB3 := Lib.hid (below_up' HBR.out hb3)
            clear hb3
            cases hkn : keepsN ⟨C', L', S'⟩ ⟨sh', f', wt', pt'⟩ k with
            | true =>
              have HKN := Lib.hid hkn
              clear hkn
              go_wp2_with fail
              go_ret2
              exact ⟨_, _, rfl, below_up HBL.out HB3.out HBL.out.size, .inr ⟨rfl, C', L', S', sh', f', wt', pt', k, rfl, rfl, rfl, rfl, rfl, rfl, rfl, rfl, HL.out, HP.out, by omega, HKN.out, HNO.out⟩⟩
            | false =>
              have HKN := Lib.hid hkn
              clear hkn
              go_wp2_with fail
              go_roundw
              case rel => exact ⟨k + 1, by go_num, by omega, HB3.out, fun j hj => by
                by_cases e : j = k
                · subst e; exact HKN.out
                · exact HNO.out j (by omega)⟩
              case measure => simp [intOf]; omega
          · have hke : k = 61 := by omega
            subst hke
            go_wp2_with fail
            go_ret2
            exact ⟨_, _, rfl, below_up HBL.out HBR.out HBL.out.size, .inl ⟨by omega, rfl⟩⟩
      · have ho : orI [loadE C L S, promE sh f wt pt] = promE sh f wt pt := by rw [orI2, if_pos hl]
        rw [ho]
        have hb0 : (promE sh f wt pt == 0) = false := by simpa using hp
        have hb1 : (promE sh f wt pt != 0) = true := by simpa using hp
        have HP := Lib.hid hp
        clear hp ho hl
        generalize promE sh f wt pt = c at *
        go_wp2_with fail
        go_ret2
        exact ⟨_, _, rfl, below_up HBL.out hb HBL.out.size, .inl ⟨HP.out, rfl⟩⟩
    · have ho : orI [loadE C L S, promE sh f wt pt] = loadE C L S := by rw [orI2, if_neg hl]
      rw [ho]
      have hb0 : (loadE C L S == 0) = false := by simpa using hl
      have hb1 : (loadE C L S != 0) = true := by simpa using hl
      have HP := Lib.hid hl
      clear ho hl
      generalize loadE C L S = c at *
      go_wp2_with fail
      go_ret2
      exact ⟨_, _, rfl, below_up HBL.out hb HBL.out.size, .inl ⟨HP.out, rfl⟩⟩

end Go.Proofs.YtfoehmieklldkaaDoor
