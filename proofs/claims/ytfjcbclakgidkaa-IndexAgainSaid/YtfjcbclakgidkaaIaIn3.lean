/- The walk of slices.Insert at entries. -/
import Derived.Test.YtfjcbclakgidkaaIaIn0
namespace Go.Proofs.Ytfjcbclakgidkaa
open Go.RowKit

theorem infoEn : (Try.prog.info? 24).map (fun i => (i.zero, i.size, i.bytes)) = some (some (.agg #[.int .i64 0, .string ⟨#[]⟩, .string ⟨#[]⟩]), 3, 40) := by kernel_rfl
def InsPostE (B : Nat) (w : World) (n i : Nat) (xs vs : List Value) (e : Ending) (w' : World) : Prop :=
  ∃ v', e = .returned v' ∧ w'.ownsRow B 24 3 v' (n + 1) (xs.take (i * 3) ++ vs ++ xs.drop (i * 3)) ∧ Below B w w'
set_option maxRecDepth 100000 in
set_option maxHeartbeats 4000000 in
/-- at the end: an append -/
theorem insert_endE (B g c n X : Nat) (xs vs : List Value) (w : World) (ho : w.ownsRow B 24 3 (.slice (some ⟨g, 0, none⟩) n c) n xs) (hvl : vs.length = 3) (hvs : ∀ j u, vs[j]? = some u → w.cell? ((⟨X, 0, none⟩ : Addr).add j) = some u) (h1v : ∀ u ∈ vs, u.oneCell' = true)
    (hn0 : 0 < n) (hn : (n + 1) * 40 ≤ 140737488355328) (hB : B ≤ w.heap.size) :
    Calls Try.prog 10 #[.slice (some ⟨g, 0, none⟩) n c, .int .i64 n, .slice (some ⟨X, 0, none⟩) 1 1] w (InsPostE B w n n xs vs) := by
  have hxl : xs.length = n * 3 := ho.1
  have HO := Lib.hid ho
  have HV := Lib.hid hvs
  have H1 := Lib.hid h1v
  have HL := Lib.hid hvl
  have e1 : xs.take (n * 3) = xs := List.take_of_length_le (by omega)
  have e2 : xs.drop (n * 3) = [] := List.drop_eq_nil_of_le (by omega)
  have HP := Lib.hid (show InsPostE B w n n xs vs = fun e w' => ∃ v', e = .returned v' ∧ w'.ownsRow B 24 3 v' (n + 1) (xs ++ vs) ∧ Below B w w' by unfold InsPostE; rw [e1, e2]; simp)
  clear ho hvs h1v hvl e1 e2 hxl
  rw [HP.out]
  clear HP
  go_enter Try.func10, Try.ntmps10
  go_wp2_with (at_builtin; go_must (refine append_alla rfl _ _ 22 rfl B 24 (.agg #[.int .i64 0, .string ⟨#[]⟩, .string ⟨#[]⟩]) 3 40 Try.underlying22 infoEn rfl (by decide) w w (.slice (some ⟨g, 0, none⟩) n c) n xs rfl HO.out ⟨X, 0, none⟩ 1 1 vs rfl HL.out HV.out H1.out hn (by omega) hB (Below.refl _ _) ?_); intro v' w6 ho hb6)
  all_goals (go_ret; exact ⟨_, rfl, ho, hb6⟩)

/-- the row behind the two copies -/
theorem shift_rowE {cur xs vs : List Value} {n i : Nat} (hx : cur.take (n * 3) = xs) (hxl : xs.length = n * 3) (hv : vs.length = 3) (hi : i < n) (hc : (n + 1) * 3 ≤ cur.length) :
    ((((cur.take ((i + 1) * 3) ++ xs.drop (i * 3) ++ cur.drop ((i + 1) * 3 + (xs.drop (i * 3)).length)).take (i * 3) ++ vs ++ (cur.take ((i + 1) * 3) ++ xs.drop (i * 3) ++ cur.drop ((i + 1) * 3 + (xs.drop (i * 3)).length)).drop (i * 3 + vs.length)).take ((n + 1) * 3))) = xs.take (i * 3) ++ vs ++ xs.drop (i * 3) := by
  have e1 : (cur.take ((i + 1) * 3) ++ xs.drop (i * 3) ++ cur.drop ((i + 1) * 3 + (xs.drop (i * 3)).length)).take (i * 3) = xs.take (i * 3) := by
    rw [List.append_assoc, List.take_append_of_le_length (by rw [List.length_take]; omega), List.take_take, ← hx, List.take_take, Nat.min_eq_left (by omega), Nat.min_eq_left (by omega)]
  have e2 : (cur.take ((i + 1) * 3) ++ xs.drop (i * 3) ++ cur.drop ((i + 1) * 3 + (xs.drop (i * 3)).length)).drop (i * 3 + vs.length) = xs.drop (i * 3) ++ cur.drop ((i + 1) * 3 + (xs.drop (i * 3)).length) := by
    rw [List.append_assoc, List.drop_append_of_le_length (by rw [List.length_take]; omega), List.drop_eq_nil_of_le (by rw [List.length_take]; omega), List.nil_append]
  rw [e1, e2, ← List.append_assoc, List.take_append_of_le_length (by rw [List.length_append, List.length_append, List.length_take, List.length_drop]; omega)]
  refine List.take_of_length_le ?_
  rw [List.length_append, List.length_append, List.length_take, List.length_drop]
  omega
set_option maxRecDepth 100000 in
set_option maxHeartbeats 4000000 in
/-- there is room: in place -/
theorem insert_shiftE (B g c n i X : Nat) (xs vs : List Value) (w : World) (ho : w.ownsRow B 24 3 (.slice (some ⟨g, 0, none⟩) n c) n xs) (hX : Has w X vs.toArray 24) (hvl : vs.length = 3) (hgX : g ≠ X) (h1v : ∀ u ∈ vs, u.oneCell' = true) (h1x : ∀ u ∈ xs, u.oneCell' = true)
    (hi : i < n) (hroom : n + 1 ≤ c) :
    Calls Try.prog 10 #[.slice (some ⟨g, 0, none⟩) n c, .int .i64 i, .slice (some ⟨X, 0, none⟩) 1 1] w (InsPostE B w n i xs vs) := by
  have hxl : xs.length = n * 3 := ho.1
  obtain ⟨cur, hBg, hg, hmax, hsz, htk⟩ : ∃ cur : Array Value, B ≤ g ∧ w.heap[g]? = some (.cells cur 24 (0, 0)) ∧ c ≤ maxLen ∧ cur.size = c * 3 ∧ cur.toList.take (n * 3) = xs := by
    rcases ho.2 with ⟨q, _⟩ | ⟨g', cap, cur, hv, h1, h2, h3, h4, h5, h6⟩
    · cases q
    · cases hv
      exact ⟨cur, h1, h2, h4, h5, h6⟩
  have hc63 : c ≤ 9223372036854775807 := by unfold maxLen at hmax; omega
  have hXh : w.heap[X]? = some (.cells vs.toArray 24 (0, 0)) := hX
  have hif : (Try.prog.info? 24).map (·.size) = some 3 := by kernel_rfl
  obtain ⟨cur1, hc1⟩ : ∃ cur1 : Array Value, cur1 = (cur.toList.take ((i + 1) * 3) ++ xs.drop (i * 3) ++ cur.toList.drop ((i + 1) * 3 + (xs.drop (i * 3)).length)).toArray := ⟨_, rfl⟩
  obtain ⟨cur2, hc2⟩ : ∃ cur2 : Array Value, cur2 = (cur1.toList.take (i * 3) ++ vs ++ cur1.toList.drop (i * 3 + vs.length)).toArray := ⟨_, rfl⟩
  have hdl : (xs.drop (i * 3)).length = (n - i) * 3 := by rw [List.length_drop]; omega
  have hl1 : cur1.size = cur.size := by
    rw [hc1]
    simp only [List.size_toArray, List.length_append, List.length_take, List.length_drop, Array.length_toList]
    omega
  have hrow : cur2.toList.take ((n + 1) * 3) = xs.take (i * 3) ++ vs ++ xs.drop (i * 3) := by
    rw [hc2, hc1]
    exact shift_rowE htk hxl hvl hi (by rw [Array.length_toList, hsz]; omega)
  have hl2 : cur2.size = cur.size := by
    rw [hc2]
    simp only [List.size_toArray, List.length_append, List.length_take, List.length_drop, Array.length_toList]
    omega
  have hadd : ∀ (o j : Nat), (⟨g, o, none⟩ : Addr).add j = ⟨g, o + j, none⟩ := fun o j => by unfold Addr.add; split <;> simp_all
  have haddX : ∀ (j : Nat), (⟨X, 0, none⟩ : Addr).add j = ⟨X, 0 + j, none⟩ := fun j => by unfold Addr.add; split <;> simp_all
  have HC1 := Lib.hid (show ∀ (W : World), W.heap[g]? = some (.cells cur 24 (0, 0)) → ∀ ty o1 o2 d1 s1 dc sc, o1 = (i + 1) * 3 → o2 = i * 3 → Nat.min s1 d1 = n - i →
      (Builtin.copy_ #[22, 22] ty #[.slice (some ⟨g, o1, none⟩) d1 dc, .slice (some ⟨g, o2, none⟩) s1 sc]).run Try.prog W = .ok (goInt ((n - i : Nat) : Int)) (W.setRow g cur1) from fun W hW ty o1 o2 d1 s1 dc sc e1 e2 hm => by
    subst e1 e2
    rw [run_copyk W _ _ ty 24 3 g ((i + 1) * 3) d1 dc ⟨g, i * 3, none⟩ s1 sc (n - i) cur _ (xs.drop (i * 3)) Try.underlying22 hif hW hm hdl (fun j v hj => by
      rw [hadd]
      rw [List.getElem?_drop] at hj
      have hlt : i * 3 + j < n * 3 := by rw [← hxl]; exact (List.getElem?_eq_some_iff.1 hj).1
      rw [← htk, List.getElem?_take, if_pos hlt] at hj
      simp only [World.cell?, hW]
      simpa using hj) (by rw [hdl, hsz]; omega) (fun v hv => h1x v (List.mem_of_mem_drop hv)), hc1])
  have HC2 := Lib.hid (show ∀ (W : World), W.heap[g]? = some (.cells cur1 24 (0, 0)) → W.heap[X]? = some (.cells vs.toArray 24 (0, 0)) → ∀ ty o1 d1 dc, o1 = i * 3 → Nat.min 1 d1 = 1 →
      (Builtin.copy_ #[22, 22] ty #[.slice (some ⟨g, o1, none⟩) d1 dc, .slice (some ⟨X, 0, none⟩) 1 1]).run Try.prog W = .ok (goInt ((1 : Nat) : Int)) (W.setRow g cur2) from fun W hW hWX ty o1 d1 dc e1 hm => by
    subst e1
    rw [run_copyk W _ _ ty 24 3 g (i * 3) d1 dc ⟨X, 0, none⟩ 1 1 1 cur1 _ vs Try.underlying22 hif hW hm (by omega) (fun j v hj => by
      rw [haddX]
      simp only [World.cell?, hWX, Nat.zero_add]
      simpa using hj) (by rw [hvl, hl1, hsz]; omega) h1v, hc2])
  have hov : ∀ o lb cb, (callFunc 21 #[.slice (some ⟨X, 0, none⟩) 1 1, .slice (some ⟨g, o, none⟩) lb cb]).run Try.prog w = .ok (.value (.bool false)) w := fun o lb cb => by
    rw [run_callFunc_extern Try.func21 (by kernel_rfl) (by kernel_rfl) (by kernel_rfl) (e := Extern.SlicesOverlaps.overlaps #[22, 22] #[4]) (by kernel_rfl),
      Lib.run_overlaps_apart w 22 4 24 Try.underlying22 3 (fun w => by kernel_rfl) ⟨X, 0, none⟩ ⟨g, o, none⟩ 1 1 lb cb (Ne.symm hgX) 24 24 3 (c * 3) (by simp [World.shape?, hXh, hvl]) (by simp [World.shape?, hg, hsz]) (by omega) (by simp [World.frozen?, hXh]) (by simp [World.frozen?, hXh])]
    rfl
  have HG := Lib.hid hg
  have HXH := Lib.hid hXh
  have HZ := Lib.hid (show ∀ W : World, Below B w W → W.heap[g]? = some (.cells cur2 24 (0, 0)) → W.ownsRow B 24 3 (.slice (some ⟨g, 0, none⟩) (n + 1) c) (n + 1) (xs.take (i * 3) ++ vs ++ xs.drop (i * 3)) from fun W _ hW =>
    ⟨by rw [List.length_append, List.length_append, List.length_take, List.length_drop]; omega, .inr ⟨g, c, cur2, rfl, hBg, hW, hroom, hmax, by rw [hl2, hsz], hrow⟩⟩)
  have HBG := Lib.hid hBg
  have HNE := Lib.hid hgX
  clear ho hX hXh hg hc1 hc2 hl1 hl2 hrow htk hsz hdl hif hadd haddX hBg hgX h1v h1x hxl hvl hmax
  have hz2 : ¬ ((i : Int) = (n : Int)) := by omega
  have hw1 : IntKind.i64.wrap ((i : Int) + 1) = (i : Int) + 1 := by rw [IntKind.wrap_i64]; omega
  have hb1 : (0 : Int) ≤ (i : Int) + 1 := by omega
  have hin : i ≤ n := by omega
  have htn : ((i : Int) + 1).toNat = i + 1 := by omega
  have hb2 : ¬ (c = i + 1) := by omega
  have hb3 : (i : Int) ≤ (n : Int) + 1 := by omega
  have hb4 : ¬ (c = i) := by omega
  go_enter Try.func10, Try.ntmps10
  go_wp2_with (simp only [hov])
  have hb5 : n + 1 - (i + 1) = n - i := by omega
  refine anyT_start (S := fun _ => True) (t := 9) (by kernel_rfl) ?_
  refine takeS (i := 0) (v := ?_) rfl rfl (by kernel_rfl) (by kernel_rfl) (by kernel_rfl) (fun _ _ _ h => h) (by decide) (by kernel_rfl) ?_ trivial ?_
  rotate_left
  · intro w hSw; (try dsimp only at hSw); go_simp; (try with_reducible rfl)
  simp only [List.setIfInBounds_toArray, List.set_cons_zero, List.set_cons_succ]
  refine takeS (i := 1) (v := ?_) rfl rfl (by kernel_rfl) (by kernel_rfl) (by kernel_rfl) (fun _ _ _ h => h) (by decide) (by kernel_rfl) ?_ trivial ?_
  rotate_left
  · intro w hSw; (try dsimp only at hSw); go_simp; (try with_reducible rfl)
  simp only [List.setIfInBounds_toArray, List.set_cons_zero, List.set_cons_succ]
  refine takeS (i := 2) (v := ?_) rfl rfl (by kernel_rfl) (by kernel_rfl) (by kernel_rfl) (fun _ _ _ h => h) (by decide) (by kernel_rfl) ?_ trivial ?_
  rotate_left
  · intro w hSw; (try dsimp only at hSw); go_simp; (try with_reducible rfl)
  simp only [List.setIfInBounds_toArray, List.set_cons_zero, List.set_cons_succ]
  refine takeS (i := 3) (v := ?_) rfl rfl (by kernel_rfl) (by kernel_rfl) (by kernel_rfl) (fun _ _ _ h => h) (by decide) (by kernel_rfl) ?_ trivial ?_
  rotate_left
  · intro w hSw; (try dsimp only at hSw); go_simp; (try with_reducible rfl)
  simp only [List.setIfInBounds_toArray, List.set_cons_zero, List.set_cons_succ]
  refine takeS (i := 4) (v := ?_) rfl rfl (by kernel_rfl) (by kernel_rfl) (by kernel_rfl) (fun _ _ _ h => h) (by decide) (by kernel_rfl) ?_ trivial ?_
  rotate_left
  · intro w hSw; (try dsimp only at hSw); go_simp; (try with_reducible rfl)
  simp only [List.setIfInBounds_toArray, List.set_cons_zero, List.set_cons_succ]
  refine takeS (i := 5) (v := ?_) rfl rfl (by kernel_rfl) (by kernel_rfl) (by kernel_rfl) (fun _ _ _ h => h) (by decide) (by kernel_rfl) ?_ trivial ?_
  rotate_left
  · intro w hSw; (try dsimp only at hSw); go_simp; (try with_reducible rfl)
  simp only [List.setIfInBounds_toArray, List.set_cons_zero, List.set_cons_succ]
  refine takeS (i := 6) (v := ?_) rfl rfl (by kernel_rfl) (by kernel_rfl) (by kernel_rfl) (fun _ _ _ h => h) (by decide) (by kernel_rfl) ?_ trivial ?_
  rotate_left
  · intro w hSw; (try dsimp only at hSw); go_simp; (try with_reducible rfl)
  simp only [List.setIfInBounds_toArray, List.set_cons_zero, List.set_cons_succ]
  refine takeS (i := 7) (v := ?_) rfl rfl (by kernel_rfl) (by kernel_rfl) (by kernel_rfl) (fun _ _ _ h => h) (by decide) (by kernel_rfl) ?_ trivial ?_
  rotate_left
  · intro w hSw; (try dsimp only at hSw); go_simp; (try with_reducible rfl)
  simp only [List.setIfInBounds_toArray, List.set_cons_zero, List.set_cons_succ]
  refine oneT (i := 8) rfl (by kernel_rfl) (fun K hK => ?_)
  go_simp
  rw [HC1.out w.drew HG.out _ _ _ _ _ _ _ rfl rfl (by simp only [Nat.min_def]; split <;> omega)]
  go_simp
  refine hK.out _ _ (fun _ => trivial) ?_
  refine doneT (by kernel_rfl) ?_ _
  clear hK
  have hA2 := HC2.out (w.drew.setRow g cur1) (setRow_heap _ _ cur _ _ _ HG.out) ((setRow_other _ g X _ (Ne.symm HNE.out)).trans HXH.out) 3 (i * 3) (n + 1 - i) (c - i) rfl (by simp only [Nat.min_def]; split <;> omega)
  go_wp2_with (simp only [hA2])
  go_ret
  refine ⟨_, rfl, HZ.out _ (setRow_below (setRow_below (Below.refl _ _).drew HBG.out) HBG.out) (setRow_heap _ _ cur1 _ _ _ (setRow_heap _ _ cur _ _ _ HG.out)), setRow_below (setRow_below (Below.refl _ _).drew HBG.out) HBG.out⟩


/-- the new row behind the two copies -/
theorem grow_rowE {R xs vs : List Value} {n i : Nat} (hx : R.take (i * 3) = xs.take (i * 3)) (hxl : xs.length = n * 3) (hv : vs.length = 3) (hi : i < n) (hc : (n + 1) * 3 ≤ R.length) :
    ((((R.take (i * 3) ++ vs ++ R.drop (i * 3 + vs.length)).take ((i + 1) * 3) ++ xs.drop (i * 3) ++ (R.take (i * 3) ++ vs ++ R.drop (i * 3 + vs.length)).drop ((i + 1) * 3 + (xs.drop (i * 3)).length))).take ((n + 1) * 3)) = xs.take (i * 3) ++ vs ++ xs.drop (i * 3) := by
  have e1 : (R.take (i * 3) ++ vs ++ R.drop (i * 3 + vs.length)).take ((i + 1) * 3) = xs.take (i * 3) ++ vs := by
    rw [hx, List.take_append_of_le_length (by rw [List.length_append, List.length_take]; omega)]
    refine List.take_of_length_le ?_
    rw [List.length_append, List.length_take]
    omega
  rw [e1, List.take_append_of_le_length (by rw [List.length_append, List.length_append, List.length_take, List.length_drop]; omega)]
  refine List.take_of_length_le ?_
  rw [List.length_append, List.length_append, List.length_take, List.length_drop]
  omega
set_option maxRecDepth 100000 in
set_option maxHeartbeats 4000000 in
/-- there is no room: a new row -/
theorem insert_growE (B g c n i X : Nat) (xs vs : List Value) (w : World) (ho : w.ownsRow B 24 3 (.slice (some ⟨g, 0, none⟩) n c) n xs) (hX : Has w X vs.toArray 24) (hvl : vs.length = 3) (h1v : ∀ u ∈ vs, u.oneCell' = true) (h1x : ∀ u ∈ xs, u.oneCell' = true)
    (hi : i < n) (hroom : c < n + 1) (hB : B ≤ w.heap.size) (hn : (n + 1) * 40 ≤ 140737488355328) :
    Calls Try.prog 10 #[.slice (some ⟨g, 0, none⟩) n c, .int .i64 i, .slice (some ⟨X, 0, none⟩) 1 1] w (InsPostE B w n i xs vs) := by
  have hxl : xs.length = n * 3 := ho.1
  obtain ⟨cur, hg, hnc, hsz, htk⟩ : ∃ cur : Array Value, w.heap[g]? = some (.cells cur 24 (0, 0)) ∧ n ≤ c ∧ cur.size = c * 3 ∧ cur.toList.take (n * 3) = xs := by
    rcases ho.2 with ⟨q, _⟩ | ⟨g', cap, cur, hv, h1, h2, h3, h4, h5, h6⟩
    · cases q
    · cases hv
      exact ⟨cur, h2, h3, h5, h6⟩
  have hXh : w.heap[X]? = some (.cells vs.toArray 24 (0, 0)) := hX
  have hgD : g < w.heap.size := (Array.getElem?_eq_some_iff.1 hg).1
  have hXD : X < w.heap.size := (Array.getElem?_eq_some_iff.1 hXh).1
  have hif : (Try.prog.info? 24).map (·.size) = some 3 := by kernel_rfl
  obtain ⟨i0, hi0, hz0, hzs, hzb⟩ := info_parts infoEn
  have hadd : ∀ (b o j : Nat), (⟨b, o, none⟩ : Addr).add j = ⟨b, o + j, none⟩ := fun b o j => by unfold Addr.add; split <;> simp_all
  have hcs : ∀ j v, xs[j]? = some v → w.cell? ⟨g, 0 + j, none⟩ = some v := fun j v hj => by
    have hlt : j < n * 3 := by rw [← hxl]; exact (List.getElem?_eq_some_iff.1 hj).1
    rw [← htk, List.getElem?_take, if_pos hlt] at hj
    simp only [World.cell?, hg, Nat.zero_add]
    simpa using hj
  have hold : (Builtin.firstCells i0.size i (.slice (some ⟨g, 0, none⟩) i c)).run Try.prog w.drew = .ok (xs.take (i * 3)).toArray w.drew := by
    rw [hzs]
    exact run_firstCells_some w.drew 3 i ⟨g, 0, none⟩ i c (xs.take (i * 3)) (by rw [List.length_take]; omega) (fun j v hj => by
      rw [hadd]
      rw [List.getElem?_take] at hj
      split at hj
      · exact hcs j v hj
      · cases hj)
  have hkk : (n : Int) + 1 - (i : Int) = ((n + 1 - i : Nat) : Int) := by omega
  have hik : i + (n + 1 - i) = n + 1 := by omega
  obtain ⟨Z, hZ⟩ : ∃ Z : Value, Z = .agg #[.int .i64 0, .string ⟨#[]⟩, .string ⟨#[]⟩] := ⟨_, rfl⟩
  have hZs : Z.cells.size = 3 := by rw [hZ]; rfl
  rw [← hZ] at hz0
  have hrz : ∀ ty, (Builtin.append_ #[22, 3] ty #[.slice (some ⟨g, 0, none⟩) i c, .int .i64 ((n : Int) + 1 - (i : Int))]).run Try.prog w =
      .ok (.slice (some ⟨w.heap.size, 0, none⟩) (n + 1) (grownCap w (n + 1) c 24)) (w.drew.alloc (.cells ((xs.take (i * 3)).toArray ++ Builtin.zeroCells Z.cells (n + 1 - i) ++ Builtin.zeroCells Z.cells (grownCap w (n + 1) c 24 - (n + 1))) 24)) := fun ty => by
    have h := Lib.run_append_grow_zeros w 22 3 ty 24 i0 _ .i64 .i64 Try.underlying22 Try.underlying3 hi0 hz0 (some ⟨g, 0, none⟩) i c (xs.take (i * 3)) hold (n + 1 - i) (by omega) (by omega) (by omega) (by omega) (by rw [hzb]; omega) (by rw [hzb, hik]; exact growslice_fits hroom hn)
    rw [hik] at h
    rw [hkk]
    exact h
  obtain ⟨G, hG⟩ : ∃ G, G = grownCap w (n + 1) c 24 := ⟨_, rfl⟩
  have hGn : n + 1 ≤ G := by rw [hG]; exact grownCap_ge w _ _ _
  have hGm : G ≤ maxLen := by rw [hG]; exact grownCap_le_maxLen w (n + 1) c _ (by unfold maxLen; omega)
  obtain ⟨R, hR⟩ : ∃ R : Array Value, R = (xs.take (i * 3)).toArray ++ Builtin.zeroCells Z.cells (n + 1 - i) ++ Builtin.zeroCells Z.cells (G - (n + 1)) := ⟨_, rfl⟩
  rw [← hG] at hrz
  rw [← hR] at hrz
  have hRs : R.size = G * 3 := by
    rw [hR, Array.size_append, Array.size_append, zeroCells_size, zeroCells_size, hZs]
    simp only [List.size_toArray, List.length_take]
    omega
  have hRt : R.toList.take (i * 3) = xs.take (i * 3) := by
    rw [hR]
    simp only [Array.toList_append, List.append_assoc]
    rw [List.take_append_of_le_length (by rw [List.length_take]; omega)]
    exact List.take_of_length_le (by rw [List.length_take]; omega)
  obtain ⟨R1, hR1⟩ : ∃ R1 : Array Value, R1 = (R.toList.take (i * 3) ++ vs ++ R.toList.drop (i * 3 + vs.length)).toArray := ⟨_, rfl⟩
  obtain ⟨R2, hR2⟩ : ∃ R2 : Array Value, R2 = (R1.toList.take ((i + 1) * 3) ++ xs.drop (i * 3) ++ R1.toList.drop ((i + 1) * 3 + (xs.drop (i * 3)).length)).toArray := ⟨_, rfl⟩
  have hdl : (xs.drop (i * 3)).length = (n - i) * 3 := by rw [List.length_drop]; omega
  have hl1 : R1.size = G * 3 := by
    rw [hR1]
    simp only [List.size_toArray, List.length_append, List.length_take, List.length_drop, Array.length_toList]
    omega
  have hrow : R2.toList.take ((n + 1) * 3) = xs.take (i * 3) ++ vs ++ xs.drop (i * 3) := by
    rw [hR2, hR1]
    exact grow_rowE hRt hxl hvl hi (by rw [Array.length_toList, hRs]; omega)
  have hl2 : R2.size = G * 3 := by
    rw [hR2]
    simp only [List.size_toArray, List.length_append, List.length_take, List.length_drop, Array.length_toList]
    omega
  have HC1 := Lib.hid (show ∀ (W : World), W.heap[w.heap.size]? = some (.cells R 24 (0, 0)) → W.heap[X]? = some (.cells vs.toArray 24 (0, 0)) → ∀ ty o1 d1 dc, o1 = i * 3 → Nat.min 1 d1 = 1 →
      (Builtin.copy_ #[22, 22] ty #[.slice (some ⟨w.heap.size, o1, none⟩) d1 dc, .slice (some ⟨X, 0, none⟩) 1 1]).run Try.prog W = .ok (goInt ((1 : Nat) : Int)) (W.setRow w.heap.size R1) from fun W hW hWX ty o1 d1 dc e1 hm => by
    subst e1
    rw [run_copyk W _ _ ty 24 3 w.heap.size (i * 3) d1 dc ⟨X, 0, none⟩ 1 1 1 R _ vs Try.underlying22 hif hW hm (by omega) (fun j v hj => by
      rw [hadd]
      simp only [World.cell?, hWX, Nat.zero_add]
      simpa using hj) (by rw [hvl, hRs]; omega) h1v, hR1])
  have HC2 := Lib.hid (show ∀ (W : World), W.heap[w.heap.size]? = some (.cells R1 24 (0, 0)) → W.heap[g]? = some (.cells cur 24 (0, 0)) → ∀ ty o1 o2 d1 s1 dc sc, o1 = (i + 1) * 3 → o2 = i * 3 → Nat.min s1 d1 = n - i →
      (Builtin.copy_ #[22, 22] ty #[.slice (some ⟨w.heap.size, o1, none⟩) d1 dc, .slice (some ⟨g, o2, none⟩) s1 sc]).run Try.prog W = .ok (goInt ((n - i : Nat) : Int)) (W.setRow w.heap.size R2) from fun W hW hWg ty o1 o2 d1 s1 dc sc e1 e2 hm => by
    subst e1 e2
    rw [run_copyk W _ _ ty 24 3 w.heap.size ((i + 1) * 3) d1 dc ⟨g, i * 3, none⟩ s1 sc (n - i) R1 _ (xs.drop (i * 3)) Try.underlying22 hif hW hm hdl (fun j v hj => by
      rw [hadd]
      rw [List.getElem?_drop] at hj
      have hlt : i * 3 + j < n * 3 := by rw [← hxl]; exact (List.getElem?_eq_some_iff.1 hj).1
      rw [← htk, List.getElem?_take, if_pos hlt] at hj
      simp only [World.cell?, hWg]
      simpa using hj) (by rw [hdl, hl1]; omega) (fun v hv => h1x v (List.mem_of_mem_drop hv)), hR2])
  have HZ := Lib.hid (show ∀ W : World, W.heap[w.heap.size]? = some (.cells R2 24 (0, 0)) → W.ownsRow B 24 3 (.slice (some ⟨w.heap.size, 0, none⟩) (n + 1) G) (n + 1) (xs.take (i * 3) ++ vs ++ xs.drop (i * 3)) from fun W hW =>
    ⟨by rw [List.length_append, List.length_append, List.length_take, List.length_drop]; omega, .inr ⟨w.heap.size, G, R2, rfl, hB, hW, hGn, hGm, hl2, hrow⟩⟩)
  have HRZ := Lib.hid hrz
  have HG := Lib.hid hg
  have HXH := Lib.hid hXh
  have hG63 : G ≤ 9223372036854775807 := by unfold maxLen at hGm; omega
  clear ho hX hXh hg hrow htk hsz hdl hif hadd h1v h1x hxl hvl hold hcs hkk hik hZ hZs hz0 hzs hzb hi0 hrz hG hR hRs hRt hR1 hR2 hl1 hl2 hGm
  have hz2 : ¬ ((i : Int) = (n : Int)) := by omega
  have hz3 : (c : Int) < (n : Int) + 1 := by omega
  have hw1 : IntKind.i64.wrap ((i : Int) + 1) = (i : Int) + 1 := by rw [IntKind.wrap_i64]; omega
  have hb1 : (0 : Int) ≤ (i : Int) + 1 := by omega
  have hin : i ≤ n := by omega
  have htn : ((i : Int) + 1).toNat = i + 1 := by omega
  have hb3 : (i : Int) ≤ (n : Int) := by omega
  have hGi : ¬ (G = i) := by omega
  have hGim : ¬ (G = i + 1) := by omega
  have hci : ¬ (c = i) := by omega
  go_enter Try.func10, Try.ntmps10
  go_wp2_with (at_builtin; refine Lib.wpList_append_run _ rfl _ _ _ _ rfl _ _ rfl rfl _ _ (HRZ.out _) ?_)
  have hA := HC1.out (w.alloc (.cells R 24)).drew (heap_alloc_new _ _) ((Array.getElem?_push_lt hXD).trans (Array.getElem?_eq_getElem hXD ▸ HXH.out)) 3 (i * 3) (n + 1 - i) (G - i) rfl (by simp only [Nat.min_def]; split <;> omega)
  rw [hA]
  go_upto_region 11 with fail
  refine anyT_start (S := fun _ => True) (t := 9) (by kernel_rfl) ?_
  refine takeS (i := 0) (v := ?_) rfl rfl (by kernel_rfl) (by kernel_rfl) (by kernel_rfl) (fun _ _ _ h => h) (by decide) (by kernel_rfl) ?_ trivial ?_
  rotate_left
  · intro w hSw; (try dsimp only at hSw); go_simp; (try with_reducible rfl)
  simp only [List.setIfInBounds_toArray, List.set_cons_zero, List.set_cons_succ]
  refine takeS (i := 1) (v := ?_) rfl rfl (by kernel_rfl) (by kernel_rfl) (by kernel_rfl) (fun _ _ _ h => h) (by decide) (by kernel_rfl) ?_ trivial ?_
  rotate_left
  · intro w hSw; (try dsimp only at hSw); go_simp; (try with_reducible rfl)
  simp only [List.setIfInBounds_toArray, List.set_cons_zero, List.set_cons_succ]
  refine takeS (i := 2) (v := ?_) rfl rfl (by kernel_rfl) (by kernel_rfl) (by kernel_rfl) (fun _ _ _ h => h) (by decide) (by kernel_rfl) ?_ trivial ?_
  rotate_left
  · intro w hSw; (try dsimp only at hSw); go_simp; (try with_reducible rfl)
  simp only [List.setIfInBounds_toArray, List.set_cons_zero, List.set_cons_succ]
  refine takeS (i := 3) (v := ?_) rfl rfl (by kernel_rfl) (by kernel_rfl) (by kernel_rfl) (fun _ _ _ h => h) (by decide) (by kernel_rfl) ?_ trivial ?_
  rotate_left
  · intro w hSw; (try dsimp only at hSw); go_simp; (try with_reducible rfl)
  simp only [List.setIfInBounds_toArray, List.set_cons_zero, List.set_cons_succ]
  refine takeS (i := 4) (v := ?_) rfl rfl (by kernel_rfl) (by kernel_rfl) (by kernel_rfl) (fun _ _ _ h => h) (by decide) (by kernel_rfl) ?_ trivial ?_
  rotate_left
  · intro w hSw; (try dsimp only at hSw); go_simp; (try with_reducible rfl)
  simp only [List.setIfInBounds_toArray, List.set_cons_zero, List.set_cons_succ]
  refine takeS (i := 5) (v := ?_) rfl rfl (by kernel_rfl) (by kernel_rfl) (by kernel_rfl) (fun _ _ _ h => h) (by decide) (by kernel_rfl) ?_ trivial ?_
  rotate_left
  · intro w hSw; (try dsimp only at hSw); go_simp; (try with_reducible rfl)
  simp only [List.setIfInBounds_toArray, List.set_cons_zero, List.set_cons_succ]
  refine takeS (i := 6) (v := ?_) rfl rfl (by kernel_rfl) (by kernel_rfl) (by kernel_rfl) (fun _ _ _ h => h) (by decide) (by kernel_rfl) ?_ trivial ?_
  rotate_left
  · intro w hSw; (try dsimp only at hSw); go_simp; (try with_reducible rfl)
  simp only [List.setIfInBounds_toArray, List.set_cons_zero, List.set_cons_succ]
  refine takeS (i := 7) (v := ?_) rfl rfl (by kernel_rfl) (by kernel_rfl) (by kernel_rfl) (fun _ _ _ h => h) (by decide) (by kernel_rfl) ?_ trivial ?_
  rotate_left
  · intro w hSw; (try dsimp only at hSw); go_simp; (try with_reducible rfl)
  simp only [List.setIfInBounds_toArray, List.set_cons_zero, List.set_cons_succ]
  refine oneT (i := 8) rfl (by kernel_rfl) (fun K hK => ?_)
  go_simp
  rw [HC2.out ((w.alloc (.cells R 24)).drew.setRow w.heap.size R1).drew (setRow_heap _ _ R _ _ _ (heap_alloc_new _ _)) ((setRow_other _ _ g _ (Nat.ne_of_lt hgD)).trans ((Array.getElem?_push_lt hgD).trans (Array.getElem?_eq_getElem hgD ▸ HG.out))) _ _ _ _ _ _ _ rfl rfl (by simp only [Nat.min_def]; split <;> omega)]
  go_simp
  refine hK.out _ _ (fun _ => trivial) ?_
  refine doneT (by kernel_rfl) ?_ _
  clear hK
  go_wp2_with fail
  go_ret
  exact ⟨_, rfl, HZ.out _ (setRow_heap _ _ R1 _ _ _ (setRow_heap _ _ R _ _ _ (heap_alloc_new _ _))), setRow_below (setRow_below ((Below.refl B w).alloc hB _).drew hB).drew hB⟩
theorem insert_anyE (B g c n i X : Nat) (xs vs : List Value) (w : World) (ho : w.ownsRow B 24 3 (.slice (some ⟨g, 0, none⟩) n c) n xs) (hX : Has w X vs.toArray 24) (hvl : vs.length = 3) (hgX : g ≠ X) (h1v : ∀ u ∈ vs, u.oneCell' = true) (h1x : ∀ u ∈ xs, u.oneCell' = true)
    (hi : i ≤ n) (hn0 : 0 < n) (hB : B ≤ w.heap.size) (hn : (n + 1) * 40 ≤ 140737488355328) :
    Calls Try.prog 10 #[.slice (some ⟨g, 0, none⟩) n c, .int .i64 i, .slice (some ⟨X, 0, none⟩) 1 1] w (InsPostE B w n i xs vs) := by
  by_cases he : i = n
  · subst he
    refine insert_endE B g c i X xs vs w ho hvl (fun j u hj => ?_) h1v hn0 hn hB
    have ea : (⟨X, 0, none⟩ : Addr).add j = ⟨X, j, none⟩ := by unfold Addr.add; split <;> simp_all
    rw [ea]
    exact (hX.cell j).trans (by simpa using hj)
  · by_cases hroom : n + 1 ≤ c
    · exact insert_shiftE B g c n i X xs vs w ho hX hvl hgX h1v h1x (by omega) hroom
    · exact insert_growE B g c n i X xs vs w ho hX hvl h1v h1x (by omega) (by omega) hB hn
end Go.Proofs.Ytfjcbclakgidkaa
