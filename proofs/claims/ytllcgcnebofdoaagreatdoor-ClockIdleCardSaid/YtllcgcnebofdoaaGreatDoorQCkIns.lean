/- The walks of slices.Clone and slices.Insert at points. -/
import Derived.Test.YtllcgcnebofdoaaGreatDoorQCkClk
import Derived.Test.YtllcgcnebofdoaaGreatDoorQBin
import Derived.Shelf.Spec.SlicesInsertGrow
import Derived.Laws.CopyRow
import Derived.Test.YtllcgcnebofdoaaGreatDoorQOrd
namespace Go.Proofs.YtllcgcnebofdoaaGreatDoor
open Go.RowKit

/-- copy between rows of elements of several cells -/
theorem run_copyk {P : Program} (w : World) (dT sT ty elem : TypeId) (size g o dLen dCap : Nat) (a : Addr) (sLen sCap n : Nat) (cur : Array Value) (t : TypeId) (cs : List Value)
    (hu : P.underlying dT = some (.slice elem)) (hs : (P.info? elem).map (·.size) = some size)
    (hg : w.heap[g]? = some (.cells cur t (0, 0))) (hm : Nat.min sLen dLen = n) (hn : cs.length = n * size)
    (hsrc : ∀ j v, cs[j]? = some v → w.cell? (a.add j) = some v) (hfit : o + cs.length ≤ cur.size) (h1 : ∀ v ∈ cs, v.oneCell' = true) :
    (Builtin.copy_ #[dT, sT] ty #[.slice (some ⟨g, o, none⟩) dLen dCap, .slice (some a) sLen sCap]).run P w =
      .ok (goInt n) (w.setRow g (cur.toList.take o ++ cs ++ cur.toList.drop (o + cs.length)).toArray) := by
  have hl := run_loadCells_list (P := P) w a cs hsrc
  have hst := run_storeCells_at P g o t cs 0 cur w hg (by simpa using hfit) h1
  cases hq : P.info? elem with
  | none => simp [hq] at hs
  | some i =>
    have hi : i.size = size := by simpa [hq] using hs
    simp [Builtin.copy_, run_underlying hu, Builtin.lenOf, Builtin.firstCells, sizeOf, typeInfo, hq, hi, hm, ← hn, hl, hst]
theorem infoPnt : (Tryz.prog.info? 43).map (fun i => (i.zero, i.size, i.bytes)) = some (some (.agg #[.int .i64 0, .int .i64 0, .int .i64 0, .int .i64 0, .int .i64 0, .slice none 0 0]), 6, 64) := by kernel_rfl
/-- a point with the value that its slice has -/
abbrev Pv := PntD × Value
def encPt (x : Pv) : List Value := [.int .i64 x.1.at', .int .i64 x.1.kind, .int .i64 x.1.who, .int .i64 x.1.status, .int .i64 x.1.prio, x.2]
theorem encPt_len (L : List Pv) : (L.flatMap encPt).length = L.length * 6 := by
  induction L with
  | nil => rfl
  | cons x r ih => rw [List.flatMap_cons, List.length_append, ih, List.length_cons]; simp [encPt]; omega
theorem encPt_take (L : List Pv) (i : Nat) (hi : i ≤ L.length) : (L.flatMap encPt).take (i * 6) = (L.take i).flatMap encPt := by
  have e : L.flatMap encPt = (L.take i).flatMap encPt ++ (L.drop i).flatMap encPt := by rw [← List.flatMap_append, List.take_append_drop]
  have hl : ((L.take i).flatMap encPt).length = i * 6 := by rw [encPt_len, List.length_take, Nat.min_eq_left hi]
  rw [e, ← hl, List.take_left]
theorem encPt_drop (L : List Pv) (i : Nat) (hi : i ≤ L.length) : (L.flatMap encPt).drop (i * 6) = (L.drop i).flatMap encPt := by
  have e : L.flatMap encPt = (L.take i).flatMap encPt ++ (L.drop i).flatMap encPt := by rw [← List.flatMap_append, List.take_append_drop]
  have hl : ((L.take i).flatMap encPt).length = i * 6 := by rw [encPt_len, List.length_take, Nat.min_eq_left hi]
  rw [e, ← hl, List.drop_left]
def ValsOk (w : World) (L : List Pv) : Prop := ∀ e ∈ L, Vals w e.2 e.1.vals
theorem encPt_one {w : World} {L : List Pv} (h : ValsOk w L) : ∀ u ∈ L.flatMap encPt, u.oneCell' = true := by
  intro u hu
  obtain ⟨x, hx, hq⟩ := List.mem_flatMap.1 hu
  obtain ⟨a, c, e⟩ := SliceAt.len (h x hx)
  simp only [encPt, List.mem_cons, List.not_mem_nil, or_false] at hq
  rcases hq with rfl | rfl | rfl | rfl | rfl | rfl
  · rfl
  · rfl
  · rfl
  · rfl
  · rfl
  · rw [e]; rfl
/-- points in memory, with the values of their slices -/
theorem pnts_vals {w : World} {b off : Nat} {l : List PntD} (hel : ∀ i (hi : i < l.length), ∃ vv, (w.cell? ⟨b, off + i * 6, none⟩ = some (.int .i64 l[i].at') ∧ w.cell? ⟨b, off + i * 6 + 1, none⟩ = some (.int .i64 l[i].kind) ∧ w.cell? ⟨b, off + i * 6 + 2, none⟩ = some (.int .i64 l[i].who) ∧
      w.cell? ⟨b, off + i * 6 + 3, none⟩ = some (.int .i64 l[i].status) ∧ w.cell? ⟨b, off + i * 6 + 4, none⟩ = some (.int .i64 l[i].prio) ∧ w.cell? ⟨b, off + i * 6 + 5, none⟩ = some vv) ∧ Vals w vv l[i].vals) :
    ∃ L : List Pv, L.map (·.1) = l ∧ ValsOk w L ∧ ∀ j u, (L.flatMap encPt)[j]? = some u → w.cell? ((⟨b, off, none⟩ : Addr).add j) = some u := by
  have H : ∀ n, n ≤ l.length → ∃ L : List Pv, L.map (·.1) = l.take n ∧ ValsOk w L ∧ ∀ i (hi : i < L.length) k u, k < 6 → (encPt L[i])[k]? = some u → w.cell? ⟨b, off + i * 6 + k, none⟩ = some u := by
    intro n
    induction n with
    | zero => exact fun _ => ⟨[], by simp, (by intro e he; cases he), fun i hi => absurd hi (by simp)⟩
    | succ n ih =>
      intro hn
      obtain ⟨L, h1, h2, h3⟩ := ih (by omega)
      obtain ⟨vv, ⟨e0, e1, e2, e3, e4, e5⟩, hv⟩ := hel n (by omega)
      have hLl : L.length = n := by
        have := congrArg List.length h1
        simpa [Nat.min_eq_left (show n ≤ l.length by omega)] using this
      refine ⟨L ++ [(l[n], vv)], ?_, ?_, ?_⟩
      · rw [List.map_append, h1, List.take_succ_eq_append_getElem (by omega)]; rfl
      · intro e he
        rcases List.mem_append.1 he with q | q
        · exact h2 e q
        · rw [List.mem_singleton.1 q]; exact hv
      · intro i hi k u hk hu
        by_cases g : i < L.length
        · rw [List.getElem_append_left g] at hu
          exact h3 i g k u hk hu
        · have hi' : i = n := by rw [List.length_append] at hi; simp at hi; omega
          subst hi'
          rw [List.getElem_append_right (by omega)] at hu
          simp only [hLl, Nat.sub_self, List.getElem_cons_zero] at hu
          have hk' : k = 0 ∨ k = 1 ∨ k = 2 ∨ k = 3 ∨ k = 4 ∨ k = 5 := by omega
          rcases hk' with rfl | rfl | rfl | rfl | rfl | rfl
          · cases hu; exact e0
          · cases hu; exact e1
          · cases hu; exact e2
          · cases hu; exact e3
          · cases hu; exact e4
          · cases hu; exact e5
  obtain ⟨L, h1, h2, h3⟩ := H l.length (Nat.le_refl _)
  rw [List.take_length] at h1
  refine ⟨L, h1, h2, fun j u hj => ?_⟩
  have hlt : j < L.length * 6 := by rw [← encPt_len]; exact (List.getElem?_eq_some_iff.1 hj).1
  have hi : j / 6 < L.length := by omega
  have e := flatMap_at encPt 6 L (fun _ _ => rfl) (j / 6) (j % 6) hi (Nat.mod_lt _ (by decide))
  rw [Nat.div_add_mod'] at e
  rw [e] at hj
  have ea : (⟨b, off, none⟩ : Addr).add j = ⟨b, off + j, none⟩ := by unfold Addr.add; split <;> simp_all
  rw [ea, show off + j = off + j / 6 * 6 + j % 6 by omega]
  exact h3 (j / 6) hi (j % 6) u (Nat.mod_lt _ (by decide)) hj
theorem ValsOk.below {w w' : World} {L : List Pv} (h : ValsOk w L) (hb : Below w.heap.size w w') : ValsOk w' L := fun e he => (h e he).below hb
theorem pnts_of {w : World} {B : Nat} {v : Value} {L : List Pv} (ho : w.ownsRow B 43 6 v L.length (L.flatMap encPt)) (h : ValsOk w L) : Pnts w v (L.map (·.1)) :=
  SliceAt.mapped (fun x : Pv => x.1) (slice_of_owns encPt ho (fun _ _ => rfl) (fun x hx => ⟨x.2, rfl, h x hx⟩))

set_option maxRecDepth 100000 in
theorem clonePt_any (b off c : Nat) (L : List Pv) (w : World) (hn : ∀ j u, (L.flatMap encPt)[j]? = some u → w.cell? ((⟨b, off, none⟩ : Addr).add j) = some u) (hb : b < w.heap.size) (hv : ValsOk w L) (hl : L.length * 64 ≤ 140737488355328) :
    Calls Tryz.prog 12 #[.slice (some ⟨b, off, none⟩) L.length c] w fun e w' => (∃ v', e = .returned v' ∧ w'.ownsRow w.heap.size 43 6 v' L.length (L.flatMap encPt)) ∧ Below w.heap.size w w' := by
  have q22 : ∀ (w : World) (a : Option Addr) (n c n' c' : Nat), (binOp .eql 26 (.slice a n c) (.slice none n' c')).run Tryz.prog w = .ok (.bool a.isNone) w := fun w a n c n' c' => Lib.run_eql_slice_nil w _ _ a n c n' c' Tryz.underlying26
  have hown := World.ownsRow_lit (base := w.heap.size) (e := 43) (size := 6) w #[] 0 (Nat.le_refl _) (by unfold maxLen; omega) rfl
  have hb3 := (Below.refl w.heap.size w).alloc (Nat.le_refl _) (.cells #[] 43)
  have HN := Lib.hid (show ∀ j u, (L.flatMap encPt)[j]? = some u → (w.alloc (.cells #[] 43)).cell? ((⟨b, off, none⟩ : Addr).add j) = some u from fun j u hj => by
    have ea : (⟨b, off, none⟩ : Addr).add j = ⟨b, off + j, none⟩ := by unfold Addr.add; split <;> simp_all
    have h1 := hn j u hj
    rw [ea] at h1 ⊢
    exact (below_cell hb3 hb).trans h1)
  have HO := Lib.hid hown
  have HB := Lib.hid hb3
  have H1 := Lib.hid (encPt_one hv)
  clear hown hb3 hn hv
  go_enter Tryz.func12, Tryz.ntmps12
  go_wp2_with (at_builtin; go_must (refine append_all rfl _ _ 26 rfl w.heap.size 43 (.agg #[.int .i64 0, .int .i64 0, .int .i64 0, .int .i64 0, .int .i64 0, .slice none 0 0]) 6 64 Tryz.underlying26 infoPnt rfl (by decide) w (w.alloc (.cells #[] 43)) (.slice (some ⟨w.heap.size, 0, none⟩) 0 0) 0 [] rfl HO.out ⟨b, off, none⟩ L.length c (L.flatMap encPt) rfl (encPt_len L) HN.out H1.out (by omega) (by omega) HB.out.size HB.out ?_); intro v' w6 ho hb6)
  go_ret
  refine ⟨⟨_, rfl, ?_⟩, hb6⟩
  simpa using ho

def InsPost (B : Nat) (w : World) (n i : Nat) (xs vs : List Value) (e : Ending) (w' : World) : Prop :=
  ∃ v', e = .returned v' ∧ w'.ownsRow B 43 6 v' (n + 1) (xs.take (i * 6) ++ vs ++ xs.drop (i * 6)) ∧ Below B w w'
set_option maxRecDepth 100000 in
set_option maxHeartbeats 4000000 in
/-- at the end: an append -/
theorem insert_end (B g c n X : Nat) (xs vs : List Value) (w : World) (ho : w.ownsRow B 43 6 (.slice (some ⟨g, 0, none⟩) n c) n xs) (hvl : vs.length = 6) (hvs : ∀ j u, vs[j]? = some u → w.cell? ((⟨X, 0, none⟩ : Addr).add j) = some u) (h1v : ∀ u ∈ vs, u.oneCell' = true)
    (hn0 : 0 < n) (hn : (n + 1) * 64 ≤ 140737488355328) (hB : B ≤ w.heap.size) :
    Calls Tryz.prog 11 #[.slice (some ⟨g, 0, none⟩) n c, .int .i64 n, .slice (some ⟨X, 0, none⟩) 1 1] w (InsPost B w n n xs vs) := by
  have hxl : xs.length = n * 6 := ho.1
  have HO := Lib.hid ho
  have HV := Lib.hid hvs
  have H1 := Lib.hid h1v
  have HL := Lib.hid hvl
  have e1 : xs.take (n * 6) = xs := List.take_of_length_le (by omega)
  have e2 : xs.drop (n * 6) = [] := List.drop_eq_nil_of_le (by omega)
  have HP := Lib.hid (show InsPost B w n n xs vs = fun e w' => ∃ v', e = .returned v' ∧ w'.ownsRow B 43 6 v' (n + 1) (xs ++ vs) ∧ Below B w w' by unfold InsPost; rw [e1, e2]; simp)
  clear ho hvs h1v hvl e1 e2 hxl
  rw [HP.out]
  clear HP
  go_enter Tryz.func11, Tryz.ntmps11
  go_wp2_with (at_builtin; go_must (refine append_all rfl _ _ 26 rfl B 43 (.agg #[.int .i64 0, .int .i64 0, .int .i64 0, .int .i64 0, .int .i64 0, .slice none 0 0]) 6 64 Tryz.underlying26 infoPnt rfl (by decide) w w (.slice (some ⟨g, 0, none⟩) n c) n xs rfl HO.out ⟨X, 0, none⟩ 1 1 vs rfl HL.out HV.out H1.out hn (by omega) hB (Below.refl _ _) ?_); intro v' w6 ho hb6)
  all_goals (go_ret; exact ⟨_, rfl, ho, hb6⟩)

/-- the row behind the two copies -/
theorem shift_row {cur xs vs : List Value} {n i : Nat} (hx : cur.take (n * 6) = xs) (hxl : xs.length = n * 6) (hv : vs.length = 6) (hi : i < n) (hc : (n + 1) * 6 ≤ cur.length) :
    ((((cur.take ((i + 1) * 6) ++ xs.drop (i * 6) ++ cur.drop ((i + 1) * 6 + (xs.drop (i * 6)).length)).take (i * 6) ++ vs ++ (cur.take ((i + 1) * 6) ++ xs.drop (i * 6) ++ cur.drop ((i + 1) * 6 + (xs.drop (i * 6)).length)).drop (i * 6 + vs.length)).take ((n + 1) * 6))) = xs.take (i * 6) ++ vs ++ xs.drop (i * 6) := by
  have e1 : (cur.take ((i + 1) * 6) ++ xs.drop (i * 6) ++ cur.drop ((i + 1) * 6 + (xs.drop (i * 6)).length)).take (i * 6) = xs.take (i * 6) := by
    rw [List.append_assoc, List.take_append_of_le_length (by rw [List.length_take]; omega), List.take_take, ← hx, List.take_take, Nat.min_eq_left (by omega), Nat.min_eq_left (by omega)]
  have e2 : (cur.take ((i + 1) * 6) ++ xs.drop (i * 6) ++ cur.drop ((i + 1) * 6 + (xs.drop (i * 6)).length)).drop (i * 6 + vs.length) = xs.drop (i * 6) ++ cur.drop ((i + 1) * 6 + (xs.drop (i * 6)).length) := by
    rw [List.append_assoc, List.drop_append_of_le_length (by rw [List.length_take]; omega), List.drop_eq_nil_of_le (by rw [List.length_take]; omega), List.nil_append]
  rw [e1, e2, ← List.append_assoc, List.take_append_of_le_length (by rw [List.length_append, List.length_append, List.length_take, List.length_drop]; omega)]
  refine List.take_of_length_le ?_
  rw [List.length_append, List.length_append, List.length_take, List.length_drop]
  omega
theorem setRow_below {w0 w : World} {B g : Nat} {cs : Array Value} (h : Below B w0 w) (hg : B ≤ g) : Below B w0 (w.setRow g cs) :=
  ⟨h.os, h.tape, h.output, by rw [size_setRow]; exact h.size, fun k hk => (setRow_other w g k cs (by omega)).trans (h.block k hk)⟩

set_option maxRecDepth 100000 in
set_option maxHeartbeats 4000000 in
/-- there is room: in place -/
theorem insert_shift (B g c n i X : Nat) (xs vs : List Value) (w : World) (ho : w.ownsRow B 43 6 (.slice (some ⟨g, 0, none⟩) n c) n xs) (hX : Has w X vs.toArray 43) (hvl : vs.length = 6) (hgX : g ≠ X) (h1v : ∀ u ∈ vs, u.oneCell' = true) (h1x : ∀ u ∈ xs, u.oneCell' = true)
    (hi : i < n) (hroom : n + 1 ≤ c) :
    Calls Tryz.prog 11 #[.slice (some ⟨g, 0, none⟩) n c, .int .i64 i, .slice (some ⟨X, 0, none⟩) 1 1] w (InsPost B w n i xs vs) := by
  have hxl : xs.length = n * 6 := ho.1
  obtain ⟨cur, hBg, hg, hmax, hsz, htk⟩ : ∃ cur : Array Value, B ≤ g ∧ w.heap[g]? = some (.cells cur 43 (0, 0)) ∧ c ≤ maxLen ∧ cur.size = c * 6 ∧ cur.toList.take (n * 6) = xs := by
    rcases ho.2 with ⟨q, _⟩ | ⟨g', cap, cur, hv, h1, h2, h3, h4, h5, h6⟩
    · cases q
    · cases hv
      exact ⟨cur, h1, h2, h4, h5, h6⟩
  have hc63 : c ≤ 9223372036854775807 := by unfold maxLen at hmax; omega
  have hXh : w.heap[X]? = some (.cells vs.toArray 43 (0, 0)) := hX
  have hif : (Tryz.prog.info? 43).map (·.size) = some 6 := by kernel_rfl
  obtain ⟨cur1, hc1⟩ : ∃ cur1 : Array Value, cur1 = (cur.toList.take ((i + 1) * 6) ++ xs.drop (i * 6) ++ cur.toList.drop ((i + 1) * 6 + (xs.drop (i * 6)).length)).toArray := ⟨_, rfl⟩
  obtain ⟨cur2, hc2⟩ : ∃ cur2 : Array Value, cur2 = (cur1.toList.take (i * 6) ++ vs ++ cur1.toList.drop (i * 6 + vs.length)).toArray := ⟨_, rfl⟩
  have hdl : (xs.drop (i * 6)).length = (n - i) * 6 := by rw [List.length_drop]; omega
  have hl1 : cur1.size = cur.size := by
    rw [hc1]
    simp only [List.size_toArray, List.length_append, List.length_take, List.length_drop, Array.length_toList]
    omega
  have hrow : cur2.toList.take ((n + 1) * 6) = xs.take (i * 6) ++ vs ++ xs.drop (i * 6) := by
    rw [hc2, hc1]
    exact shift_row htk hxl hvl hi (by rw [Array.length_toList, hsz]; omega)
  have hl2 : cur2.size = cur.size := by
    rw [hc2]
    simp only [List.size_toArray, List.length_append, List.length_take, List.length_drop, Array.length_toList]
    omega
  have hadd : ∀ (o j : Nat), (⟨g, o, none⟩ : Addr).add j = ⟨g, o + j, none⟩ := fun o j => by unfold Addr.add; split <;> simp_all
  have haddX : ∀ (j : Nat), (⟨X, 0, none⟩ : Addr).add j = ⟨X, 0 + j, none⟩ := fun j => by unfold Addr.add; split <;> simp_all
  have HC1 := Lib.hid (show ∀ (W : World), W.heap[g]? = some (.cells cur 43 (0, 0)) → ∀ ty o1 o2 d1 s1 dc sc, o1 = (i + 1) * 6 → o2 = i * 6 → Nat.min s1 d1 = n - i →
      (Builtin.copy_ #[26, 26] ty #[.slice (some ⟨g, o1, none⟩) d1 dc, .slice (some ⟨g, o2, none⟩) s1 sc]).run Tryz.prog W = .ok (goInt ((n - i : Nat) : Int)) (W.setRow g cur1) from fun W hW ty o1 o2 d1 s1 dc sc e1 e2 hm => by
    subst e1 e2
    rw [run_copyk W _ _ ty 43 6 g ((i + 1) * 6) d1 dc ⟨g, i * 6, none⟩ s1 sc (n - i) cur _ (xs.drop (i * 6)) Tryz.underlying26 hif hW hm hdl (fun j v hj => by
      rw [hadd]
      rw [List.getElem?_drop] at hj
      have hlt : i * 6 + j < n * 6 := by rw [← hxl]; exact (List.getElem?_eq_some_iff.1 hj).1
      rw [← htk, List.getElem?_take, if_pos hlt] at hj
      simp only [World.cell?, hW]
      simpa using hj) (by rw [hdl, hsz]; omega) (fun v hv => h1x v (List.mem_of_mem_drop hv)), hc1])
  have HC2 := Lib.hid (show ∀ (W : World), W.heap[g]? = some (.cells cur1 43 (0, 0)) → W.heap[X]? = some (.cells vs.toArray 43 (0, 0)) → ∀ ty o1 d1 dc, o1 = i * 6 → Nat.min 1 d1 = 1 →
      (Builtin.copy_ #[26, 26] ty #[.slice (some ⟨g, o1, none⟩) d1 dc, .slice (some ⟨X, 0, none⟩) 1 1]).run Tryz.prog W = .ok (goInt ((1 : Nat) : Int)) (W.setRow g cur2) from fun W hW hWX ty o1 d1 dc e1 hm => by
    subst e1
    rw [run_copyk W _ _ ty 43 6 g (i * 6) d1 dc ⟨X, 0, none⟩ 1 1 1 cur1 _ vs Tryz.underlying26 hif hW hm (by omega) (fun j v hj => by
      rw [haddX]
      simp only [World.cell?, hWX, Nat.zero_add]
      simpa using hj) (by rw [hvl, hl1, hsz]; omega) h1v, hc2])
  have hov : ∀ o lb cb, (callFunc 28 #[.slice (some ⟨X, 0, none⟩) 1 1, .slice (some ⟨g, o, none⟩) lb cb]).run Tryz.prog w = .ok (.value (.bool false)) w := fun o lb cb => by
    rw [run_callFunc_extern Tryz.func28 (by kernel_rfl) (by kernel_rfl) (by kernel_rfl) (e := Extern.SlicesOverlaps.overlaps #[26, 26] #[4]) (by kernel_rfl),
      Lib.run_overlaps_apart w 26 4 43 Tryz.underlying26 6 (fun w => by kernel_rfl) ⟨X, 0, none⟩ ⟨g, o, none⟩ 1 1 lb cb (Ne.symm hgX) 43 43 6 (c * 6) (by simp [World.shape?, hXh, hvl]) (by simp [World.shape?, hg, hsz]) (by omega) (by simp [World.frozen?, hXh]) (by simp [World.frozen?, hXh])]
    rfl
  have HG := Lib.hid hg
  have HXH := Lib.hid hXh
  have HZ := Lib.hid (show ∀ W : World, Below B w W → W.heap[g]? = some (.cells cur2 43 (0, 0)) → W.ownsRow B 43 6 (.slice (some ⟨g, 0, none⟩) (n + 1) c) (n + 1) (xs.take (i * 6) ++ vs ++ xs.drop (i * 6)) from fun W _ hW =>
    ⟨by rw [List.length_append, List.length_append, List.length_take, List.length_drop]; omega, .inr ⟨g, c, cur2, rfl, hBg, hW, hroom, hmax, by rw [hl2, hsz], hrow⟩⟩)
  have HBG := Lib.hid hBg
  have HNE := Lib.hid hgX
  clear ho hX hXh hg hc1 hc2 hl1 hl2 hrow htk hsz hdl hif hadd haddX hBg hgX h1v h1x hxl hvl hmax
  have hz2 : ¬ ((i : Int) = (n : Int)) := by omega
  have hw1 : IntKind.i64.wrap ((i : Int) + 1) = (i : Int) + 1 := by rw [IntKind.wrap_i64]; omega
  have hb1 : (0 : Int) ≤ (i : Int) + 1 := by omega
  have hin : i ≤ n := by omega
  have htn : ((i : Int) + 1).toNat = i + 1 := by omega
  have hb2 : ¬ (c = i + 1) := by omega
  have hb3 : (i : Int) ≤ (n : Int) + 1 := by omega
  have hb4 : ¬ (c = i) := by omega
  go_enter Tryz.func11, Tryz.ntmps11
  go_wp2_with (simp only [hov])
  have hb5 : n + 1 - (i + 1) = n - i := by omega
  refine anyT_start (S := fun _ => True) (t := 9) (by kernel_rfl) ?_
  refine takeS (i := 0) (v := ?_) rfl rfl (by kernel_rfl) (by kernel_rfl) (by kernel_rfl) (fun _ _ _ h => h) (by decide) (by kernel_rfl) ?_ trivial ?_
  rotate_left
  · intro w hSw; (try dsimp only at hSw); go_simp; (try with_reducible rfl)
  simp only [List.setIfInBounds_toArray, List.set_cons_zero, List.set_cons_succ]
  refine takeS (i := 1) (v := ?_) rfl rfl (by kernel_rfl) (by kernel_rfl) (by kernel_rfl) (fun _ _ _ h => h) (by decide) (by kernel_rfl) ?_ trivial ?_
  rotate_left
  · intro w hSw; (try dsimp only at hSw); go_simp; (try with_reducible rfl)
  simp only [List.setIfInBounds_toArray, List.set_cons_zero, List.set_cons_succ]
  refine takeS (i := 2) (v := ?_) rfl rfl (by kernel_rfl) (by kernel_rfl) (by kernel_rfl) (fun _ _ _ h => h) (by decide) (by kernel_rfl) ?_ trivial ?_
  rotate_left
  · intro w hSw; (try dsimp only at hSw); go_simp; (try with_reducible rfl)
  simp only [List.setIfInBounds_toArray, List.set_cons_zero, List.set_cons_succ]
  refine takeS (i := 3) (v := ?_) rfl rfl (by kernel_rfl) (by kernel_rfl) (by kernel_rfl) (fun _ _ _ h => h) (by decide) (by kernel_rfl) ?_ trivial ?_
  rotate_left
  · intro w hSw; (try dsimp only at hSw); go_simp; (try with_reducible rfl)
  simp only [List.setIfInBounds_toArray, List.set_cons_zero, List.set_cons_succ]
  refine takeS (i := 4) (v := ?_) rfl rfl (by kernel_rfl) (by kernel_rfl) (by kernel_rfl) (fun _ _ _ h => h) (by decide) (by kernel_rfl) ?_ trivial ?_
  rotate_left
  · intro w hSw; (try dsimp only at hSw); go_simp; (try with_reducible rfl)
  simp only [List.setIfInBounds_toArray, List.set_cons_zero, List.set_cons_succ]
  refine takeS (i := 5) (v := ?_) rfl rfl (by kernel_rfl) (by kernel_rfl) (by kernel_rfl) (fun _ _ _ h => h) (by decide) (by kernel_rfl) ?_ trivial ?_
  rotate_left
  · intro w hSw; (try dsimp only at hSw); go_simp; (try with_reducible rfl)
  simp only [List.setIfInBounds_toArray, List.set_cons_zero, List.set_cons_succ]
  refine takeS (i := 6) (v := ?_) rfl rfl (by kernel_rfl) (by kernel_rfl) (by kernel_rfl) (fun _ _ _ h => h) (by decide) (by kernel_rfl) ?_ trivial ?_
  rotate_left
  · intro w hSw; (try dsimp only at hSw); go_simp; (try with_reducible rfl)
  simp only [List.setIfInBounds_toArray, List.set_cons_zero, List.set_cons_succ]
  refine takeS (i := 7) (v := ?_) rfl rfl (by kernel_rfl) (by kernel_rfl) (by kernel_rfl) (fun _ _ _ h => h) (by decide) (by kernel_rfl) ?_ trivial ?_
  rotate_left
  · intro w hSw; (try dsimp only at hSw); go_simp; (try with_reducible rfl)
  simp only [List.setIfInBounds_toArray, List.set_cons_zero, List.set_cons_succ]
  refine oneT (i := 8) rfl (by kernel_rfl) (fun K hK => ?_)
  go_simp
  rw [HC1.out w.drew HG.out _ _ _ _ _ _ _ rfl rfl (by simp only [Nat.min_def]; split <;> omega)]
  go_simp
  refine hK.out _ _ (fun _ => trivial) ?_
  refine doneT (by kernel_rfl) ?_ _
  clear hK
  have hA2 := HC2.out (w.drew.setRow g cur1) (setRow_heap _ _ cur _ _ _ HG.out) ((setRow_other _ g X _ (Ne.symm HNE.out)).trans HXH.out) 3 (i * 6) (n + 1 - i) (c - i) rfl (by simp only [Nat.min_def]; split <;> omega)
  go_wp2_with (simp only [hA2])
  go_ret
  refine ⟨_, rfl, HZ.out _ (setRow_below (setRow_below (Below.refl _ _).drew HBG.out) HBG.out) (setRow_heap _ _ cur1 _ _ _ (setRow_heap _ _ cur _ _ _ HG.out)), setRow_below (setRow_below (Below.refl _ _).drew HBG.out) HBG.out⟩


theorem zeroCells_size (z : Array Value) (n : Nat) : (Builtin.zeroCells z n).size = n * z.size := by simp [Builtin.zeroCells]
/-- the new row behind the two copies -/
theorem grow_row {R xs vs : List Value} {n i : Nat} (hx : R.take (i * 6) = xs.take (i * 6)) (hxl : xs.length = n * 6) (hv : vs.length = 6) (hi : i < n) (hc : (n + 1) * 6 ≤ R.length) :
    ((((R.take (i * 6) ++ vs ++ R.drop (i * 6 + vs.length)).take ((i + 1) * 6) ++ xs.drop (i * 6) ++ (R.take (i * 6) ++ vs ++ R.drop (i * 6 + vs.length)).drop ((i + 1) * 6 + (xs.drop (i * 6)).length))).take ((n + 1) * 6)) = xs.take (i * 6) ++ vs ++ xs.drop (i * 6) := by
  have e1 : (R.take (i * 6) ++ vs ++ R.drop (i * 6 + vs.length)).take ((i + 1) * 6) = xs.take (i * 6) ++ vs := by
    rw [hx, List.take_append_of_le_length (by rw [List.length_append, List.length_take]; omega)]
    refine List.take_of_length_le ?_
    rw [List.length_append, List.length_take]
    omega
  rw [e1, List.take_append_of_le_length (by rw [List.length_append, List.length_append, List.length_take, List.length_drop]; omega)]
  refine List.take_of_length_le ?_
  rw [List.length_append, List.length_append, List.length_take, List.length_drop]
  omega
set_option maxRecDepth 100000 in
set_option maxHeartbeats 4000000 in
/-- there is no room: a new row -/
theorem insert_grow (B g c n i X : Nat) (xs vs : List Value) (w : World) (ho : w.ownsRow B 43 6 (.slice (some ⟨g, 0, none⟩) n c) n xs) (hX : Has w X vs.toArray 43) (hvl : vs.length = 6) (h1v : ∀ u ∈ vs, u.oneCell' = true) (h1x : ∀ u ∈ xs, u.oneCell' = true)
    (hi : i < n) (hroom : c < n + 1) (hB : B ≤ w.heap.size) (hn : (n + 1) * 64 ≤ 140737488355328) :
    Calls Tryz.prog 11 #[.slice (some ⟨g, 0, none⟩) n c, .int .i64 i, .slice (some ⟨X, 0, none⟩) 1 1] w (InsPost B w n i xs vs) := by
  have hxl : xs.length = n * 6 := ho.1
  obtain ⟨cur, hg, hnc, hsz, htk⟩ : ∃ cur : Array Value, w.heap[g]? = some (.cells cur 43 (0, 0)) ∧ n ≤ c ∧ cur.size = c * 6 ∧ cur.toList.take (n * 6) = xs := by
    rcases ho.2 with ⟨q, _⟩ | ⟨g', cap, cur, hv, h1, h2, h3, h4, h5, h6⟩
    · cases q
    · cases hv
      exact ⟨cur, h2, h3, h5, h6⟩
  have hXh : w.heap[X]? = some (.cells vs.toArray 43 (0, 0)) := hX
  have hgD : g < w.heap.size := (Array.getElem?_eq_some_iff.1 hg).1
  have hXD : X < w.heap.size := (Array.getElem?_eq_some_iff.1 hXh).1
  have hif : (Tryz.prog.info? 43).map (·.size) = some 6 := by kernel_rfl
  obtain ⟨i0, hi0, hz0, hzs, hzb⟩ := info_parts infoPnt
  have hadd : ∀ (b o j : Nat), (⟨b, o, none⟩ : Addr).add j = ⟨b, o + j, none⟩ := fun b o j => by unfold Addr.add; split <;> simp_all
  have hcs : ∀ j v, xs[j]? = some v → w.cell? ⟨g, 0 + j, none⟩ = some v := fun j v hj => by
    have hlt : j < n * 6 := by rw [← hxl]; exact (List.getElem?_eq_some_iff.1 hj).1
    rw [← htk, List.getElem?_take, if_pos hlt] at hj
    simp only [World.cell?, hg, Nat.zero_add]
    simpa using hj
  have hold : (Builtin.firstCells i0.size i (.slice (some ⟨g, 0, none⟩) i c)).run Tryz.prog w.drew = .ok (xs.take (i * 6)).toArray w.drew := by
    rw [hzs]
    exact run_firstCells_some w.drew 6 i ⟨g, 0, none⟩ i c (xs.take (i * 6)) (by rw [List.length_take]; omega) (fun j v hj => by
      rw [hadd]
      rw [List.getElem?_take] at hj
      split at hj
      · exact hcs j v hj
      · cases hj)
  have hkk : (n : Int) + 1 - (i : Int) = ((n + 1 - i : Nat) : Int) := by omega
  have hik : i + (n + 1 - i) = n + 1 := by omega
  obtain ⟨Z, hZ⟩ : ∃ Z : Value, Z = .agg #[.int .i64 0, .int .i64 0, .int .i64 0, .int .i64 0, .int .i64 0, .slice none 0 0] := ⟨_, rfl⟩
  have hZs : Z.cells.size = 6 := by rw [hZ]; rfl
  rw [← hZ] at hz0
  have hrz : ∀ ty, (Builtin.append_ #[26, 3] ty #[.slice (some ⟨g, 0, none⟩) i c, .int .i64 ((n : Int) + 1 - (i : Int))]).run Tryz.prog w =
      .ok (.slice (some ⟨w.heap.size, 0, none⟩) (n + 1) (grownCap w (n + 1) c 43)) (w.drew.alloc (.cells ((xs.take (i * 6)).toArray ++ Builtin.zeroCells Z.cells (n + 1 - i) ++ Builtin.zeroCells Z.cells (grownCap w (n + 1) c 43 - (n + 1))) 43)) := fun ty => by
    have h := Lib.run_append_grow_zeros w 26 3 ty 43 i0 _ .i64 .i64 Tryz.underlying26 Tryz.underlying3 hi0 hz0 (some ⟨g, 0, none⟩) i c (xs.take (i * 6)) hold (n + 1 - i) (by omega) (by omega) (by omega) (by omega) (by rw [hzb]; omega) (by rw [hzb, hik]; exact growslice_fits hroom hn)
    rw [hik] at h
    rw [hkk]
    exact h
  obtain ⟨G, hG⟩ : ∃ G, G = grownCap w (n + 1) c 43 := ⟨_, rfl⟩
  have hGn : n + 1 ≤ G := by rw [hG]; exact grownCap_ge w _ _ _
  have hGm : G ≤ maxLen := by rw [hG]; exact grownCap_le_maxLen w (n + 1) c _ (by unfold maxLen; omega)
  obtain ⟨R, hR⟩ : ∃ R : Array Value, R = (xs.take (i * 6)).toArray ++ Builtin.zeroCells Z.cells (n + 1 - i) ++ Builtin.zeroCells Z.cells (G - (n + 1)) := ⟨_, rfl⟩
  rw [← hG] at hrz
  rw [← hR] at hrz
  have hRs : R.size = G * 6 := by
    rw [hR, Array.size_append, Array.size_append, zeroCells_size, zeroCells_size, hZs]
    simp only [List.size_toArray, List.length_take]
    omega
  have hRt : R.toList.take (i * 6) = xs.take (i * 6) := by
    rw [hR]
    simp only [Array.toList_append, List.append_assoc]
    rw [List.take_append_of_le_length (by rw [List.length_take]; omega)]
    exact List.take_of_length_le (by rw [List.length_take]; omega)
  obtain ⟨R1, hR1⟩ : ∃ R1 : Array Value, R1 = (R.toList.take (i * 6) ++ vs ++ R.toList.drop (i * 6 + vs.length)).toArray := ⟨_, rfl⟩
  obtain ⟨R2, hR2⟩ : ∃ R2 : Array Value, R2 = (R1.toList.take ((i + 1) * 6) ++ xs.drop (i * 6) ++ R1.toList.drop ((i + 1) * 6 + (xs.drop (i * 6)).length)).toArray := ⟨_, rfl⟩
  have hdl : (xs.drop (i * 6)).length = (n - i) * 6 := by rw [List.length_drop]; omega
  have hl1 : R1.size = G * 6 := by
    rw [hR1]
    simp only [List.size_toArray, List.length_append, List.length_take, List.length_drop, Array.length_toList]
    omega
  have hrow : R2.toList.take ((n + 1) * 6) = xs.take (i * 6) ++ vs ++ xs.drop (i * 6) := by
    rw [hR2, hR1]
    exact grow_row hRt hxl hvl hi (by rw [Array.length_toList, hRs]; omega)
  have hl2 : R2.size = G * 6 := by
    rw [hR2]
    simp only [List.size_toArray, List.length_append, List.length_take, List.length_drop, Array.length_toList]
    omega
  have HC1 := Lib.hid (show ∀ (W : World), W.heap[w.heap.size]? = some (.cells R 43 (0, 0)) → W.heap[X]? = some (.cells vs.toArray 43 (0, 0)) → ∀ ty o1 d1 dc, o1 = i * 6 → Nat.min 1 d1 = 1 →
      (Builtin.copy_ #[26, 26] ty #[.slice (some ⟨w.heap.size, o1, none⟩) d1 dc, .slice (some ⟨X, 0, none⟩) 1 1]).run Tryz.prog W = .ok (goInt ((1 : Nat) : Int)) (W.setRow w.heap.size R1) from fun W hW hWX ty o1 d1 dc e1 hm => by
    subst e1
    rw [run_copyk W _ _ ty 43 6 w.heap.size (i * 6) d1 dc ⟨X, 0, none⟩ 1 1 1 R _ vs Tryz.underlying26 hif hW hm (by omega) (fun j v hj => by
      rw [hadd]
      simp only [World.cell?, hWX, Nat.zero_add]
      simpa using hj) (by rw [hvl, hRs]; omega) h1v, hR1])
  have HC2 := Lib.hid (show ∀ (W : World), W.heap[w.heap.size]? = some (.cells R1 43 (0, 0)) → W.heap[g]? = some (.cells cur 43 (0, 0)) → ∀ ty o1 o2 d1 s1 dc sc, o1 = (i + 1) * 6 → o2 = i * 6 → Nat.min s1 d1 = n - i →
      (Builtin.copy_ #[26, 26] ty #[.slice (some ⟨w.heap.size, o1, none⟩) d1 dc, .slice (some ⟨g, o2, none⟩) s1 sc]).run Tryz.prog W = .ok (goInt ((n - i : Nat) : Int)) (W.setRow w.heap.size R2) from fun W hW hWg ty o1 o2 d1 s1 dc sc e1 e2 hm => by
    subst e1 e2
    rw [run_copyk W _ _ ty 43 6 w.heap.size ((i + 1) * 6) d1 dc ⟨g, i * 6, none⟩ s1 sc (n - i) R1 _ (xs.drop (i * 6)) Tryz.underlying26 hif hW hm hdl (fun j v hj => by
      rw [hadd]
      rw [List.getElem?_drop] at hj
      have hlt : i * 6 + j < n * 6 := by rw [← hxl]; exact (List.getElem?_eq_some_iff.1 hj).1
      rw [← htk, List.getElem?_take, if_pos hlt] at hj
      simp only [World.cell?, hWg]
      simpa using hj) (by rw [hdl, hl1]; omega) (fun v hv => h1x v (List.mem_of_mem_drop hv)), hR2])
  have HZ := Lib.hid (show ∀ W : World, W.heap[w.heap.size]? = some (.cells R2 43 (0, 0)) → W.ownsRow B 43 6 (.slice (some ⟨w.heap.size, 0, none⟩) (n + 1) G) (n + 1) (xs.take (i * 6) ++ vs ++ xs.drop (i * 6)) from fun W hW =>
    ⟨by rw [List.length_append, List.length_append, List.length_take, List.length_drop]; omega, .inr ⟨w.heap.size, G, R2, rfl, hB, hW, hGn, hGm, hl2, hrow⟩⟩)
  have HRZ := Lib.hid hrz
  have HG := Lib.hid hg
  have HXH := Lib.hid hXh
  have hG63 : G ≤ 9223372036854775807 := by unfold maxLen at hGm; omega
  clear ho hX hXh hg hrow htk hsz hdl hif hadd h1v h1x hxl hvl hold hcs hkk hik hZ hZs hz0 hzs hzb hi0 hrz hG hR hRs hRt hR1 hR2 hl1 hl2 hGm
  have hz2 : ¬ ((i : Int) = (n : Int)) := by omega
  have hz3 : (c : Int) < (n : Int) + 1 := by omega
  have hw1 : IntKind.i64.wrap ((i : Int) + 1) = (i : Int) + 1 := by rw [IntKind.wrap_i64]; omega
  have hb1 : (0 : Int) ≤ (i : Int) + 1 := by omega
  have hin : i ≤ n := by omega
  have htn : ((i : Int) + 1).toNat = i + 1 := by omega
  have hb3 : (i : Int) ≤ (n : Int) := by omega
  have hGi : ¬ (G = i) := by omega
  have hGim : ¬ (G = i + 1) := by omega
  have hci : ¬ (c = i) := by omega
  go_enter Tryz.func11, Tryz.ntmps11
  go_wp2_with (at_builtin; refine Lib.wpList_append_run _ rfl _ _ _ _ rfl _ _ rfl rfl _ _ (HRZ.out _) ?_)
  have hA := HC1.out (w.alloc (.cells R 43)).drew (heap_alloc_new _ _) ((Array.getElem?_push_lt hXD).trans (Array.getElem?_eq_getElem hXD ▸ HXH.out)) 3 (i * 6) (n + 1 - i) (G - i) rfl (by simp only [Nat.min_def]; split <;> omega)
  rw [hA]
  go_upto_region 11 with fail
  refine anyT_start (S := fun _ => True) (t := 9) (by kernel_rfl) ?_
  refine takeS (i := 0) (v := ?_) rfl rfl (by kernel_rfl) (by kernel_rfl) (by kernel_rfl) (fun _ _ _ h => h) (by decide) (by kernel_rfl) ?_ trivial ?_
  rotate_left
  · intro w hSw; (try dsimp only at hSw); go_simp; (try with_reducible rfl)
  simp only [List.setIfInBounds_toArray, List.set_cons_zero, List.set_cons_succ]
  refine takeS (i := 1) (v := ?_) rfl rfl (by kernel_rfl) (by kernel_rfl) (by kernel_rfl) (fun _ _ _ h => h) (by decide) (by kernel_rfl) ?_ trivial ?_
  rotate_left
  · intro w hSw; (try dsimp only at hSw); go_simp; (try with_reducible rfl)
  simp only [List.setIfInBounds_toArray, List.set_cons_zero, List.set_cons_succ]
  refine takeS (i := 2) (v := ?_) rfl rfl (by kernel_rfl) (by kernel_rfl) (by kernel_rfl) (fun _ _ _ h => h) (by decide) (by kernel_rfl) ?_ trivial ?_
  rotate_left
  · intro w hSw; (try dsimp only at hSw); go_simp; (try with_reducible rfl)
  simp only [List.setIfInBounds_toArray, List.set_cons_zero, List.set_cons_succ]
  refine takeS (i := 3) (v := ?_) rfl rfl (by kernel_rfl) (by kernel_rfl) (by kernel_rfl) (fun _ _ _ h => h) (by decide) (by kernel_rfl) ?_ trivial ?_
  rotate_left
  · intro w hSw; (try dsimp only at hSw); go_simp; (try with_reducible rfl)
  simp only [List.setIfInBounds_toArray, List.set_cons_zero, List.set_cons_succ]
  refine takeS (i := 4) (v := ?_) rfl rfl (by kernel_rfl) (by kernel_rfl) (by kernel_rfl) (fun _ _ _ h => h) (by decide) (by kernel_rfl) ?_ trivial ?_
  rotate_left
  · intro w hSw; (try dsimp only at hSw); go_simp; (try with_reducible rfl)
  simp only [List.setIfInBounds_toArray, List.set_cons_zero, List.set_cons_succ]
  refine takeS (i := 5) (v := ?_) rfl rfl (by kernel_rfl) (by kernel_rfl) (by kernel_rfl) (fun _ _ _ h => h) (by decide) (by kernel_rfl) ?_ trivial ?_
  rotate_left
  · intro w hSw; (try dsimp only at hSw); go_simp; (try with_reducible rfl)
  simp only [List.setIfInBounds_toArray, List.set_cons_zero, List.set_cons_succ]
  refine takeS (i := 6) (v := ?_) rfl rfl (by kernel_rfl) (by kernel_rfl) (by kernel_rfl) (fun _ _ _ h => h) (by decide) (by kernel_rfl) ?_ trivial ?_
  rotate_left
  · intro w hSw; (try dsimp only at hSw); go_simp; (try with_reducible rfl)
  simp only [List.setIfInBounds_toArray, List.set_cons_zero, List.set_cons_succ]
  refine takeS (i := 7) (v := ?_) rfl rfl (by kernel_rfl) (by kernel_rfl) (by kernel_rfl) (fun _ _ _ h => h) (by decide) (by kernel_rfl) ?_ trivial ?_
  rotate_left
  · intro w hSw; (try dsimp only at hSw); go_simp; (try with_reducible rfl)
  simp only [List.setIfInBounds_toArray, List.set_cons_zero, List.set_cons_succ]
  refine oneT (i := 8) rfl (by kernel_rfl) (fun K hK => ?_)
  go_simp
  rw [HC2.out ((w.alloc (.cells R 43)).drew.setRow w.heap.size R1).drew (setRow_heap _ _ R _ _ _ (heap_alloc_new _ _)) ((setRow_other _ _ g _ (Nat.ne_of_lt hgD)).trans ((Array.getElem?_push_lt hgD).trans (Array.getElem?_eq_getElem hgD ▸ HG.out))) _ _ _ _ _ _ _ rfl rfl (by simp only [Nat.min_def]; split <;> omega)]
  go_simp
  refine hK.out _ _ (fun _ => trivial) ?_
  refine doneT (by kernel_rfl) ?_ _
  clear hK
  go_wp2_with fail
  go_ret
  exact ⟨_, rfl, HZ.out _ (setRow_heap _ _ R1 _ _ _ (setRow_heap _ _ R _ _ _ (heap_alloc_new _ _))), setRow_below (setRow_below ((Below.refl B w).alloc hB _).drew hB).drew hB⟩
end Go.Proofs.YtllcgcnebofdoaaGreatDoor
