/- The walks of two and CheckRatio. -/
import Derived.Test.YtfoehmieklldkaaDoorRatB
namespace Go.Proofs.YtfoehmieklldkaaDoor
open Go.RowKit

theorem box4 (w : World) (c1 c2 c3 c4 : Array Value) (t1 t2 t3 t4 : TypeId) :
    Has ((((w.alloc (.cells c1 t1)).alloc (.cells c2 t2)).alloc (.cells c3 t3)).alloc (.cells c4 t4)) w.heap.size c1 t1 ∧
    Has ((((w.alloc (.cells c1 t1)).alloc (.cells c2 t2)).alloc (.cells c3 t3)).alloc (.cells c4 t4)) (w.heap.size + 1) c2 t2 ∧
    Has ((((w.alloc (.cells c1 t1)).alloc (.cells c2 t2)).alloc (.cells c3 t3)).alloc (.cells c4 t4)) (w.heap.size + 2) c3 t3 ∧
    Has ((((w.alloc (.cells c1 t1)).alloc (.cells c2 t2)).alloc (.cells c3 t3)).alloc (.cells c4 t4)) (w.heap.size + 3) c4 t4 ∧
    Below w.heap.size w ((((w.alloc (.cells c1 t1)).alloc (.cells c2 t2)).alloc (.cells c3 t3)).alloc (.cells c4 t4)) := by
  have h1 := Has.new w c1 t1
  have h2 := Has.new (w.alloc (.cells c1 t1)) c2 t2
  have h3 := Has.new ((w.alloc (.cells c1 t1)).alloc (.cells c2 t2)) c3 t3
  have h4 := Has.new (((w.alloc (.cells c1 t1)).alloc (.cells c2 t2)).alloc (.cells c3 t3)) c4 t4
  simp only [World.size_alloc] at h2 h3 h4
  exact ⟨((h1.alloc _).alloc _).alloc _, (h2.alloc _).alloc _, h3.alloc _, h4, ((((Below.refl _ w).alloc (Nat.le_refl _) _).alloc (by simp) _).alloc (by simp; omega) _).alloc (by simp; omega) _⟩

theorem results_cell2_tmp {fn : Func} {p q u : Tmp} {ty : TypeId} (h : fn.results = #[.cell p ty, .cell q ty, .tmp u]) (tmps : Array Value) (P : Program) (w : World) :
    (results fn tmps).run P w = ((asAddr (tmps.getD p undef)).run P w).andThen fun a w₁ => ((loadVar ty a).run P w₁).andThen fun v w₂ => ((asAddr (tmps.getD q undef)).run P w₂).andThen fun a' w₃ => ((loadVar ty a').run P w₃).andThen fun v' w₄ => .ok (.tuple #[v, v', tmps.getD u undef]) w₄ := by
  simp only [results, h]
  simp [Sem.run_bind, Result.andThen]
theorem results_cell2_tmp_row {P : Program} {fn : Func} {p q u : Tmp} {ty : TypeId} (h : fn.results = #[.cell p ty, .cell q ty, .tmp u]) (tmps : Array Value) (w : World) (g g' : Nat) (t : TypeId) (cs cs' : Array Value) (fr fr' : Nat × Nat) (d : TypeDesc)
    (hp : tmps.getD p undef = .pointer (some ⟨g, 0, none⟩)) (hg : w.heap[g]? = some (.cells cs t fr)) (hq : tmps.getD q undef = .pointer (some ⟨g', 0, none⟩)) (hg' : w.heap[g']? = some (.cells cs' t fr'))
    (hu : P.underlying ty = some d) (hd : (match d with | .struct _ | .array _ _ => true | _ => false) = true) (hi : (P.info? ty).map (·.size) = some cs.size) (hs : cs'.size = cs.size) :
    (results fn tmps).run P w = .ok (.tuple #[.agg cs, .agg cs', tmps.getD u undef]) w := by
  rw [results_cell2_tmp h, hp, hq]
  simp [asAddr, run_loadVar_row w g t ty cs fr d hg hu hd hi, run_loadVar_row w g' t ty cs' fr' d hg' hu hd (by rw [hs]; exact hi)]

/-- two ratios stored into two blocks of their own -/
theorem two_fin {w w5 : World} {B B' : Nat} {a1 a2 a3 a4 : Option Addr} {l1 c1 l2 c2 l3 c3 l4 c4 : Nat} {u1 u2 u3 u4 : Option Addr} {m1 e1 m2 e2 m3 e3 m4 e4 : Nat}
    (h : Has w5 B #[.slice u1 m1 e1, .slice u2 m2 e2] 82) (h' : Has w5 B' #[.slice u3 m3 e3, .slice u4 m4 e4] 82) (hne : B ≠ B') (hb : Below w.heap.size w w5) (hB : w.heap.size ≤ B) (hB' : w.heap.size ≤ B') :
    Has ((((w5.setCell ⟨B, 0, none⟩ (.slice a1 l1 c1)).setCell ⟨B, 1, none⟩ (.slice a2 l2 c2)).setCell ⟨B', 0, none⟩ (.slice a3 l3 c3)).setCell ⟨B', 1, none⟩ (.slice a4 l4 c4)) B #[.slice a1 l1 c1, .slice a2 l2 c2] 82 ∧
    Has ((((w5.setCell ⟨B, 0, none⟩ (.slice a1 l1 c1)).setCell ⟨B, 1, none⟩ (.slice a2 l2 c2)).setCell ⟨B', 0, none⟩ (.slice a3 l3 c3)).setCell ⟨B', 1, none⟩ (.slice a4 l4 c4)) B' #[.slice a3 l3 c3, .slice a4 l4 c4] 82 ∧
    Below w.heap.size w ((((w5.setCell ⟨B, 0, none⟩ (.slice a1 l1 c1)).setCell ⟨B, 1, none⟩ (.slice a2 l2 c2)).setCell ⟨B', 0, none⟩ (.slice a3 l3 c3)).setCell ⟨B', 1, none⟩ (.slice a4 l4 c4)) ∧
    ∀ v n K, NatAt w5 v n K → NatAt ((((w5.setCell ⟨B, 0, none⟩ (.slice a1 l1 c1)).setCell ⟨B, 1, none⟩ (.slice a2 l2 c2)).setCell ⟨B', 0, none⟩ (.slice a3 l3 c3)).setCell ⟨B', 1, none⟩ (.slice a4 l4 c4)) v n K := by
  have g1 : Has (w5.setCell ⟨B, 0, none⟩ (.slice a1 l1 c1)) B #[.slice a1 l1 c1, .slice u2 m2 e2] 82 := h.set 0 _
  have g2 : Has ((w5.setCell ⟨B, 0, none⟩ (.slice a1 l1 c1)).setCell ⟨B, 1, none⟩ (.slice a2 l2 c2)) B #[.slice a1 l1 c1, .slice a2 l2 c2] 82 := g1.set 1 _
  have k2 : Has ((w5.setCell ⟨B, 0, none⟩ (.slice a1 l1 c1)).setCell ⟨B, 1, none⟩ (.slice a2 l2 c2)) B' #[.slice u3 m3 e3, .slice u4 m4 e4] 82 := (h'.set_other 0 _ (Ne.symm hne)).set_other 1 _ (Ne.symm hne)
  have k3 : Has (((w5.setCell ⟨B, 0, none⟩ (.slice a1 l1 c1)).setCell ⟨B, 1, none⟩ (.slice a2 l2 c2)).setCell ⟨B', 0, none⟩ (.slice a3 l3 c3)) B' #[.slice a3 l3 c3, .slice u4 m4 e4] 82 := k2.set 0 _
  refine ⟨(g2.set_other 0 _ hne).set_other 1 _ hne, k3.set 1 _, below_set2 (below_set2 hb hB) hB', fun v n K hn => ?_⟩
  exact NatAt.set (NatAt.set (NatAt.set (NatAt.set hn h (no_ints2 _ _ _ _ _ _) _) g1 (no_ints2 _ _ _ _ _ _) _) k2 (no_ints2 _ _ _ _ _ _) _) k3 (no_ints2 _ _ _ _ _ _) _

def TwPost (s t s' t' : List UInt8) (w : World) (e : Ending) (w' : World) : Prop :=
  ∃ a1 l1 c1 a2 l2 c2 a3 l3 c3 a4 l4 c4 code, e = .returned (.tuple #[.agg #[.slice a1 l1 c1, .slice a2 l2 c2], .agg #[.slice a3 l3 c3, .slice a4 l4 c4], .int .i64 code]) ∧ Below w.heap.size w w' ∧
    ((code ≠ 0 ∧ ¬ (RatOk s t ∧ RatOk s' t')) ∨ (code = 0 ∧ RatOk s t ∧ RatOk s' t' ∧ NatAt w' (.slice a1 l1 c1) (decV s) 2300 ∧ NatAt w' (.slice a2 l2 c2) (decV t) 2300 ∧ NatAt w' (.slice a3 l3 c3) (decV s') 2300 ∧ NatAt w' (.slice a4 l4 c4) (decV t') 2300))

set_option maxRecDepth 100000 in
set_option maxHeartbeats 4000000 in
theorem two_any (s t s' t' : List UInt8) (w : World) (hE : Env w) :
    Calls Tryd.prog 41 #[.agg #[.string (bs s), .string (bs t)], .agg #[.string (bs s'), .string (bs t')]] w (TwPost s t s' t' w) := by
  have hbx := box4 w #[.string (bs s), .string (bs t)] #[.string (bs s'), .string (bs t')] #[.slice none 0 0, .slice none 0 0] #[.slice none 0 0, .slice none 0 0] 44 44 82 82
  have HR1 := Lib.hid (fun W hW => read_any s t W hW)
  have HR2 := Lib.hid (fun W hW => read_any s' t' W hW)
  generalize bs s = zs at *
  generalize bs t = zt at *
  generalize bs s' = zs' at *
  generalize bs t' = zt' at *
  have HE := Lib.hid hE
  clear hE
  go_enter Tryd.func41, Tryd.ntmps41
  go_upto_region 1 with fail
  generalize (((w.alloc (.cells #[.string zs, .string zt] 44)).alloc (.cells #[.string zs', .string zt'] 44)).alloc (.cells #[.slice none 0 0, .slice none 0 0] 82)).alloc (.cells #[.slice none 0 0, .slice none 0 0] 82) = w2 at *
  obtain ⟨h1, h2, h3, h4, hbl⟩ := hbx
  have H1 := Lib.hid h1
  have H2 := Lib.hid h2
  have H3 := Lib.hid h3
  have H4 := Lib.hid h4
  have HB2 := Lib.hid hbl
  have k0 := h1.cell 0
  have k1 := h1.cell 1
  clear h1 h2 h3 h4 hbl
  go_wp2_with fail
  refine (HR1.out w2 (HE.out.below HB2.out)).mono ?_
  rintro e w3 ⟨a1, l1, c1, a2, l2, c2, code, rfl, hb3, hcase⟩
  have HB3 := Lib.hid hb3
  have HCA := Lib.hid hcase
  clear hb3 hcase k0 k1
  go_upto_region 2 with fail
  have HB34 : Hid (Below w3.heap.size w3 (w3.alloc (.cells #[.slice a1 l1 c1, .slice a2 l2 c2] 82))) := Lib.hid ((Below.refl _ _).alloc (Nat.le_refl _) _)
  have HB4 := Lib.hid (below_up (below_up HB2.out HB3.out HB2.out.size) HB34.out (Nat.le_trans HB2.out.size HB3.out.size))
  have hx7 := Has.new w3 #[.slice a1 l1 c1, .slice a2 l2 c2] 82
  have H7 := Lib.hid hx7
  have h24 := below_up' HB3.out HB34.out
  have H2' := Lib.hid (H2.out.below h24 H2.out.lt)
  have H3' := Lib.hid (H3.out.below h24 H3.out.lt)
  have H4' := Lib.hid (H4.out.below h24 H4.out.lt)
  have hlt4 : w.heap.size + 3 < w3.heap.size := Nat.lt_of_lt_of_le H4.out.lt HB3.out.size
  clear hx7 h24
  generalize w3.alloc (.cells #[.slice a1 l1 c1, .slice a2 l2 c2] 82) = w4 at *
  generalize hb7 : w3.heap.size = B7 at *
  rcases HCA.out with ⟨hcode, hno⟩ | ⟨rfl, hok, hn1, hn2⟩
  · have q0 : (code == 0) = false := by simpa using hcode
    have q1 : (code != 0) = true := by simpa using hcode
    have HNO := Lib.hid (show code ≠ 0 ∧ ¬ (RatOk s t ∧ RatOk s' t') from ⟨hcode, fun h => hno h.1⟩)
    have x0 := H7.out.cell 0
    have x1 := H7.out.cell 1
    have y0 := H3'.out.cell 0
    have y1 := H3'.out.cell 1
    have y2 := H3'.out.fz 0
    have y3 := H3'.out.fz 1
    have z0 := H4'.out.cell 0
    have z1 := H4'.out.cell 1
    have z2 := H4'.out.fz 0
    have z3 := H4'.out.fz 1
    have n1 : w.heap.size + 2 ≠ B7 := by omega
    have n2 : w.heap.size + 3 ≠ B7 := by omega
    clear hcode hno hb7
    go_upto_region 3 with fail
    go_region
    all_goals go_wp2
    have HF := two_fin (a1 := a1) (l1 := l1) (c1 := c1) (a2 := a2) (l2 := l2) (c2 := c2) (a3 := a1) (l3 := l1) (c3 := c1) (a4 := a2) (l4 := l2) (c4 := c2) H3'.out H4'.out (by omega) HB4.out (by omega) (by omega)
    refine bodyPost_ret (results_cell2_tmp_row rfl _ _ (w.heap.size + 2) (w.heap.size + 3) _ _ _ (0, 0) (0, 0) _ rfl HF.1 rfl HF.2.1 Tryd.underlying82 rfl infoRatio rfl) rfl ?_
    exact ⟨_, _, _, _, _, _, _, _, _, _, _, _, _, rfl, HF.2.2.1.drew, .inl HNO.out⟩
  · have HOK := Lib.hid hok
    have HN1 := Lib.hid (hn1.below (by rw [hb7]; exact HB34.out))
    have HN2 := Lib.hid (hn2.below (by rw [hb7]; exact HB34.out))
    have k0 := H2'.out.cell 0
    have k1 := H2'.out.cell 1
    have hb7lt := H7.out.lt
    have hw4 := HB4.out.size
    clear hok hn1 hn2 HCA hb7
    go_wp2_with fail
    refine (HR2.out w4 (HE.out.below HB4.out)).mono ?_
    rintro e w5 ⟨a3, l3, c3, a4, l4, c4, code, rfl, hb5, hcase⟩
    have HB5 := Lib.hid hb5
    have HB56 : Hid (Below w5.heap.size w5 (w5.alloc (.cells #[.slice a3 l3 c3, .slice a4 l4 c4] 82))) := Lib.hid ((Below.refl _ _).alloc (Nat.le_refl _) _)
    have HB6 := Lib.hid (below_up (below_up HB4.out hb5 HB4.out.size) HB56.out (Nat.le_trans HB4.out.size hb5.size))
    have hx9 := Has.new w5 #[.slice a3 l3 c3, .slice a4 l4 c4] 82
    have H9 := Lib.hid hx9
    have h46 := below_up' hb5 HB56.out
    have H3f := Lib.hid (H3'.out.below h46 H3'.out.lt)
    have H4f := Lib.hid (H4'.out.below h46 H4'.out.lt)
    have H7f := Lib.hid (H7.out.below h46 H7.out.lt)
    have HN1f := Lib.hid (HN1.out.below h46)
    have HN2f := Lib.hid (HN2.out.below h46)
    have hlt5 : w.heap.size + 3 < w5.heap.size := Nat.lt_of_lt_of_le H4'.out.lt hb5.size
    have hlt7 : B7 < w5.heap.size := Nat.lt_of_lt_of_le hb7lt hb5.size
    have hcase2 : (code ≠ 0 ∧ ¬ RatOk s' t') ∨ (code = 0 ∧ RatOk s' t' ∧ NatAt (w5.alloc (.cells #[.slice a3 l3 c3, .slice a4 l4 c4] 82)) (.slice a3 l3 c3) (decV s') 2300 ∧ NatAt (w5.alloc (.cells #[.slice a3 l3 c3, .slice a4 l4 c4] 82)) (.slice a4 l4 c4) (decV t') 2300) := by
      rcases hcase with h | ⟨h1, h2, h3, h4⟩
      · exact .inl h
      · exact .inr ⟨h1, h2, h3.below HB56.out, h4.below HB56.out⟩
    have HCA2 := Lib.hid hcase2
    clear hb5 hcase hx9 h46 k0 k1 hcase2
    go_upto_region 5 with fail
    generalize w5.alloc (.cells #[.slice a3 l3 c3, .slice a4 l4 c4] 82) = w6 at *
    generalize w5.heap.size = B9 at *
    have x0 := H7f.out.cell 0
    have x1 := H7f.out.cell 1
    have u0 := H9.out.cell 0
    have u1 := H9.out.cell 1
    have y0 := H3f.out.cell 0
    have y1 := H3f.out.cell 1
    have y2 := H3f.out.fz 0
    have y3 := H3f.out.fz 1
    have z0 := H4f.out.cell 0
    have z1 := H4f.out.cell 1
    have z2 := H4f.out.fz 0
    have z3 := H4f.out.fz 1
    have n1 : w.heap.size + 2 ≠ B7 := by omega
    have n2 : w.heap.size + 3 ≠ B7 := by omega
    have n3 : w.heap.size + 2 ≠ B9 := by omega
    have n4 : w.heap.size + 3 ≠ B9 := by omega
    go_region
    all_goals go_wp2
    all_goals
      have HF := two_fin (a1 := a1) (l1 := l1) (c1 := c1) (a2 := a2) (l2 := l2) (c2 := c2) (a3 := a3) (l3 := l3) (c3 := c3) (a4 := a4) (l4 := l4) (c4 := c4) H3f.out H4f.out (by omega) HB6.out (by omega) (by omega)
      refine bodyPost_ret (results_cell2_tmp_row rfl _ _ (w.heap.size + 2) (w.heap.size + 3) _ _ _ (0, 0) (0, 0) _ rfl HF.1 rfl HF.2.1 Tryd.underlying82 rfl infoRatio rfl) rfl ?_
      refine ⟨_, _, _, _, _, _, _, _, _, _, _, _, _, rfl, HF.2.2.1.drew, ?_⟩
      rcases HCA2.out with ⟨h1, h2⟩ | ⟨h1, h2, h3, h4⟩
      · exact .inl ⟨h1, fun h => h2 h.2⟩
      · exact .inr ⟨h1, HOK.out, h2, (HF.2.2.2 _ _ _ HN1f.out).drewN 1, (HF.2.2.2 _ _ _ HN2f.out).drewN 1, (HF.2.2.2 _ _ _ h3).drewN 1, (HF.2.2.2 _ _ _ h4).drewN 1⟩

set_option maxRecDepth 100000 in
set_option maxHeartbeats 2000000 in
theorem CheckRatio_ok (s t : List UInt8) (w : World) (hE : Env w) (hok : RatOk s t) :
    Calls Tryd.prog 19 #[.agg #[.string (bs s), .string (bs t)]] w fun e w' => e = .returned (.int .i64 0) ∧ Below w.heap.size w w' := by
  have hbx := box1 w #[.string (bs s), .string (bs t)] 44
  have HR := Lib.hid (fun W hW => read_any s t W hW)
  have HOK := Lib.hid hok
  generalize bs s = zs at *
  generalize bs t = zt at *
  have HE := Lib.hid hE
  clear hE hok
  go_enter Tryd.func19, Tryd.ntmps19
  go_upto_region 1 with fail
  generalize w.alloc (.cells #[.string zs, .string zt] 44) = w2 at *
  obtain ⟨h1, hbl⟩ := hbx
  have HB2 := Lib.hid hbl
  have k0 := h1.cell 0
  have k1 := h1.cell 1
  clear h1 hbl
  go_wp2_with fail
  refine (HR.out w2 (HE.out.below HB2.out)).mono ?_
  rintro e w3 ⟨a1, l1, c1, a2, l2, c2, code, rfl, hb3, hcase⟩
  have HB3 := Lib.hid (below_up HB2.out hb3 HB2.out.size)
  obtain rfl : code = 0 := by
    rcases hcase with ⟨_, h⟩ | ⟨h, _⟩
    · exact absurd HOK.out h
    · exact h
  clear hb3 hcase k0 k1
  go_wp2_with fail
  go_ret
  exact ⟨rfl, HB3.out.alloc HB3.out.size _⟩

end Go.Proofs.YtfoehmieklldkaaDoor
