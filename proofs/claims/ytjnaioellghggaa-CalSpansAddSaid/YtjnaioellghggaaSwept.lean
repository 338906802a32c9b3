/- The walk of cal.swept, at two lists. -/
import Derived.Test.YtjnaioellghggaaSweptM
namespace Go.Proofs.Ytjnaioellghggaa
open Go.RowKit

def SweptPost (want : Int → Int → Bool) (a b : List Sp) (w : World) (e : Ending) (w' : World) : Prop :=
  (∃ v out, e = .returned v ∧ Changes w' v out ∧ Apart 0 3000001 out ∧ ∀ t, covB out t = want (if covB a t then 1 else 0) (if covB b t then 1 else 0)) ∧ Below w.heap.size w w'

set_option maxRecDepth 100000 in
set_option maxHeartbeats 4000000 in
theorem swept_any (want : Int → Int → Bool) (g : Nat) (h0 : want 0 0 = false) (hw : Wants g want) (eg : ∀ args w, (callFunc g args).run Try.prog w = .ok (.enter g args) w) (va vb : Value) (a b : List Sp) (L : Nat) (w : World)
    (hL : Has w L #[va, vb] 36) (ha : Changes w va a) (hb : Changes w vb b) (la : a.length ≤ 50000) (lb : b.length ≤ 50000) (Aa : Apart 0 3000001 a) (Ab : Apart 0 3000001 b) :
    Calls Try.prog 50 #[.slice (some ⟨L, 0, none⟩) 2 2, .func (.func g) #[] #[]] w (SweptPost want a b w) := by
  have HAT := Lib.hid (fun wr (hbel : Below w.heap.size w wr) k (hk : k < 2) => lists_at hL ha hb la lb hbel hk)
  have HW := Lib.hid hw
  have HAA := Lib.hid Aa
  have HAB := Lib.hid Ab
  have HLA := Lib.hid la
  have HLB := Lib.hid lb
  have H0 := Lib.hid h0
  have HPost : SweptPost want a b w = SweptPost want a b w := rfl
  generalize hPost : SweptPost want a b w = Post at HPost ⊢
  have HP := Lib.hid hPost
  clear hL ha hb la lb Aa Ab hw h0 hPost HPost
  go_enter Try.func50, Try.ntmps50
  go_wp2_with fail
  go_loopw [5, 18] (fun ev kv wr => ∃ k : Nat, kv = .int .i64 k ∧ k ≤ 2 ∧ ESt w wr ev (edgesTo a b k)) (fun _ kv _ => 2 - (intOf kv).toNat)
  case atStart => exact ⟨0, rfl, by omega, ⟨rfl, .inl ⟨rfl, rfl⟩⟩, Below.refl _ _⟩
  case round =>
    obtain ⟨k, rfl, hk, hS⟩ := hrel
    have HS := Lib.hid hS
    clear hS
    by_cases hlt : k < 2
    · have qk : decide ((k : Int) < 2) = true := decide_eq_true (by omega)
      obtain ⟨l, v, cv, hl, hll, hnext, hlen⟩ := HAT.out _ HS.out.below k hlt
      obtain ⟨av, cap, rfl⟩ := SliceAt.len hl
      have HL := Lib.hid hl
      have HN := Lib.hid hnext
      have HS2 := Lib.hid (show ESt w _ _ (edgesTo a b k ++ edgesOf (k : Int) (l.take 0)) by simpa [edgesOf] using HS.out)
      have HBW := Lib.hid HS.out.below
      clear hl hnext HS
      generalize edgesTo a b k = E at *
      go_wp2_with fail
      go_loopw [5, 25] (fun ev iv wr => ∃ i : Nat, iv = .int .i64 i ∧ i ≤ l.length ∧ ESt w wr ev (E ++ edgesOf (k : Int) (l.take i))) (fun _ iv _ => l.length - (intOf iv).toNat)
      case atStart => exact ⟨0, rfl, by omega, HS2.out⟩
      case round =>
        obtain ⟨i, rfl, hi, hS⟩ := hrel
        have HS := Lib.hid hS
        clear hS
        by_cases hlt2 : i < l.length
        · obtain ⟨bb, of', cap', hv, hb, hel⟩ := Changes.at HL.out (by omega)
          cases hv
          obtain ⟨e0, e1⟩ := hel i hlt2
          have c0 := (below_cell HS.out.below hb).trans e0
          have c1 := (below_cell HS.out.below hb).trans e1
          have hn1 := edge_next E k l i hlt2
          have hn2 := edge_next_len E k l i hlt2
          have hn3 : (E ++ edgesOf (k : Int) (l.take i)).length ≤ 300000 := by rw [List.length_append, edges_len, List.length_take]; omega
          generalize l[i] = s at *
          obtain ⟨f, t⟩ := s
          simp only at c0 c1 hn1
          have HN1 := Lib.hid hn1
          have HN2 := Lib.hid hn2
          clear hel e0 e1 hn1 hn2
          go_upto_region 8 with fail
          obtain ⟨bx, bbl⟩ := box1 wr #[.int .i64 f, .int .i64 t] 41
          have HB4 := Lib.hid (below_up HS.out.below bbl HS.out.below.size)
          have HO4 := Lib.hid (HS.out.own.alloc (.cells #[.int .i64 f, .int .i64 t] 41))
          have hB := HB4.out.size
          have k0 := bx.cell 0
          have k1 := bx.cell 1
          generalize wr.alloc (.cells #[.int .i64 f, .int .i64 t] 41) = wb at *
          generalize wr.heap.size = B at *
          generalize (E ++ edgesOf (k : Int) (l.take i)).length = n at *
          clear bx bbl c0 c1
          go_wp2_with (at_builtin; go_must (refine append_two_at rfl _ _ 112 rfl w.heap.size 114 (.agg #[.int .i64 0, .int .i64 0, .int .i64 0]) 3 24 Try.underlying112 infoEdge rfl (by decide) w wb _ _ _ rfl HO4.out _ rfl [.int .i64 f, .int .i64 k, .int .i64 1, .int .i64 t, .int .i64 k, .int .i64 (-1)] rfl rfl rfl (by simp [Value.oneCell']) (by omega) (by omega) hB HB4.out ?_); intro v' w6 ho hb6 _)
          go_roundw
          case rel => exact ⟨i + 1, by go_num, by omega, by rw [HN1.out, HN2.out]; exact ho, hb6⟩
          case measure => simp [intOf]; omega
        · obtain rfl : i = l.length := by omega
          have hS := HS.out
          rw [List.take_length, ← HN.out] at hS
          have HS3 := Lib.hid hS
          clear hS
          go_wp2_with fail
          go_roundw
          case rel => exact ⟨k + 1, by go_num, by omega, HS3.out⟩
          case measure => simp [intOf]; omega
    · obtain rfl : k = 2 := by omega
      have hS := HS.out
      have he : edgesTo a b 2 = edgesOf 0 a ++ edgesOf 1 b := by simp [edgesTo]
      rw [he] at hS
      have hbel := hS.below
      have hown := hS.own
      have hlen : (edgesOf 0 a ++ edgesOf 1 b).length ≤ 1000000 := by
        have h1 := HLA.out
        have h2 := HLB.out
        rw [List.length_append, edges_len, edges_len]; omega
      generalize hEE : edgesOf 0 a ++ edgesOf 1 b = EE at *
      have HEE := Lib.hid hEE
      have HS := Lib.hid hown
      have HB := Lib.hid hbel
      clear hEE hS he hown hbel
      go_wp2_with fail
      refine (sortE_any w.heap.size _ EE wr HS.out hlen).mono ?_
      rintro e w1 ⟨rfl, D, hperm, hsort, hown, hgrow⟩
      have hb1 := HB.out.grown hgrow HB.out.size (fun k hk => (HS.out.lt k hk).1)
      have hDl : D.length ≤ 1000000 := by rw [hperm.length_eq]; exact hlen
      have HSw := Lib.hid (show Swp a b D from ⟨by rw [HEE.out]; exact hperm, hsort⟩)
      obtain ⟨ae, ce, rfl⟩ := owns_slice hown
      have HOE := Lib.hid hown
      have HB1 := Lib.hid hb1
      clear hperm hsort hown hgrow hb1 HS HB HEE hlen
      have hmk := make2 w1
      have HC1 := Lib.hid (Has.new w1 #[.int .i64 0, .int .i64 0] 3)
      have HB2 := Lib.hid (HB1.out.alloc HB1.out.size (.cells #[.int .i64 0, .int .i64 0] 3))
      have HOE2 := Lib.hid (HOE.out.alloc (.cells #[.int .i64 0, .int .i64 0] 3))
      have hC := HB1.out.size
      go_upto_region 13 with fail
      generalize w1.alloc (.cells #[.int .i64 0, .int .i64 0] 3) = w2 at *
      generalize w1.heap.size = C at *
      clear hmk HB1 HOE
      go_wp2_with fail
      have HG := Lib.hid (SwInv.start (want := want) HSw.out.sorted H0.out)
      go_loopw [11, 12] (fun ov iv wr => ∃ i : Nat, iv = .int .i64 i ∧ ∃ out, Sst want w wr C (.slice ae D.length ce) ov D i out) (fun _ iv _ => D.length - (intOf iv).toNat)
      case atStart => exact ⟨0, rfl, [], ⟨HB2.out, HC1.out, hC, HOE2.out, ⟨rfl, .inl ⟨rfl, rfl⟩⟩⟩, HG.out⟩
      case round =>
        obtain ⟨i, rfl, out, hS⟩ := hrel
        have HS := Lib.hid hS
        have hi := hS.inv.le
        clear hS
        by_cases hlt : i < D.length
        · have qi : decide ((i : Int) < (D.length : Int)) = true := decide_eq_true (by omega)
          obtain ⟨ge, ce', hev, hgC⟩ := HS.out.mem.at (by omega)
          cases hev
          obtain ⟨ao, co, rfl⟩ := owns_slice HS.out.mem.outs
          have e0 := (HS.out.mem.edge hlt).1
          have HI := Lib.hid (show Ist w wr C (.slice (some ⟨ge, 0, none⟩) D.length ce) (.slice ao out.length co) D out i i D[i].1 from ⟨Nat.le_refl _, hi, HS.out.mem, by simp⟩)
          have HINV := Lib.hid HS.out.inv
          have HFI := Lib.hid (show ∀ e, D[i]? = some e → e.1 = D[i].1 by
            intro e he
            rw [List.getElem?_eq_getElem hlt] at he
            cases he; rfl)
          generalize D[i].1 = at_ at *
          clear HS
          go_wp2_with fail
          go_loopw [12] (fun jv wr' => ∃ j : Nat, jv = .int .i64 j ∧ Ist w wr' C (.slice (some ⟨ge, 0, none⟩) D.length ce) (.slice ao out.length co) D out i j at_) (fun jv _ => D.length - (intOf jv).toNat)
          case atStart => exact ⟨i, rfl, HI.out⟩
          case round =>
            obtain ⟨j, rfl, hJ⟩ := hrel
            have HJ := Lib.hid hJ
            have hij := hJ.le
            have hj2 := hJ.le2
            clear hJ
            by_cases hj : j < D.length
            · have qj : decide ((j : Int) < (D.length : Int)) = true := decide_eq_true (by omega)
              obtain ⟨d0, d1, d2⟩ := HJ.out.mem.edge hj
              have hab : ∀ e ∈ D.take j, e.2.2 = 1 ∨ e.2.2 = -1 := fun e he => (HSw.out.mem HAA.out HAB.out e (List.mem_of_mem_take he)).2.2.2
              have b0 := sumK_abs (k := 0) hab
              have b1 := sumK_abs (k := 1) hab
              have hjl : (D.take j).length ≤ 1000000 := by rw [List.length_take]; omega
              by_cases hat : D[j].1 = at_
              · have hsame := same_next HJ.out.same hij hj hat
                have hm := HSw.out.mem HAA.out HAB.out D[j] (List.getElem_mem hj)
                have n0 := sumK_next 0 D j hj
                have n1 := sumK_next 1 D j hj
                have k0 := HJ.out.mem.counts.cell 0
                have k1 := HJ.out.mem.counts.cell 1
                have z0 := HJ.out.mem.counts.fz 0
                have z1 := HJ.out.mem.counts.fz 1
                have HM := Lib.hid HJ.out.mem
                rw [hat] at d0
                obtain ⟨_, _, hlist, hby⟩ := hm
                generalize D[j] = dj at *
                obtain ⟨_, dl, db⟩ := dj
                simp only at d1 d2 hlist hby n0 n1
                have HN0 := Lib.hid n0
                have HN1 := Lib.hid n1
                have HSM := Lib.hid hsame
                generalize sumK 0 (D.take j) = s0 at *
                generalize sumK 1 (D.take j) = s1 at *
                rcases hlist with rfl | rfl
                · have w1 : IntKind.i64.wrap (s0 + db) = s0 + db := IntWalk.i64_in _ (by omega)
                  clear hsame n0 n1 hab b0 b1 hat HFI
                  go_wp2_with fail
                  go_region
                  go_wp2_with fail
                  go_roundw
                  case rel =>
                    refine ⟨j + 1, by go_num, by omega, hj, ?_, HSM.out⟩
                    rw [HN0.out, HN1.out]
                    simpa using (HM.out.set0 (s0 + db)).drew
                  case measure => simp [intOf]; omega
                · have w1 : IntKind.i64.wrap (s1 + db) = s1 + db := IntWalk.i64_in _ (by omega)
                  clear hsame n0 n1 hab b0 b1 hat HFI
                  go_wp2_with fail
                  go_region
                  go_wp2_with fail
                  go_roundw
                  case rel =>
                    refine ⟨j + 1, by go_num, by omega, hj, ?_, HSM.out⟩
                    rw [HN0.out, HN1.out]
                    simpa using (HM.out.set1 (s1 + db)).drew
                  case measure => simp [intOf]; omega
              · have q3 : (D[j].1 == at_) = false := by simpa using hat
                have hne : j ≠ i := fun e => by
                  subst e
                  exact hat (HFI.out _ (List.getElem?_eq_getElem hj))
                have HGr := Lib.hid (show Grp D i j at_ from ⟨by omega, hj2, HJ.out.same, HFI.out⟩)
                have HNE := Lib.hid hat
                have HGJ := Lib.hid (List.getElem?_eq_getElem hj)
                have HDE := Lib.hid (fun W c0 c1 o v (h : Mst w W C (.slice (some ⟨ge, 0, none⟩) D.length ce) v D o c0 c1) => (h.edge hj).1)
                generalize hdj : D[j] = dj at *
                obtain ⟨f, dl, db⟩ := dj
                simp only at d0 d1 d2 q3
                have qe : ((j : Int) == (D.length : Int)) = false := by simp; omega
                have h1000 := HJ.out.mem
                have HPOS := Lib.hid (show (0 : Int) ≤ at_ by
                  have h1 := (HSw.out.mem HAA.out HAB.out D[i] (List.getElem_mem hlt)).1
                  rwa [HFI.out _ (List.getElem?_eq_getElem hlt)] at h1)
                clear d1 d2 hdj hat e0 hab h1000
                go_wp2_with fail
                refine (HW.out C _ _ wr HJ.out.mem.counts (by omega) (by omega) (by omega) (by omega)).mono ?_
                rintro e w5 ⟨rfl, hb5⟩
                have HM := Lib.hid (HJ.out.mem.to hb5)
                clear hb5 b0 b1 d0
                cases hq : want (sumK 0 (D.take j)) (sumK 1 (D.take j))
                · have HQ := Lib.hid hq
                  clear hq
                  go_wp2_with fail
                  go_roundw
                  case rel => exact ⟨j, rfl, out, HM.out, HINV.out.skip HGr.out HSw.out.sorted HGJ.out (by simpa using HNE.out) HQ.out⟩
                  case measure => simp [intOf]; omega
                · have HQ := Lib.hid hq
                  clear hq
                  have d0 := HDE.out _ _ _ _ _ HM.out
                  have hbx := box1 w5 #[.int .i64 at_, .int .i64 f] 41
                  have HX := Lib.hid hbx.1
                  have HM6 := Lib.hid (HM.out.alloc (.cells #[.int .i64 at_, .int .i64 f] 41))
                  clear hbx HM
                  go_upto_region 22 with fail
                  generalize w5.alloc (.cells #[.int .i64 at_, .int .i64 f] 41) = w6 at *
                  generalize w5.heap.size = X at *
                  have k0 := HX.out.cell 0
                  have k1 := HX.out.cell 1
                  clear d0
                  have hol : out.length ≤ 3000001 := by
                    have h1 := HINV.out.apart
                    have h2 := (HSw.out.mem HAA.out HAB.out D[i] (List.getElem_mem hlt)).2.1
                    rw [List.getElem?_eq_getElem hlt] at h1
                    have h3 := apart_len (h1.hi h2)
                    omega
                  have HBX := Lib.hid HM6.out.below
                  have hB := HM6.out.below.size
                  rcases List.eq_nil_or_concat out with hout | ⟨l, s, hout⟩
                  · subst hout
                    simp only [List.length_nil] at *
                    have HO := Lib.hid (fun n => (HM6.out.drewN n).outs)
                    go_wp2_with fail
                    go_quiet (fail)
                    go_wp2_with (at_builtin; go_must (refine append_one rfl _ _ 36 rfl w.heap.size 41 (.agg #[.int .i64 0, .int .i64 0]) 2 16 Try.underlying36 infoSpan rfl (by decide) w (w6.drewN nq) _ _ _ rfl (HO.out nq) [.int .i64 at_, .int .i64 f] rfl rfl rfl (by simp [Value.oneCell']) (by simp) (by simp) hB (drewN_below HBX.out nq) ?_); intro v' w7 ho hb7 hg7 _)
                    go_roundw
                    case rel => exact ⟨j, rfl, [] ++ [(at_, f)], (HM6.out.drewN nq).push ho hb7 hg7, HINV.out.put HGr.out HSw.out.sorted HGJ.out (by simpa using HNE.out) HQ.out HPOS.out (fun x hx => by cases hx)⟩
                    case measure => simp [intOf]; omega
                  · rw [List.concat_eq_append] at hout
                    subst hout
                    simp only [List.length_append, List.length_cons, List.length_nil, Nat.zero_add] at *
                    obtain ⟨go, co', hv, cl, fz, _, _, _⟩ := HM6.out.last
                    cases hv
                    have HLS := Lib.hid (fun n => (HM6.out.drewN n).last)
                    have HO := Lib.hid (fun n => (HM6.out.drewN n).outs)
                    have q5 : IntKind.i64.wrap (((l.length + 1 : Nat) : Int) - 1) = (l.length : Int) := by rw [IntWalk.i64_in _ (by omega)]; omega
                    have q6 : (0 : Int) < ((l.length + 1 : Nat) : Int) := by omega
                    have q7 : decide ((0 : Int) < ((l.length + 1 : Nat) : Int)) = true := decide_eq_true q6
                    have q8 : l.length < l.length + 1 := by omega
                    by_cases hl : s.2 = at_
                    · have q9 : (s.2 == at_) = true := by simpa using hl
                      have HLE := Lib.hid hl
                      clear hl
                      go_wp2_with fail
                      go_quiet (fail)
                      go_wp2_with fail
                      refine ⟨⟨j, rfl, l ++ [(s.1, f)], ?_, HINV.out.join HGr.out HSw.out.sorted HGJ.out (by simpa using HNE.out) HQ.out HLE.out⟩, by simp [intOf]; omega⟩
                      obtain ⟨go2, co2, hv2, _, _, _, _, hset⟩ := HLS.out nq
                      cases hv2
                      exact hset f
                    · have q9 : (s.2 == at_) = false := by simpa using hl
                      have HLE := Lib.hid hl
                      clear hl
                      go_wp2_with fail
                      go_quiet (fail)
                      go_wp2_with (at_builtin; go_must (refine append_one rfl _ _ 36 rfl w.heap.size 41 (.agg #[.int .i64 0, .int .i64 0]) 2 16 Try.underlying36 infoSpan rfl (by decide) w (w6.drewN nq) _ _ _ rfl (HO.out nq) [.int .i64 at_, .int .i64 f] rfl rfl rfl (by simp [Value.oneCell']) (by simp; omega) (by simp; omega) hB (drewN_below HBX.out nq) ?_); intro v' w7 ho hb7 hg7 _)
                      go_roundw
                      case rel => exact ⟨j, rfl, (l ++ [s]) ++ [(at_, f)], (HM6.out.drewN nq).push ho hb7 hg7, HINV.out.put HGr.out HSw.out.sorted HGJ.out (by simpa using HNE.out) HQ.out HPOS.out (fun x hx => by
                        obtain rfl : s = x := by simpa using hx
                        exact HLE.out)⟩
                      case measure => simp [intOf]; omega
            · obtain rfl : j = D.length := by omega
              have HM := Lib.hid HJ.out.mem
              have HGr := Lib.hid (show Grp D i D.length at_ from ⟨hlt, Nat.le_refl _, HJ.out.same, HFI.out⟩)
              have HAT3 := Lib.hid (show at_ ≤ 3000001 by
                have h1 := (HSw.out.mem HAA.out HAB.out D[i] (List.getElem_mem hlt)).2.1
                rwa [HFI.out _ (List.getElem?_eq_getElem hlt)] at h1)
              have HW0 := Lib.hid (show want (sumK 0 D) (sumK 1 D) = false by rw [HSw.out.total, HSw.out.total]; exact H0.out)
              go_wp2_with fail
              go_roundw
              case rel => exact ⟨D.length, rfl, out, HM.out, HINV.out.last HGr.out HSw.out.sorted HAT3.out HW0.out⟩
              case measure => simp [intOf]; omega
        · obtain rfl : i = D.length := by omega
          go_wp2_with fail
          rw [← HP.out]
          obtain ⟨hap, hcov⟩ := SwInv.done HS.out.inv
          refine ⟨⟨_, out, rfl, slice_of_owns encS HS.out.mem.outs (fun _ _ => rfl) (fun _ _ => rfl), hap, fun t => ?_⟩, HS.out.mem.below⟩
          obtain ⟨q0, q1⟩ := HSw.out.cnt HAA.out HAB.out t
          rw [hcov t, q0, q1]

end Go.Proofs.Ytjnaioellghggaa
