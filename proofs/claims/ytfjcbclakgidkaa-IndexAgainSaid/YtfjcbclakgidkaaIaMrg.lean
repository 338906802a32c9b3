/- The walks of know.merged: two lists of postings, two lists of terms. -/
import Derived.Test.YtfjcbclakgidkaaIaCmp
import Derived.Test.YtfjcbclakgidkaaCellRow
import Derived.Test.YtfjcbclakgidkaaOrd2
namespace Go.Proofs.Ytfjcbclakgidkaa
open Go.RowKit

abbrev PoV : Type := Int × Value × Value
def encPo (x : PoV) : List Value := [.int .i64 x.1, x.2.1, x.2.2]
theorem infoPo : (Try.prog.info? 57).map (fun i => (i.zero, i.size, i.bytes)) = some (some (.agg #[.int .i64 0, .slice none 0 0, .slice none 0 0]), 3, 56) := by kernel_rfl
structure MgPo (A B : List PoV) (w wr : World) (va vb ov : Value) (A2 B2 acc : List PoV) : Prop where
  a : RowsAt 3 w va (A2.map encPo)
  b : RowsAt 3 w vb (B2.map encPo)
  own : wr.ownsRow w.heap.size 57 3 ov acc.length (acc.flatMap encPo)
  eq : acc ++ mrg (fun x : PoV => x.1) A2 B2 = mrg (fun x : PoV => x.1) A B
  ina : ∀ x ∈ A2, x ∈ A
  inb : ∀ x ∈ B2, x ∈ B
  few : acc.length + A2.length + B2.length ≤ A.length + B.length
  below : Below w.heap.size w wr
set_option maxRecDepth 100000 in
set_option maxHeartbeats 8000000 in
theorem mergedPo (A B : List PoV) (va vb : Value) (w : World) (hA : RowsAt 3 w va (A.map encPo)) (hB : RowsAt 3 w vb (B.map encPo)) (h1A : ∀ x ∈ A, ∀ u ∈ encPo x, u.oneCell' = true) (h1B : ∀ x ∈ B, ∀ u ∈ encPo x, u.oneCell' = true) (hlA : A.length ≤ 100000000) (hlB : B.length ≤ 100000000) :
    Calls Try.prog 34 #[va, vb, .func (.func 35) #[] #[]] w fun e w' => (∃ v, e = .returned v ∧ w'.ownsRow w.heap.size 57 3 v (mrg (fun x : PoV => x.1) A B).length ((mrg (fun x : PoV => x.1) A B).flatMap encPo)) ∧ Below w.heap.size w w' := by
  have H1A := Lib.hid h1A
  have H1B := Lib.hid h1B
  have HI0 := Lib.hid (show MgPo A B w w va vb (.slice none 0 0) A B [] from ⟨hA, hB, World.ownsRow_nil _ _ _ _, rfl, fun _ h => h, fun _ h => h, by simp, Below.refl _ _⟩)
  clear hA hB h1A h1B
  go_enter Try.func34, Try.ntmps34
  go_wp2_with fail
  go_loopg [0, 1, 7] (A.length + B.length) (fun n va vb ov wr => ∃ A2 B2 acc, n = A2.length + B2.length ∧ MgPo A B w wr va vb ov A2 B2 acc)
  case atStart => exact ⟨A, B, [], rfl, HI0.out⟩
  case round =>
    obtain ⟨A2, B2, acc, rfl, hI⟩ := hrel
    have HI := Lib.hid hI
    obtain ⟨ua, uc, hva⟩ := SliceAt.len hI.a
    obtain ⟨ub, ud, hvb⟩ := SliceAt.len hI.b
    rw [List.length_map] at hva hvb
    subst hva
    subst hvb
    obtain ⟨oa, oc, rfl⟩ := owns_slice hI.own
    have hfew := hI.few
    have hB0 : w.heap.size ≤ wr.heap.size := hI.below.size
    clear hI HI0
    by_cases hne : A2 ≠ [] ∧ B2 ≠ []
    · obtain ⟨hne1, hne2⟩ := hne
      cases A2 with
      | nil => exact absurd rfl hne1
      | cons x A3 =>
      cases B2 with
      | nil => exact absurd rfl hne2
      | cons y B3 =>
      have hqa := HI.out.a
      have hqb := HI.out.b
      rw [List.map_cons] at hqa hqb
      obtain ⟨ka, fa, ca, hva, hca, hka0, hcx, hta⟩ := RowsAt.cons hqa
      obtain ⟨kb, fb, cb, hvb, hcb, hkb0, hcy, htb⟩ := RowsAt.cons hqb
      rw [List.length_map] at hva hvb hca hcb hta htb
      rw [List.length_cons] at hva hvb
      cases hva
      cases hvb
      have d0 := HI.out.below
      have hka : ka < wr.heap.size := Nat.lt_of_lt_of_le hka0 hB0
      have hkb : kb < wr.heap.size := Nat.lt_of_lt_of_le hkb0 hB0
      have c0 : wr.cell? ⟨ka, fa, none⟩ = some (.int .i64 x.1) := (below_cell d0 hka0).trans (hcx 0 (by show 0 < 3; decide))
      have d1 : wr.cell? ⟨kb, fb, none⟩ = some (.int .i64 y.1) := (below_cell d0 hkb0).trans (hcy 0 (by show 0 < 3; decide))
      have c1 : wr.cell? ⟨ka, fa + 1, none⟩ = some (x.2.1) := (below_cell d0 hka0).trans (hcx 1 (by show 1 < 3; decide))
      have d2 : wr.cell? ⟨kb, fb + 1, none⟩ = some (y.2.1) := (below_cell d0 hkb0).trans (hcy 1 (by show 1 < 3; decide))
      have c2 : wr.cell? ⟨ka, fa + 2, none⟩ = some (x.2.2) := (below_cell d0 hka0).trans (hcx 2 (by show 2 < 3; decide))
      have d3 : wr.cell? ⟨kb, fb + 2, none⟩ = some (y.2.2) := (below_cell d0 hkb0).trans (hcy 2 (by show 2 < 3; decide))
      have HTA := Lib.hid hta
      have HTB := Lib.hid htb
      clear hqa hqb hcx hcy d0 hta htb hne1 hne2
      have qa : decide ((0 : Int) < ((A3.length + 1 : Nat) : Int)) = true := decide_eq_true (by omega)
      have qb : decide ((0 : Int) < ((B3.length + 1 : Nat) : Int)) = true := decide_eq_true (by omega)
      go_upto_region 3 with fail
      go_cut [8] (fun v wx => v = .int .i64 (Lib.compareInt x.1 y.1) ∧ Below wr.heap.size wr wx)
      case first =>
        refine anyT_start (S := fun W : World => W.cell? ⟨ka, fa, none⟩ = some (.int .i64 x.1) ∧ W.cell? ⟨ka, fa + 1, none⟩ = some (x.2.1) ∧ W.cell? ⟨ka, fa + 2, none⟩ = some (x.2.2) ∧ W.cell? ⟨kb, fb, none⟩ = some (.int .i64 y.1) ∧ W.cell? ⟨kb, fb + 1, none⟩ = some (y.2.1) ∧ W.cell? ⟨kb, fb + 2, none⟩ = some (y.2.2)) (t := 9) (by kernel_rfl) ?_
        have hb0 := (Below.refl wr.heap.size wr).drew
        have HB0 := Lib.hid hb0
        clear hb0
        have hS0 : wr.drew.cell? ⟨ka, fa, none⟩ = some (.int .i64 x.1) ∧ wr.drew.cell? ⟨ka, fa + 1, none⟩ = some (x.2.1) ∧ wr.drew.cell? ⟨ka, fa + 2, none⟩ = some (x.2.2) ∧ wr.drew.cell? ⟨kb, fb, none⟩ = some (.int .i64 y.1) ∧ wr.drew.cell? ⟨kb, fb + 1, none⟩ = some (y.2.1) ∧ wr.drew.cell? ⟨kb, fb + 2, none⟩ = some (y.2.2) := ⟨c0, c1, c2, d1, d2, d3⟩
        generalize wr.drew = wd at *
        refine takeS (i := 0) (v := ?_) rfl rfl (by kernel_rfl) (by kernel_rfl) (by kernel_rfl) (fun _ _ _ h => h) (by decide) (by kernel_rfl) ?_ hS0 ?_
        rotate_left
        · intro w hSw; (try dsimp only at hSw); go_simp; (try with_reducible rfl)
        simp only [List.setIfInBounds_toArray, List.set_cons_zero, List.set_cons_succ]
        refine takeS (i := 1) (v := ?_) rfl rfl (by kernel_rfl) (by kernel_rfl) (by kernel_rfl) (fun _ _ _ h => h) (by decide) (by kernel_rfl) ?_ hS0 ?_
        rotate_left
        · intro w hSw; (try dsimp only at hSw); go_simp; (try with_reducible rfl)
        simp only [List.setIfInBounds_toArray, List.set_cons_zero, List.set_cons_succ]
        refine takeS (i := 2) (v := ?_) rfl rfl (by kernel_rfl) (by kernel_rfl) (by kernel_rfl) (fun _ _ _ h => h) (by decide) (by kernel_rfl) ?_ hS0 ?_
        rotate_left
        · intro w hSw; (try dsimp only at hSw); go_simp; (try with_reducible rfl)
        simp only [List.setIfInBounds_toArray, List.set_cons_zero, List.set_cons_succ]
        refine takeS (i := 3) (v := ?_) rfl rfl (by kernel_rfl) (by kernel_rfl) (by kernel_rfl) (fun _ _ _ h => h) (by decide) (by kernel_rfl) ?_ hS0 ?_
        rotate_left
        · intro w hSw; (try dsimp only at hSw); go_simp; (try with_reducible rfl)
        simp only [List.setIfInBounds_toArray, List.set_cons_zero, List.set_cons_succ]
        refine takeS (i := 4) (v := ?_) rfl rfl (by kernel_rfl) (by kernel_rfl) (by kernel_rfl) (fun _ _ _ h => h) (by decide) (by kernel_rfl) ?_ hS0 ?_
        rotate_left
        · intro w hSw; (try dsimp only at hSw); go_simp; (try with_reducible rfl)
        simp only [List.setIfInBounds_toArray, List.set_cons_zero, List.set_cons_succ]
        refine takeS (i := 5) (v := ?_) rfl rfl (by kernel_rfl) (by kernel_rfl) (by kernel_rfl) (fun _ _ _ h => h) (by decide) (by kernel_rfl) ?_ hS0 ?_
        rotate_left
        · intro w hSw; (try dsimp only at hSw); go_simp; (try with_reducible rfl)
        simp only [List.setIfInBounds_toArray, List.set_cons_zero, List.set_cons_succ]
        refine takeS (i := 6) (v := ?_) rfl rfl (by kernel_rfl) (by kernel_rfl) (by kernel_rfl) (fun _ _ _ h => h) (by decide) (by kernel_rfl) ?_ hS0 ?_
        rotate_left
        · intro w hSw; (try dsimp only at hSw); go_simp; (try with_reducible rfl)
        simp only [List.setIfInBounds_toArray, List.set_cons_zero, List.set_cons_succ]
        refine oneT (i := 7) rfl (by kernel_rfl) (fun K hK => ?_)
        go_simp
        refine (byId_any x.1 y.1 x.2.1 x.2.2 y.2.1 y.2.2 wd).mono ?_
        rintro e w4 ⟨rfl, hb4⟩
        have hb4q := below_up HB0.out hb4 HB0.out.size
        have HB4 := Lib.hid hb4q
        have hS4 : w4.cell? ⟨ka, fa, none⟩ = some (.int .i64 x.1) ∧ w4.cell? ⟨ka, fa + 1, none⟩ = some (x.2.1) ∧ w4.cell? ⟨ka, fa + 2, none⟩ = some (x.2.2) ∧ w4.cell? ⟨kb, fb, none⟩ = some (.int .i64 y.1) ∧ w4.cell? ⟨kb, fb + 1, none⟩ = some (y.2.1) ∧ w4.cell? ⟨kb, fb + 2, none⟩ = some (y.2.2) := ⟨(below_cell hb4q hka).trans c0, (below_cell hb4q hka).trans c1, (below_cell hb4q hka).trans c2, (below_cell hb4q hkb).trans d1, (below_cell hb4q hkb).trans d2, (below_cell hb4q hkb).trans d3⟩
        refine hK.out _ _ (fun _ => hS4) ?_
        clear hK hb4 hb4q
        try simp only [List.setIfInBounds_toArray, List.set_cons_zero, List.set_cons_succ, Act.put]
        refine oneT (i := 8) rfl (by kernel_rfl) (fun K hK => ?_)
        go_simp
        refine hK.out _ _ (fun _ => hS4) ?_
        clear hK
        try simp only [List.setIfInBounds_toArray, List.set_cons_zero, List.set_cons_succ, Act.put]
        refine doneT (by kernel_rfl) ?_ _
        go_wp2_with fail
        go_meet
        exact ⟨rfl, HB4.out⟩
      case rest =>
        obtain ⟨rfl, hbc⟩ := hcut
        have HBC := Lib.hid (HI.out.below.trans (hbc.mono hB0))
        have HO5 := Lib.hid (owns_below HI.out.own hbc)
        have hB5 : w.heap.size ≤ wc.heap.size := HBC.out.size
        have e0 := hbc
        replace c0 := (below_cell e0 hka).trans c0
        replace c1 := (below_cell e0 hka).trans c1
        replace c2 := (below_cell e0 hka).trans c2
        replace d1 := (below_cell e0 hkb).trans d1
        replace d2 := (below_cell e0 hkb).trans d2
        replace d3 := (below_cell e0 hkb).trans d3
        have HSP := Lib.hid (cmpInt_spec x.1 y.1)
        have HEQ := HI.out.eq
        have hxin := HI.out.ina x List.mem_cons_self
        have hyin := HI.out.inb y List.mem_cons_self
        have h1x := H1A.out x hxin
        have h1y := H1B.out y hyin
        have H1X := Lib.hid h1x
        have HINY := Lib.hid hyin
        have HINX := Lib.hid hxin
        have H1Y := Lib.hid h1y
        have HINA := Lib.hid (fun z (hz : z ∈ A3) => HI.out.ina z (List.mem_cons_of_mem _ hz))
        have HINB := Lib.hid (fun z (hz : z ∈ B3) => HI.out.inb z (List.mem_cons_of_mem _ hz))
        have HQA := Lib.hid HI.out.a
        have HQB := Lib.hid HI.out.b
        rw [mrg] at HEQ
        simp only [List.length_cons] at hfew
        clear e0 hbc hxin hyin h1x h1y HI
        generalize wc = w5 at *
        obtain ⟨z, hz⟩ : ∃ z : Int, z = Lib.compareInt x.1 y.1 := ⟨_, rfl⟩
        have HZ := HSP.out
        rw [← hz] at HZ ⊢
        clear hz HSP
        by_cases hlt : x.1 < y.1
        · have hz0 : decide (z < 0) = true := decide_eq_true (HZ.1.2 hlt)
          rw [if_pos hlt] at HEQ
          have HE := Lib.hid HEQ
          clear HZ HEQ
          go_wp2_with (at_builtin; go_must (refine append_one rfl _ _ 52 rfl w.heap.size 57 (.agg #[.int .i64 0, .slice none 0 0, .slice none 0 0]) 3 56 Try.underlying52 infoPo rfl (by decide) w5 w5 _ _ _ rfl HO5.out (encPo x) rfl rfl rfl (H1X.out) (by omega) (by omega) hB5 (Below.refl _ _) ?_); intro v' w6 ho hb6 hg6 hnn; obtain ⟨na, nc, rfl⟩ := owns_slice ho; have HO6 := Lib.hid ho; have HB6 := Lib.hid hb6; clear ho hb6 hg6 hnn)
          all_goals go_roundg (A3.length + (B3.length + 1))
          all_goals try (case measure => first | omega | (simp; done) | (simp; omega))
          all_goals (
            refine ⟨A3, y :: B3, acc ++ [x], rfl, (by first | exact HTA.out | exact RowsAt.stay (List.length_map _) (by omega)), HQB.out, ?_, ?_, HINA.out, fun z hz => ?_, ?_, HBC.out.trans HB6.out⟩
            · have h := HO6.out
              rw [List.length_append, List.flatMap_append]
              simpa using h
            · rw [List.append_assoc]
              exact HE.out
            · rcases List.mem_cons.1 hz with rfl | hz
              · exact HINY.out
              · exact HINB.out z hz
            · simp only [List.length_append, List.length_cons, List.length_nil]
              omega)
        · have hz0 : decide (z < 0) = false := decide_eq_false (fun q => hlt (HZ.1.1 q))
          rw [if_neg hlt] at HEQ
          by_cases heq : x.1 = y.1
          · have hz1 : (z == 0) = true := beq_iff_eq.2 (HZ.2.1.2 heq)
            rw [if_pos heq] at HEQ
            have HE := Lib.hid HEQ
            clear HZ HEQ
            go_wp2_with (at_builtin; go_must (refine append_one rfl _ _ 52 rfl w.heap.size 57 (.agg #[.int .i64 0, .slice none 0 0, .slice none 0 0]) 3 56 Try.underlying52 infoPo rfl (by decide) w5 w5 _ _ _ rfl HO5.out (encPo y) rfl rfl rfl (H1Y.out) (by omega) (by omega) hB5 (Below.refl _ _) ?_); intro v' w6 ho hb6 hg6 hnn; obtain ⟨na, nc, rfl⟩ := owns_slice ho; have HO6 := Lib.hid ho; have HB6 := Lib.hid hb6; clear ho hb6 hg6 hnn)
            all_goals go_roundg (A3.length + B3.length)
            all_goals try (case measure => first | omega | (simp; done) | (simp; omega))
            all_goals (
              refine ⟨A3, B3, acc ++ [y], rfl, (by first | exact HTA.out | exact RowsAt.stay (List.length_map _) (by omega)), (by first | exact HTB.out | exact RowsAt.stay (List.length_map _) (by omega)), ?_, ?_, fun z hz => ?_, HINB.out, ?_, HBC.out.trans HB6.out⟩
              · have h := HO6.out
                rw [List.length_append, List.flatMap_append]
                simpa using h
              · rw [List.append_assoc]
                exact HE.out
              · exact HINA.out z hz
              · simp only [List.length_append, List.length_cons, List.length_nil]
                omega)
          · have hz1 : (z == 0) = false := beq_eq_false_iff_ne.2 (fun q => heq (HZ.2.1.1 q))
            rw [if_neg heq] at HEQ
            have HE := Lib.hid HEQ
            clear HZ HEQ
            go_wp2_with (at_builtin; go_must (refine append_one rfl _ _ 52 rfl w.heap.size 57 (.agg #[.int .i64 0, .slice none 0 0, .slice none 0 0]) 3 56 Try.underlying52 infoPo rfl (by decide) w5 w5 _ _ _ rfl HO5.out (encPo y) rfl rfl rfl (H1Y.out) (by omega) (by omega) hB5 (Below.refl _ _) ?_); intro v' w6 ho hb6 hg6 hnn; obtain ⟨na, nc, rfl⟩ := owns_slice ho; have HO6 := Lib.hid ho; have HB6 := Lib.hid hb6; clear ho hb6 hg6 hnn)
            all_goals go_roundg ((A3.length + 1) + B3.length)
            all_goals try (case measure => first | omega | (simp; done) | (simp; omega))
            all_goals (
              refine ⟨x :: A3, B3, acc ++ [y], rfl, HQA.out, (by first | exact HTB.out | exact RowsAt.stay (List.length_map _) (by omega)), ?_, ?_, fun z hz => ?_, HINB.out, ?_, HBC.out.trans HB6.out⟩
              · have h := HO6.out
                rw [List.length_append, List.flatMap_append]
                simpa using h
              · rw [List.append_assoc]
                exact HE.out
              · rcases List.mem_cons.1 hz with rfl | hz
                · exact HINX.out
                · exact HINA.out z hz
              · simp only [List.length_append, List.length_cons, List.length_nil]
                omega)
    · have hap : mrg (fun x : PoV => x.1) A2 B2 = A2 ++ B2 := by
        cases A2 with
        | nil => rw [mrg]; rfl
        | cons x l =>
          cases B2 with
          | nil => rw [mrg, List.append_nil]
          | cons y r => exact absurd ⟨by simp, by simp⟩ hne
      have HEQ := Lib.hid (show (acc ++ A2) ++ B2 = mrg (fun x : PoV => x.1) A B by rw [List.append_assoc, ← hap]; exact HI.out.eq)
      have q1 : (decide ((0 : Int) < (A2.length : Int)) && decide ((0 : Int) < (B2.length : Int))) = false := by
        rw [Bool.and_eq_false_iff, decide_eq_false_iff_not, decide_eq_false_iff_not]
        by_cases g : A2 = []
        · left; rw [g]; simp
        · right
          have : B2 = [] := Classical.byContradiction fun e => hne ⟨g, e⟩
          rw [this]; simp
      have HA := Lib.hid (HI.out.a.below HI.out.below)
      have HO := Lib.hid HI.out.own
      have HBL := Lib.hid HI.out.below
      have H1 := Lib.hid (show ∀ r ∈ A2.map encPo, ∀ u ∈ r, u.oneCell' = true from fun r hr u hu => by
        obtain ⟨x, hx, rfl⟩ := List.mem_map.1 hr
        exact H1A.out x (HI.out.ina x hx) u hu)
      have H2 := Lib.hid (show ∀ r ∈ B2.map encPo, ∀ u ∈ r, u.oneCell' = true from fun r hr u hu => by
        obtain ⟨x, hx, rfl⟩ := List.mem_map.1 hr
        exact H1B.out x (HI.out.inb x hx) u hu)
      have HBB := Lib.hid HI.out.b
      have hlma : (A2.map encPo).length = A2.length := List.length_map _
      have hlmb : (B2.map encPo).length = B2.length := List.length_map _
      clear hap hne HI
      obtain ⟨ba, hba⟩ : ∃ ba, decide ((0 : Int) < (A2.length : Int)) = ba := ⟨_, rfl⟩
      obtain ⟨bb, hbb⟩ : ∃ bb, decide ((0 : Int) < (B2.length : Int)) = bb := ⟨_, rfl⟩
      rw [hba, hbb] at q1
      have hxy : ba = false ∨ ba = true ∧ bb = false := by cases ba <;> cases bb <;> simp_all
      clear q1
      have hba' : decide (0 < A2.length) = ba := by rw [← hba]; congr 1; apply propext; omega
      have hbb' : decide (0 < B2.length) = bb := by rw [← hbb]; congr 1; apply propext; omega
      rcases hxy with rfl | ⟨rfl, rfl⟩
      all_goals go_upto_region 11 with fail
      all_goals go_wp2_with (at_builtin; first | (have HQ := HO6; go_must (refine append_all rfl _ _ 52 rfl w.heap.size 57 (.agg #[.int .i64 0, .slice none 0 0, .slice none 0 0]) 3 56 Try.underlying52 infoPo rfl (by decide) w6 w6 v' (acc.length + (A2.map encPo).length) (acc.flatMap encPo ++ (A2.map encPo).flatMap id) rfl HO6.out ub ud (B2.map encPo) (by rw [hlmb]; rfl) (by rw [hlmb]; exact HBB.out.below (HBL.out.trans HB6.out)) H2.out (by omega) (by omega) (Nat.le_trans hB0 hB6) (Below.refl _ _) ?_); intro v2 w7 ho hb7; have HO7 := Lib.hid ho; have HB7 := Lib.hid hb7; clear ho hb7) | (refine append_all rfl _ _ 52 rfl w.heap.size 57 (.agg #[.int .i64 0, .slice none 0 0, .slice none 0 0]) 3 56 Try.underlying52 infoPo rfl (by decide) wr wr (.slice oa acc.length oc) acc.length (acc.flatMap encPo) rfl HO.out ua uc (A2.map encPo) (by rw [hlma]; rfl) (by rw [hlma]; exact HA.out) H1.out (by omega) (by omega) hB0 (Below.refl _ _) ?_; intro v' w6 ho hb6; have HO6 := Lib.hid ho; have HB6 := Lib.hid hb6; have hB6 : wr.heap.size ≤ w6.heap.size := hb6.size; clear ho hb6))
      all_goals go_ret
      all_goals (refine ⟨⟨_, rfl, ?_⟩, HBL.out.trans (HB6.out.trans HB7.out)⟩; have h := HO7.out; rw [← HEQ.out, List.flatMap_append, List.flatMap_append, List.length_append, List.length_append]; rw [hlma, hlmb] at h; simpa [List.flatMap_map] using h)

abbrev TmV : Type := List UInt8 × Value
def encTm (x : TmV) : List Value := [.string (bs x.1), x.2]
theorem infoTm : (Try.prog.info? 54).map (fun i => (i.zero, i.size, i.bytes)) = some (some (.agg #[.string ⟨#[]⟩, .slice none 0 0]), 2, 40) := by kernel_rfl
structure MgTm (A B : List TmV) (w wr : World) (va vb ov : Value) (A2 B2 acc : List TmV) : Prop where
  a : RowsAt 2 w va (A2.map encTm)
  b : RowsAt 2 w vb (B2.map encTm)
  own : wr.ownsRow w.heap.size 54 2 ov acc.length (acc.flatMap encTm)
  eq : acc ++ mrg (fun x : TmV => x.1) A2 B2 = mrg (fun x : TmV => x.1) A B
  ina : ∀ x ∈ A2, x ∈ A
  inb : ∀ x ∈ B2, x ∈ B
  few : acc.length + A2.length + B2.length ≤ A.length + B.length
  below : Below w.heap.size w wr
set_option maxRecDepth 100000 in
set_option maxHeartbeats 8000000 in
theorem mergedTm (A B : List TmV) (va vb : Value) (w : World) (hA : RowsAt 2 w va (A.map encTm)) (hB : RowsAt 2 w vb (B.map encTm)) (h1A : ∀ x ∈ A, ∀ u ∈ encTm x, u.oneCell' = true) (h1B : ∀ x ∈ B, ∀ u ∈ encTm x, u.oneCell' = true) (hlA : A.length ≤ 100000000) (hlB : B.length ≤ 100000000) :
    Calls Try.prog 38 #[va, vb, .func (.func 33) #[] #[]] w fun e w' => (∃ v, e = .returned v ∧ w'.ownsRow w.heap.size 54 2 v (mrg (fun x : TmV => x.1) A B).length ((mrg (fun x : TmV => x.1) A B).flatMap encTm)) ∧ Below w.heap.size w w' := by
  have H1A := Lib.hid h1A
  have H1B := Lib.hid h1B
  have HI0 := Lib.hid (show MgTm A B w w va vb (.slice none 0 0) A B [] from ⟨hA, hB, World.ownsRow_nil _ _ _ _, rfl, fun _ h => h, fun _ h => h, by simp, Below.refl _ _⟩)
  clear hA hB h1A h1B
  go_enter Try.func38, Try.ntmps38
  go_wp2_with fail
  go_loopg [0, 1, 7] (A.length + B.length) (fun n va vb ov wr => ∃ A2 B2 acc, n = A2.length + B2.length ∧ MgTm A B w wr va vb ov A2 B2 acc)
  case atStart => exact ⟨A, B, [], rfl, HI0.out⟩
  case round =>
    obtain ⟨A2, B2, acc, rfl, hI⟩ := hrel
    have HI := Lib.hid hI
    obtain ⟨ua, uc, hva⟩ := SliceAt.len hI.a
    obtain ⟨ub, ud, hvb⟩ := SliceAt.len hI.b
    rw [List.length_map] at hva hvb
    subst hva
    subst hvb
    obtain ⟨oa, oc, rfl⟩ := owns_slice hI.own
    have hfew := hI.few
    have hB0 : w.heap.size ≤ wr.heap.size := hI.below.size
    clear hI HI0
    by_cases hne : A2 ≠ [] ∧ B2 ≠ []
    · obtain ⟨hne1, hne2⟩ := hne
      cases A2 with
      | nil => exact absurd rfl hne1
      | cons x A3 =>
      cases B2 with
      | nil => exact absurd rfl hne2
      | cons y B3 =>
      have hqa := HI.out.a
      have hqb := HI.out.b
      rw [List.map_cons] at hqa hqb
      obtain ⟨ka, fa, ca, hva, hca, hka0, hcx, hta⟩ := RowsAt.cons hqa
      obtain ⟨kb, fb, cb, hvb, hcb, hkb0, hcy, htb⟩ := RowsAt.cons hqb
      rw [List.length_map] at hva hvb hca hcb hta htb
      rw [List.length_cons] at hva hvb
      cases hva
      cases hvb
      have d0 := HI.out.below
      have hka : ka < wr.heap.size := Nat.lt_of_lt_of_le hka0 hB0
      have hkb : kb < wr.heap.size := Nat.lt_of_lt_of_le hkb0 hB0
      have c0 : wr.cell? ⟨ka, fa, none⟩ = some (.string (bs x.1)) := (below_cell d0 hka0).trans (hcx 0 (by show 0 < 2; decide))
      have d1 : wr.cell? ⟨kb, fb, none⟩ = some (.string (bs y.1)) := (below_cell d0 hkb0).trans (hcy 0 (by show 0 < 2; decide))
      have c1 : wr.cell? ⟨ka, fa + 1, none⟩ = some (x.2) := (below_cell d0 hka0).trans (hcx 1 (by show 1 < 2; decide))
      have d2 : wr.cell? ⟨kb, fb + 1, none⟩ = some (y.2) := (below_cell d0 hkb0).trans (hcy 1 (by show 1 < 2; decide))
      have HTA := Lib.hid hta
      have HTB := Lib.hid htb
      clear hqa hqb hcx hcy d0 hta htb hne1 hne2
      have qa : decide ((0 : Int) < ((A3.length + 1 : Nat) : Int)) = true := decide_eq_true (by omega)
      have qb : decide ((0 : Int) < ((B3.length + 1 : Nat) : Int)) = true := decide_eq_true (by omega)
      go_upto_region 3 with fail
      go_cut [8] (fun v wx => v = .int .i64 (Lib.compareBytes x.1 y.1) ∧ Below wr.heap.size wr wx)
      case first =>
        refine anyT_start (S := fun W : World => W.cell? ⟨ka, fa, none⟩ = some (.string (bs x.1)) ∧ W.cell? ⟨ka, fa + 1, none⟩ = some (x.2) ∧ W.cell? ⟨kb, fb, none⟩ = some (.string (bs y.1)) ∧ W.cell? ⟨kb, fb + 1, none⟩ = some (y.2)) (t := 9) (by kernel_rfl) ?_
        have hb0 := (Below.refl wr.heap.size wr).drew
        have HB0 := Lib.hid hb0
        clear hb0
        have hS0 : wr.drew.cell? ⟨ka, fa, none⟩ = some (.string (bs x.1)) ∧ wr.drew.cell? ⟨ka, fa + 1, none⟩ = some (x.2) ∧ wr.drew.cell? ⟨kb, fb, none⟩ = some (.string (bs y.1)) ∧ wr.drew.cell? ⟨kb, fb + 1, none⟩ = some (y.2) := ⟨c0, c1, d1, d2⟩
        generalize wr.drew = wd at *
        refine takeS (i := 0) (v := ?_) rfl rfl (by kernel_rfl) (by kernel_rfl) (by kernel_rfl) (fun _ _ _ h => h) (by decide) (by kernel_rfl) ?_ hS0 ?_
        rotate_left
        · intro w hSw; (try dsimp only at hSw); go_simp; (try with_reducible rfl)
        simp only [List.setIfInBounds_toArray, List.set_cons_zero, List.set_cons_succ]
        refine takeS (i := 1) (v := ?_) rfl rfl (by kernel_rfl) (by kernel_rfl) (by kernel_rfl) (fun _ _ _ h => h) (by decide) (by kernel_rfl) ?_ hS0 ?_
        rotate_left
        · intro w hSw; (try dsimp only at hSw); go_simp; (try with_reducible rfl)
        simp only [List.setIfInBounds_toArray, List.set_cons_zero, List.set_cons_succ]
        refine takeS (i := 2) (v := ?_) rfl rfl (by kernel_rfl) (by kernel_rfl) (by kernel_rfl) (fun _ _ _ h => h) (by decide) (by kernel_rfl) ?_ hS0 ?_
        rotate_left
        · intro w hSw; (try dsimp only at hSw); go_simp; (try with_reducible rfl)
        simp only [List.setIfInBounds_toArray, List.set_cons_zero, List.set_cons_succ]
        refine takeS (i := 3) (v := ?_) rfl rfl (by kernel_rfl) (by kernel_rfl) (by kernel_rfl) (fun _ _ _ h => h) (by decide) (by kernel_rfl) ?_ hS0 ?_
        rotate_left
        · intro w hSw; (try dsimp only at hSw); go_simp; (try with_reducible rfl)
        simp only [List.setIfInBounds_toArray, List.set_cons_zero, List.set_cons_succ]
        refine takeS (i := 4) (v := ?_) rfl rfl (by kernel_rfl) (by kernel_rfl) (by kernel_rfl) (fun _ _ _ h => h) (by decide) (by kernel_rfl) ?_ hS0 ?_
        rotate_left
        · intro w hSw; (try dsimp only at hSw); go_simp; (try with_reducible rfl)
        simp only [List.setIfInBounds_toArray, List.set_cons_zero, List.set_cons_succ]
        refine takeS (i := 5) (v := ?_) rfl rfl (by kernel_rfl) (by kernel_rfl) (by kernel_rfl) (fun _ _ _ h => h) (by decide) (by kernel_rfl) ?_ hS0 ?_
        rotate_left
        · intro w hSw; (try dsimp only at hSw); go_simp; (try with_reducible rfl)
        simp only [List.setIfInBounds_toArray, List.set_cons_zero, List.set_cons_succ]
        refine takeS (i := 6) (v := ?_) rfl rfl (by kernel_rfl) (by kernel_rfl) (by kernel_rfl) (fun _ _ _ h => h) (by decide) (by kernel_rfl) ?_ hS0 ?_
        rotate_left
        · intro w hSw; (try dsimp only at hSw); go_simp; (try with_reducible rfl)
        simp only [List.setIfInBounds_toArray, List.set_cons_zero, List.set_cons_succ]
        refine oneT (i := 7) rfl (by kernel_rfl) (fun K hK => ?_)
        go_simp
        refine (byWord_any (bs x.1) (bs y.1) x.2 y.2 wd).mono ?_
        rintro e w4 ⟨rfl, hb4⟩
        have hb4q := below_up HB0.out hb4 HB0.out.size
        have HB4 := Lib.hid hb4q
        have hS4 : w4.cell? ⟨ka, fa, none⟩ = some (.string (bs x.1)) ∧ w4.cell? ⟨ka, fa + 1, none⟩ = some (x.2) ∧ w4.cell? ⟨kb, fb, none⟩ = some (.string (bs y.1)) ∧ w4.cell? ⟨kb, fb + 1, none⟩ = some (y.2) := ⟨(below_cell hb4q hka).trans c0, (below_cell hb4q hka).trans c1, (below_cell hb4q hkb).trans d1, (below_cell hb4q hkb).trans d2⟩
        refine hK.out _ _ (fun _ => hS4) ?_
        clear hK hb4 hb4q
        try simp only [List.setIfInBounds_toArray, List.set_cons_zero, List.set_cons_succ, Act.put]
        refine oneT (i := 8) rfl (by kernel_rfl) (fun K hK => ?_)
        go_simp
        refine hK.out _ _ (fun _ => hS4) ?_
        clear hK
        try simp only [List.setIfInBounds_toArray, List.set_cons_zero, List.set_cons_succ, Act.put]
        refine doneT (by kernel_rfl) ?_ _
        go_wp2_with fail
        go_meet
        exact ⟨rfl, HB4.out⟩
      case rest =>
        obtain ⟨rfl, hbc⟩ := hcut
        have HBC := Lib.hid (HI.out.below.trans (hbc.mono hB0))
        have HO5 := Lib.hid (owns_below HI.out.own hbc)
        have hB5 : w.heap.size ≤ wc.heap.size := HBC.out.size
        have e0 := hbc
        replace c0 := (below_cell e0 hka).trans c0
        replace c1 := (below_cell e0 hka).trans c1
        replace d1 := (below_cell e0 hkb).trans d1
        replace d2 := (below_cell e0 hkb).trans d2
        have HSP := Lib.hid (cmpBytes_spec x.1 y.1)
        have HEQ := HI.out.eq
        have hxin := HI.out.ina x List.mem_cons_self
        have hyin := HI.out.inb y List.mem_cons_self
        have h1x := H1A.out x hxin
        have h1y := H1B.out y hyin
        have H1X := Lib.hid h1x
        have HINY := Lib.hid hyin
        have HINX := Lib.hid hxin
        have H1Y := Lib.hid h1y
        have HINA := Lib.hid (fun z (hz : z ∈ A3) => HI.out.ina z (List.mem_cons_of_mem _ hz))
        have HINB := Lib.hid (fun z (hz : z ∈ B3) => HI.out.inb z (List.mem_cons_of_mem _ hz))
        have HQA := Lib.hid HI.out.a
        have HQB := Lib.hid HI.out.b
        rw [mrg] at HEQ
        simp only [List.length_cons] at hfew
        clear e0 hbc hxin hyin h1x h1y HI
        generalize wc = w5 at *
        obtain ⟨z, hz⟩ : ∃ z : Int, z = Lib.compareBytes x.1 y.1 := ⟨_, rfl⟩
        have HZ := HSP.out
        rw [← hz] at HZ ⊢
        clear hz HSP
        by_cases hlt : x.1 < y.1
        · have hz0 : decide (z < 0) = true := decide_eq_true (HZ.1.2 hlt)
          rw [if_pos hlt] at HEQ
          have HE := Lib.hid HEQ
          clear HZ HEQ
          go_wp2_with (at_builtin; go_must (refine append_one rfl _ _ 27 rfl w.heap.size 54 (.agg #[.string ⟨#[]⟩, .slice none 0 0]) 2 40 Try.underlying27 infoTm rfl (by decide) w5 w5 _ _ _ rfl HO5.out (encTm x) rfl rfl rfl (H1X.out) (by omega) (by omega) hB5 (Below.refl _ _) ?_); intro v' w6 ho hb6 hg6 hnn; obtain ⟨na, nc, rfl⟩ := owns_slice ho; have HO6 := Lib.hid ho; have HB6 := Lib.hid hb6; clear ho hb6 hg6 hnn)
          all_goals go_roundg (A3.length + (B3.length + 1))
          all_goals try (case measure => first | omega | (simp; done) | (simp; omega))
          all_goals (
            refine ⟨A3, y :: B3, acc ++ [x], rfl, (by first | exact HTA.out | exact RowsAt.stay (List.length_map _) (by omega)), HQB.out, ?_, ?_, HINA.out, fun z hz => ?_, ?_, HBC.out.trans HB6.out⟩
            · have h := HO6.out
              rw [List.length_append, List.flatMap_append]
              simpa using h
            · rw [List.append_assoc]
              exact HE.out
            · rcases List.mem_cons.1 hz with rfl | hz
              · exact HINY.out
              · exact HINB.out z hz
            · simp only [List.length_append, List.length_cons, List.length_nil]
              omega)
        · have hz0 : decide (z < 0) = false := decide_eq_false (fun q => hlt (HZ.1.1 q))
          rw [if_neg hlt] at HEQ
          by_cases heq : x.1 = y.1
          · have hz1 : (z == 0) = true := beq_iff_eq.2 (HZ.2.1.2 heq)
            rw [if_pos heq] at HEQ
            have HE := Lib.hid HEQ
            clear HZ HEQ
            go_wp2_with (at_builtin; go_must (refine append_one rfl _ _ 27 rfl w.heap.size 54 (.agg #[.string ⟨#[]⟩, .slice none 0 0]) 2 40 Try.underlying27 infoTm rfl (by decide) w5 w5 _ _ _ rfl HO5.out (encTm y) rfl rfl rfl (H1Y.out) (by omega) (by omega) hB5 (Below.refl _ _) ?_); intro v' w6 ho hb6 hg6 hnn; obtain ⟨na, nc, rfl⟩ := owns_slice ho; have HO6 := Lib.hid ho; have HB6 := Lib.hid hb6; clear ho hb6 hg6 hnn)
            all_goals go_roundg (A3.length + B3.length)
            all_goals try (case measure => first | omega | (simp; done) | (simp; omega))
            all_goals (
              refine ⟨A3, B3, acc ++ [y], rfl, (by first | exact HTA.out | exact RowsAt.stay (List.length_map _) (by omega)), (by first | exact HTB.out | exact RowsAt.stay (List.length_map _) (by omega)), ?_, ?_, fun z hz => ?_, HINB.out, ?_, HBC.out.trans HB6.out⟩
              · have h := HO6.out
                rw [List.length_append, List.flatMap_append]
                simpa using h
              · rw [List.append_assoc]
                exact HE.out
              · exact HINA.out z hz
              · simp only [List.length_append, List.length_cons, List.length_nil]
                omega)
          · have hz1 : (z == 0) = false := beq_eq_false_iff_ne.2 (fun q => heq (HZ.2.1.1 q))
            rw [if_neg heq] at HEQ
            have HE := Lib.hid HEQ
            clear HZ HEQ
            go_wp2_with (at_builtin; go_must (refine append_one rfl _ _ 27 rfl w.heap.size 54 (.agg #[.string ⟨#[]⟩, .slice none 0 0]) 2 40 Try.underlying27 infoTm rfl (by decide) w5 w5 _ _ _ rfl HO5.out (encTm y) rfl rfl rfl (H1Y.out) (by omega) (by omega) hB5 (Below.refl _ _) ?_); intro v' w6 ho hb6 hg6 hnn; obtain ⟨na, nc, rfl⟩ := owns_slice ho; have HO6 := Lib.hid ho; have HB6 := Lib.hid hb6; clear ho hb6 hg6 hnn)
            all_goals go_roundg ((A3.length + 1) + B3.length)
            all_goals try (case measure => first | omega | (simp; done) | (simp; omega))
            all_goals (
              refine ⟨x :: A3, B3, acc ++ [y], rfl, HQA.out, (by first | exact HTB.out | exact RowsAt.stay (List.length_map _) (by omega)), ?_, ?_, fun z hz => ?_, HINB.out, ?_, HBC.out.trans HB6.out⟩
              · have h := HO6.out
                rw [List.length_append, List.flatMap_append]
                simpa using h
              · rw [List.append_assoc]
                exact HE.out
              · rcases List.mem_cons.1 hz with rfl | hz
                · exact HINX.out
                · exact HINA.out z hz
              · simp only [List.length_append, List.length_cons, List.length_nil]
                omega)
    · have hap : mrg (fun x : TmV => x.1) A2 B2 = A2 ++ B2 := by
        cases A2 with
        | nil => rw [mrg]; rfl
        | cons x l =>
          cases B2 with
          | nil => rw [mrg, List.append_nil]
          | cons y r => exact absurd ⟨by simp, by simp⟩ hne
      have HEQ := Lib.hid (show (acc ++ A2) ++ B2 = mrg (fun x : TmV => x.1) A B by rw [List.append_assoc, ← hap]; exact HI.out.eq)
      have q1 : (decide ((0 : Int) < (A2.length : Int)) && decide ((0 : Int) < (B2.length : Int))) = false := by
        rw [Bool.and_eq_false_iff, decide_eq_false_iff_not, decide_eq_false_iff_not]
        by_cases g : A2 = []
        · left; rw [g]; simp
        · right
          have : B2 = [] := Classical.byContradiction fun e => hne ⟨g, e⟩
          rw [this]; simp
      have HA := Lib.hid (HI.out.a.below HI.out.below)
      have HO := Lib.hid HI.out.own
      have HBL := Lib.hid HI.out.below
      have H1 := Lib.hid (show ∀ r ∈ A2.map encTm, ∀ u ∈ r, u.oneCell' = true from fun r hr u hu => by
        obtain ⟨x, hx, rfl⟩ := List.mem_map.1 hr
        exact H1A.out x (HI.out.ina x hx) u hu)
      have H2 := Lib.hid (show ∀ r ∈ B2.map encTm, ∀ u ∈ r, u.oneCell' = true from fun r hr u hu => by
        obtain ⟨x, hx, rfl⟩ := List.mem_map.1 hr
        exact H1B.out x (HI.out.inb x hx) u hu)
      have HBB := Lib.hid HI.out.b
      have hlma : (A2.map encTm).length = A2.length := List.length_map _
      have hlmb : (B2.map encTm).length = B2.length := List.length_map _
      clear hap hne HI
      obtain ⟨ba, hba⟩ : ∃ ba, decide ((0 : Int) < (A2.length : Int)) = ba := ⟨_, rfl⟩
      obtain ⟨bb, hbb⟩ : ∃ bb, decide ((0 : Int) < (B2.length : Int)) = bb := ⟨_, rfl⟩
      rw [hba, hbb] at q1
      have hxy : ba = false ∨ ba = true ∧ bb = false := by cases ba <;> cases bb <;> simp_all
      clear q1
      have hba' : decide (0 < A2.length) = ba := by rw [← hba]; congr 1; apply propext; omega
      have hbb' : decide (0 < B2.length) = bb := by rw [← hbb]; congr 1; apply propext; omega
      rcases hxy with rfl | ⟨rfl, rfl⟩
      all_goals go_upto_region 11 with fail
      all_goals go_wp2_with (at_builtin; first | (have HQ := HO6; go_must (refine append_all rfl _ _ 27 rfl w.heap.size 54 (.agg #[.string ⟨#[]⟩, .slice none 0 0]) 2 40 Try.underlying27 infoTm rfl (by decide) w6 w6 v' (acc.length + (A2.map encTm).length) (acc.flatMap encTm ++ (A2.map encTm).flatMap id) rfl HO6.out ub ud (B2.map encTm) (by rw [hlmb]; rfl) (by rw [hlmb]; exact HBB.out.below (HBL.out.trans HB6.out)) H2.out (by omega) (by omega) (Nat.le_trans hB0 hB6) (Below.refl _ _) ?_); intro v2 w7 ho hb7; have HO7 := Lib.hid ho; have HB7 := Lib.hid hb7; clear ho hb7) | (refine append_all rfl _ _ 27 rfl w.heap.size 54 (.agg #[.string ⟨#[]⟩, .slice none 0 0]) 2 40 Try.underlying27 infoTm rfl (by decide) wr wr (.slice oa acc.length oc) acc.length (acc.flatMap encTm) rfl HO.out ua uc (A2.map encTm) (by rw [hlma]; rfl) (by rw [hlma]; exact HA.out) H1.out (by omega) (by omega) hB0 (Below.refl _ _) ?_; intro v' w6 ho hb6; have HO6 := Lib.hid ho; have HB6 := Lib.hid hb6; have hB6 : wr.heap.size ≤ w6.heap.size := hb6.size; clear ho hb6))
      all_goals go_ret
      all_goals (refine ⟨⟨_, rfl, ?_⟩, HBL.out.trans (HB6.out.trans HB7.out)⟩; have h := HO7.out; rw [← HEQ.out, List.flatMap_append, List.flatMap_append, List.length_append, List.length_append]; rw [hlma, hlmb] at h; simpa [List.flatMap_map] using h)
end Go.Proofs.Ytfjcbclakgidkaa
