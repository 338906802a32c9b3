/- The walk of staff.longest. -/
import Derived.Test.YtfoehmieklldkaaDoorForms2
import Derived.Test.YtfoehmieklldkaaDoorPlanLaw
namespace Go.Proofs.YtfoehmieklldkaaDoor
open Go.RowKit

structure FN where
  f : Nat
  n : Nat
def FN.ok (x : FN) : Prop := x.f ≤ 399 ∧ 1 ≤ x.n ∧ x.f + x.n ≤ 400
def FN.pair (x : FN) : Int × Int := ((x.f : Int), (x.n : Int))
def fmOf (fs : List FN) (i : Nat) : Fm := ⟨(fs.getD i ⟨0, 0⟩).f, (fs.getD i ⟨0, 0⟩).f + (fs.getD i ⟨0, 0⟩).n⟩
theorem fmOf_at {fs : List FN} {i : Nat} (h : i < fs.length) : fmOf fs i = ⟨fs[i].f, fs[i].f + fs[i].n⟩ := by
  unfold fmOf
  simp [h]
theorem forms_nat : ∀ (l : List (Int × Int)), (∀ x ∈ l, FormOk x) → ∃ fs : List FN, l = fs.map FN.pair ∧ ∀ x ∈ fs, x.ok
  | [], _ => ⟨[], rfl, fun x h => by cases h⟩
  | y :: r, h => by
    obtain ⟨fs, e, h1⟩ := forms_nat r (fun x hx => h x (List.mem_cons_of_mem _ hx))
    obtain ⟨⟨g1, g2⟩, g3, g4⟩ := h y List.mem_cons_self
    refine ⟨⟨y.1.toNat, y.2.toNat⟩ :: fs, ?_, ?_⟩
    · rw [List.map_cons, ← e]
      congr 1
      obtain ⟨a, b⟩ := y
      simp only at g1 g3
      unfold FN.pair
      simp only
      rw [Int.toNat_of_nonneg g1, Int.toNat_of_nonneg (by omega)]
    · intro x hx
      rw [List.mem_cons] at hx
      rcases hx with rfl | hx
      · refine ⟨?_, ?_, ?_⟩ <;> simp only <;> omega
      · exact h1 x hx
/-- a slice of forms -/
def FormsAt (w : World) (v : Value) (fs : List FN) : Prop := SliceAt 2 formR w v (fs.map FN.pair)
theorem FormsAt.below {w w' : World} {v : Value} {fs : List FN} (h : FormsAt w v fs) (hb : Below w.heap.size w w') : FormsAt w' v fs := SliceAt.stable formR_stable h hb
theorem FormsAt.len {w : World} {v : Value} {fs : List FN} (h : FormsAt w v fs) : ∃ a c, v = .slice a fs.length c := by
  obtain ⟨a, c, e⟩ := SliceAt.len h
  exact ⟨a, c, by rw [e, List.length_map]⟩
theorem FormsAt.at {w : World} {v : Value} {fs : List FN} (h : FormsAt w v fs) (hl : 0 < fs.length) : ∃ b off cap, v = .slice (some ⟨b, off, none⟩) fs.length cap ∧ fs.length ≤ cap ∧ b < w.heap.size ∧
    ∀ i (hi : i < fs.length), w.cell? ⟨b, off + i * 2, none⟩ = some (.int .i64 (fs[i].f : Nat)) ∧ w.cell? ⟨b, off + i * 2 + 1, none⟩ = some (.int .i64 (fs[i].n : Nat)) := by
  obtain ⟨b, off, cap, hv, hc, hb, hel⟩ := SliceAt.at h (by simpa using hl)
  rw [List.length_map] at hv hc
  refine ⟨b, off, cap, hv, hc, hb, fun i hi => ?_⟩
  have := form_cells hel i (by simpa using hi)
  simpa [FN.pair] using this

def updB (F : Nat → Fm) (s i : Nat) : Bool := decide (hitB (F i) s = true ∧ (lngI F s i < 0 ∨ (F (lngI F s i).toNat).e < (F i).e))
theorem lngI_succ (F : Nat → Fm) (s i : Nat) : lngI F s (i + 1) = if updB F s i = true then (i : Int) else lngI F s i := by
  unfold updB
  simp only [lngI, decide_eq_true_eq]

structure LngInv (fs : List FN) (w wr : World) (s i : Nat) : Prop where
  le : i ≤ fs.length
  below : Below w.heap.size w wr

set_option maxRecDepth 100000 in
set_option maxHeartbeats 4000000 in
theorem longest_any (v : Value) (fs : List FN) (s : Nat) (w : World) (h : FormsAt w v fs) (hl : fs.length ≤ 60) (hok : ∀ x ∈ fs, x.ok) (hs : s ≤ 400) :
    Calls Tryd.prog 37 #[v, .int .i64 (s : Nat)] w fun e w' => e = .returned (.int .i64 (lngI (fmOf fs) s fs.length)) ∧ Below w.heap.size w w' := by
  obtain ⟨a, cap, rfl⟩ := h.len
  have H := Lib.hid h
  have HOK := Lib.hid hok
  clear h hok
  go_enter Tryd.func37, Tryd.ntmps37
  go_wp2_with fail
  go_loopw [5, 6, 7, 10] (fun bv _ _ iv wr => ∃ i : Nat, iv = .int .i64 i ∧ bv = .int .i64 (lngI (fmOf fs) s i) ∧ LngInv fs w wr s i) (fun _ _ _ iv _ => fs.length - (intOf iv).toNat)
  case atStart => exact ⟨0, rfl, rfl, Nat.zero_le _, Below.refl _ _⟩
  case round =>
    obtain ⟨i, rfl, rfl, hI⟩ := hrel
    have HI := Lib.hid hI
    have hi := hI.le
    clear hI
    by_cases hlt : i < fs.length
    · obtain ⟨b, off, cap', hv, hcap, hb, hel⟩ := H.out.at (by omega)
      cases hv
      obtain ⟨e0, e1⟩ := hel i hlt
      have c0 := (below_cell HI.out.below hb).trans e0
      have c1 := (below_cell HI.out.below hb).trans e1
      have hx := HOK.out fs[i] (List.getElem_mem hlt)
      have hF := fmOf_at hlt
      have hq := lngI_spec (fmOf fs) s i
      have hk1 : ∀ k : Nat, lngI (fmOf fs) s i = (k : Int) → k < fs.length ∧ wr.cell? ⟨b, off + k * 2, none⟩ = some (.int .i64 (fs.getD k ⟨0, 0⟩).f) ∧ wr.cell? ⟨b, off + k * 2 + 1, none⟩ = some (.int .i64 (fs.getD k ⟨0, 0⟩).n) ∧ (fmOf fs k).e = (fs.getD k ⟨0, 0⟩).f + (fs.getD k ⟨0, 0⟩).n ∧ (fs.getD k ⟨0, 0⟩).ok := fun k hk => by
        have hki : k < i := by
          rcases hq with ⟨g, _⟩ | ⟨k', g, g2⟩
          · omega
          · have : k' = k := by omega
            subst this; exact g2.1
        have hkl : k < fs.length := by omega
        obtain ⟨g0, g1⟩ := hel k hkl
        have e : fs.getD k ⟨0, 0⟩ = fs[k] := by simp [hkl]
        rw [e]
        exact ⟨hkl, (below_cell HI.out.below hb).trans g0, (below_cell HI.out.below hb).trans g1, by rw [fmOf_at hkl], HOK.out _ (List.getElem_mem hkl)⟩
      have hnx := lngI_succ (fmOf fs) s i
      have hub : ∀ bb : Bool, updB (fmOf fs) s i = bb ↔ decide ((fs[i].f ≤ s ∧ s < fs[i].f + fs[i].n) ∧ (lngI (fmOf fs) s i < 0 ∨ (fmOf fs (lngI (fmOf fs) s i).toNat).e < fs[i].f + fs[i].n)) = bb := fun bb => by
        unfold updB
        simp only [hF, hitB_iff]
      generalize fs[i] = x at *
      obtain ⟨xf, xn⟩ := x
      obtain ⟨o1, o2, o3⟩ := hx
      simp only at c0 c1 hub o1 o2 o3
      generalize hz : lngI (fmOf fs) s i = z at *
      have hz1 : z = -1 ∨ ∃ k : Nat, z = k := by
        rcases hq with ⟨g, _⟩ | ⟨k, g, _⟩
        · exact .inl g
        · exact .inr ⟨k, g⟩
      have HZ := Lib.hid hz
      have HNX := Lib.hid hnx
      have HK1 := Lib.hid hk1
      have HUB := Lib.hid hub
      have hbr : b < wr.heap.size := Nat.lt_of_lt_of_le hb HI.out.below.size
      clear hel e0 e1 hF hq hz hnx hk1 hub
      go_upto_region 5 with fail
      obtain ⟨bx, bb⟩ := box1 wr #[.int .i64 (xf : Nat), .int .i64 (xn : Nat)] 76
      have BX := Lib.hid bx
      have BB := Lib.hid bb
      have hbl2 := Lib.hid (below_up HI.out.below bb HI.out.below.size)
      have hbs : b < (wr.alloc (.cells #[.int .i64 (xf : Nat), .int .i64 (xn : Nat)] 76)).heap.size := Nat.lt_of_lt_of_le hbr bb.size
      generalize wr.alloc (.cells #[.int .i64 (xf : Nat), .int .i64 (xn : Nat)] 76) = wb at *
      generalize wr.heap.size = B at *
      have k0 : wb.cell? ⟨B, 0, none⟩ = some (.int .i64 (xf : Nat)) := BX.out.cell 0
      have k1 : wb.cell? ⟨B, 1, none⟩ = some (.int .i64 (xn : Nat)) := BX.out.cell 1
      have s0 : IntKind.i64.wrap ((xf : Int) + (xn : Int)) = (xf : Int) + (xn : Int) := IntWalk.i64_in _ (by omega)
      clear bx bb c0 c1
      go_cut [50] (fun t wx => t = .bool (updB (fmOf fs) s i) ∧ Below wb.heap.size wb wx)
      case first =>
        cases hu : updB (fmOf fs) s i with
        | true =>
          have HU := Lib.hid hu
          have hu2 := of_decide_eq_true ((HUB.out true).1 hu)
          obtain ⟨⟨u1, u2⟩, u3⟩ := hu2
          have d1 : decide (xf ≤ s) = true := by simpa using u1
          have d2 : decide ((s : Int) < (xf : Int) + (xn : Int)) = true := by simp; omega
          have d3 : decide (s < xf + xn) = true := by simpa using u2
          clear hu
          rcases hz1 with rfl | ⟨k, rfl⟩
          · go_quiet (fail)
            go_wp2
            go_meet
            exact ⟨by rw [HU.out], drewN_below (Below.refl _ _) _⟩
          · obtain ⟨j1, j2, j3, j4, j5⟩ := HK1.out k rfl
            rw [Int.toNat_natCast, j4] at u3
            generalize fs.getD k ⟨0, 0⟩ = y at *
            obtain ⟨yf, yn⟩ := y
            obtain ⟨p1, p2, p3⟩ := j5
            simp only at j2 j3 u3 p1 p2 p3
            have q0 := (below_cell BB.out hbr).trans j2
            have q1 := (below_cell BB.out hbr).trans j3
            have s1 : IntKind.i64.wrap ((yf : Int) + (yn : Int)) = (yf : Int) + (yn : Int) := IntWalk.i64_in _ (by omega)
            have d4 : decide ((yf : Int) + (yn : Int) < (xf : Int) + (xn : Int)) = true := by simp; omega
            have s2 : (0 : Int) ≤ (k : Int) := by omega
            have d5 : decide ((k : Int) < 0) = false := by simp
            clear j2 j3 j4
            go_quiet (fail)
            go_wp2
            go_meet
            refine ⟨?_, drewN_below (Below.refl _ _) _⟩
            rw [HU.out]
        | false =>
          have HU := Lib.hid hu
          have hu2 := of_decide_eq_false (((HUB.out false).1 hu))
          clear hu
          by_cases u1 : xf ≤ s
          · by_cases u2 : s < xf + xn
            · have d1 : decide (xf ≤ s) = true := by simpa using u1
              have d2 : decide ((s : Int) < (xf : Int) + (xn : Int)) = true := by simp; omega
              have d3 : decide (s < xf + xn) = true := by simpa using u2
              rcases hz1 with rfl | ⟨k, rfl⟩
              · exact absurd ⟨⟨u1, u2⟩, .inl (by omega)⟩ hu2
              · obtain ⟨j1, j2, j3, j4, j5⟩ := HK1.out k rfl
                rw [Int.toNat_natCast, j4] at hu2
                generalize fs.getD k ⟨0, 0⟩ = y at *
                obtain ⟨yf, yn⟩ := y
                obtain ⟨p1, p2, p3⟩ := j5
                simp only at j2 j3 hu2 p1 p2 p3
                have u3 : xf + xn ≤ yf + yn := by
                  rcases Nat.lt_or_ge (yf + yn) (xf + xn) with g | g
                  · exact absurd ⟨⟨u1, u2⟩, .inr g⟩ hu2
                  · exact g
                have q0 := (below_cell BB.out hbr).trans j2
                have q1 := (below_cell BB.out hbr).trans j3
                have s1 : IntKind.i64.wrap ((yf : Int) + (yn : Int)) = (yf : Int) + (yn : Int) := IntWalk.i64_in _ (by omega)
                have d4 : decide ((yf : Int) + (yn : Int) < (xf : Int) + (xn : Int)) = false := by simp; omega
                have s2 : (0 : Int) ≤ (k : Int) := by omega
                have d5 : decide ((k : Int) < 0) = false := by simp
                clear j2 j3 j4 hu2
                go_quiet (fail)
                go_wp2
                go_meet
                refine ⟨?_, drewN_below (Below.refl _ _) _⟩
                rw [HU.out]
            · have d1 : decide (xf ≤ s) = true := by simpa using u1
              have d2 : decide ((s : Int) < (xf : Int) + (xn : Int)) = false := by simp; omega
              have d3 : decide (s < xf + xn) = false := by simpa using u2
              clear hu2
              go_quiet (fail)
              go_wp2
              go_meet
              exact ⟨by rw [HU.out], drewN_below (Below.refl _ _) _⟩
          · have d1 : decide (xf ≤ s) = false := by simpa using u1
            clear hu2
            go_quiet (fail)
            go_wp2
            go_meet
            exact ⟨by rw [HU.out], drewN_below (Below.refl _ _) _⟩
      case rest =>
        obtain ⟨rfl, hbw⟩ := hcut
        have hbl3 := Lib.hid (below_up hbl2.out hbw hbl2.out.size)
        clear hbw k0 k1 s0
        cases hu : updB (fmOf fs) s i with
        | true =>
          have he := HNX.out
          rw [hu, if_pos rfl] at he
          have HE := Lib.hid he
          clear he hu
          go_wp2_with fail
          go_roundw
          case rel => exact ⟨i + 1, by go_num, by rw [HE.out], by omega, hbl3.out⟩
          case measure => simp [intOf]; omega
        | false =>
          have he := HNX.out
          rw [hu, if_neg (by simp)] at he
          have HE := Lib.hid he
          clear he hu
          go_wp2_with fail
          go_roundw
          case rel => exact ⟨i + 1, by go_num, by rw [HE.out], by omega, hbl3.out⟩
          case measure => simp [intOf]; omega
    · obtain rfl : i = fs.length := by omega
      go_wp2_with fail
      go_ret
      exact ⟨rfl, HI.out.below⟩

end Go.Proofs.YtfoehmieklldkaaDoor
