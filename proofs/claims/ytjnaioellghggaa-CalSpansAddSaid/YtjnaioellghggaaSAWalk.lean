/- The walk of portkeep2.CalSpansAdd. -/
import Derived.Test.YtjnaioellghggaaComb
namespace Go.Proofs.Ytjnaioellghggaa
open Go.RowKit

theorem code_cell {w : World} {X : Nat} {c1 c2 c3 : Int} (h : Has w X #[.int .i64 c1, .int .i64 c2, .int .i64 c3] 30) (k : Nat) (hk : k < 3) : w.cell? ⟨X, k, none⟩ = some (.int .i64 ([c1, c2, c3].getD k 0)) := by
  match k, hk with
  | 0, _ => exact h.cell 0
  | 1, _ => exact h.cell 1
  | 2, _ => exact h.cell 2

/-- what is read again and again behind the four sets -/
structure FourAt (w W : World) (vu vm vx va : Value) (u m x a : List Sp) : Prop where
  below : Below w.heap.size w W
  u : Changes W vu u
  m : Changes W vm m
  x : Changes W vx x
  a : Changes W va a
theorem FourAt.to {w W W' : World} {vu vm vx va : Value} {u m x a : List Sp} (h : FourAt w W vu vm vx va u m x a) (hb : Below W.heap.size W W') : FourAt w W' vu vm vx va u m x a :=
  ⟨below_up h.below hb h.below.size, h.u.below hb, h.m.below hb, h.x.below hb, h.a.below hb⟩
set_option maxRecDepth 100000 in
set_option maxHeartbeats 4000000 in
theorem spans_walk (va vb : Value) (a b : List Sp) (w : World) (ha : Changes w va a) (hb : Changes w vb b) :
    Calls Try.prog 4 #[va, vb] w fun e w' => e = .returned (.bool true) ∧ Below w.heap.size w w' := by
  have HA := Lib.hid ha
  have HB := Lib.hid hb
  clear ha hb
  go_enter Try.func4, Try.ntmps4
  go_wp2_with fail
  refine (awake_any w).mono ?_
  rintro e w1 ⟨rfl, hb1⟩
  have HB1 := Lib.hid hb1
  clear hb1
  go_wp2_with fail
  refine (Union_any va vb a b w1 (HA.out.below HB1.out) (HB.out.below HB1.out)).mono ?_
  rintro e w2 ⟨⟨vu, cu, u, rfl, hch, hres⟩, hb2⟩
  obtain ⟨au, uc, rfl⟩ := SliceAt.len hch
  have HU := Lib.hid hch
  have HRU := Lib.hid hres
  have HB2 := Lib.hid (below_up HB1.out hb2 HB1.out.size)
  clear hch hres hb2
  by_cases hcu : cu = 0
  · subst hcu
    obtain ⟨oa, ob, ou, cvu⟩ := HRU.out.ok rfl
    have HOA := Lib.hid oa
    have HOB := Lib.hid ob
    have HOU := Lib.hid ou
    have HCU := Lib.hid cvu
    clear oa ob ou cvu HRU
    go_wp2_with fail
    refine (Meet_any va vb a b w2 (HA.out.below HB2.out) (HB.out.below HB2.out)).mono ?_
    rintro e w3 ⟨⟨vm, c1, m, rfl, hch, hres⟩, hb3⟩
    obtain ⟨am, mc, rfl⟩ := SliceAt.len hch
    have HM := Lib.hid hch
    have HRM := Lib.hid hres
    have HB3 := Lib.hid (below_up HB2.out hb3 HB2.out.size)
    have HU3 := Lib.hid (HU.out.below hb3)
    clear hch hres hb3
    go_wp2_with fail
    refine (Minus_any va vb a b w3 (HA.out.below HB3.out) (HB.out.below HB3.out)).mono ?_
    rintro e w4 ⟨⟨vx, c2, x, rfl, hch, hres⟩, hb4⟩
    obtain ⟨ax, xc, rfl⟩ := SliceAt.len hch
    have HX := Lib.hid hch
    have HRX := Lib.hid hres
    have HB4 := Lib.hid (below_up HB3.out hb4 HB3.out.size)
    have HU4 := Lib.hid (HU3.out.below hb4)
    have HM4 := Lib.hid (HM.out.below hb4)
    clear hch hres hb4
    go_wp2_with fail
    refine (Minus_any vb va b a w4 (HB.out.below HB4.out) (HA.out.below HB4.out)).mono ?_
    rintro e w5 ⟨⟨vy, c3, y, rfl, hch, hres⟩, hb5⟩
    obtain ⟨ay, yc, rfl⟩ := SliceAt.len hch
    have HY := Lib.hid hch
    have HRY := Lib.hid hres
    have HB5 := Lib.hid (below_up HB4.out hb5 HB4.out.size)
    have HU5 := Lib.hid (HU4.out.below hb5)
    have HM5 := Lib.hid (HM4.out.below hb5)
    have HX5 := Lib.hid (HX.out.below hb5)
    clear hch hres hb5
    have hbx := box1 w5 #[.int .i64 c1, .int .i64 c2, .int .i64 c3] 30
    have HC := Lib.hid hbx.1
    have HU6 := Lib.hid (HU5.out.below hbx.2)
    have HM6 := Lib.hid (HM5.out.below hbx.2)
    have HX6 := Lib.hid (HX5.out.below hbx.2)
    have HY6 := Lib.hid (HY.out.below hbx.2)
    have HB6 := Lib.hid (below_up HB5.out hbx.2 HB5.out.size)
    have HCS := Lib.hid (show ∀ k, k < 3 → [c1, c2, c3].getD k 0 = 0 ∨ [c1, c2, c3].getD k 0 = 4 by
      intro k hk
      match k, hk with
      | 0, _ => exact HRM.out.code HOA.out HOB.out
      | 1, _ => exact HRX.out.code HOA.out HOB.out
      | 2, _ => exact HRY.out.code HOB.out HOA.out)
    clear hbx
    go_wp2_with fail
    generalize w5.alloc (.cells #[.int .i64 c1, .int .i64 c2, .int .i64 c3] 30) = w6 at *
    generalize w5.heap.size = X at *
    have HCELL := Lib.hid (fun k hk => code_cell HC.out k hk)
    have HZ := Lib.hid (show [c1, c2, c3].getD 0 0 = 0 → [c1, c2, c3].getD 1 0 = 0 → [c1, c2, c3].getD 2 0 = 0 → c1 = 0 ∧ c2 = 0 ∧ c3 = 0 from fun p q r => ⟨p, q, r⟩)
    generalize [c1, c2, c3] = es at *
    go_loop [52] (fun iv => ∃ k : Nat, k ≤ 3 ∧ iv = .int .i64 k ∧ ∀ j, j < k → es.getD j 0 = 0) (fun iv => 3 - (intOf iv).toNat)
    case atStart => exact ⟨0, by omega, rfl, fun j hj => by omega⟩
    case round =>
      obtain ⟨k, hk, rfl, hall⟩ := hrel
      have HALL := Lib.hid hall
      clear hall
      by_cases hlt : k < 3
      · have qk : decide ((k : Int) < 3) = true := decide_eq_true (by omega)
        have kc := HCELL.out k hlt
        have hcode := HCS.out k hlt
        have HEK := Lib.hid (show ∀ x, x = es.getD k 0 → x = 0 → ∀ j, j < k + 1 → es.getD j 0 = 0 by
          rintro x rfl hx j hj
          by_cases h : j = k
          · rw [h]; exact hx
          · exact HALL.out j (by omega))
        generalize hck : es.getD k 0 = ck at *
        rcases hcode with rfl | rfl
        · have HE2 := Lib.hid (HEK.out 0 rfl rfl)
          clear hck
          go_wp2_with fail
          go_round
          case rel => exact ⟨k + 1, by omega, by go_num, HE2.out⟩
          case measure => simp [intOf]; omega
        · clear hck
          go_wp2_with fail
          go_ret
          exact ⟨rfl, HB6.out⟩
      · obtain rfl : k = 3 := by omega
        obtain ⟨rfl, rfl, rfl⟩ := HZ.out (HALL.out 0 (by omega)) (HALL.out 1 (by omega)) (HALL.out 2 (by omega))
        obtain ⟨_, _, om, cvm⟩ := HRM.out.ok rfl
        obtain ⟨_, _, ox, cvx⟩ := HRX.out.ok rfl
        obtain ⟨_, _, oy, cvy⟩ := HRY.out.ok rfl
        obtain ⟨s1, s2⟩ := spans_add HOA.out.2 HOU.out.2 om.2 ox.2 oy.2 HCU.out cvm cvx cvy
        have HOM := Lib.hid om
        have HOX := Lib.hid ox
        have HOY := Lib.hid oy
        have bm := lens_take om.2 m.length
        have bx := lens_take ox.2 x.length
        have by_ := lens_take oy.2 y.length
        rw [List.take_length] at bm bx by_
        have lu := fun W h => long_any (.slice au u.length uc) u W h HOU.out.2
        have lm := fun W h => long_any (.slice am m.length mc) m W h HOM.out.2
        have lx := fun W h => long_any (.slice ax x.length xc) x W h HOX.out.2
        have ly := fun W h => long_any (.slice ay y.length yc) y W h HOY.out.2
        have la := fun W h => long_any va a W h HOA.out.2
        generalize lens u = nu at *
        generalize lens m = nm at *
        generalize lens x = nx at *
        generalize lens y = ny at *
        generalize lens a = na at *
        subst s1
        subst s2
        have t1 : IntKind.i64.wrap (nm + nx) = nm + nx := IntWalk.i64_in _ (by omega)
        have t2 : IntKind.i64.wrap (nm + nx + ny) = nm + nx + ny := IntWalk.i64_in _ (by omega)
        have LU := Lib.hid lu
        have LM := Lib.hid lm
        have LX := Lib.hid lx
        have LY := Lib.hid ly
        have LA := Lib.hid la
        clear om cvm ox cvx oy cvy bm bx by_ lu lm lx ly la HRM HRX HRY HZ
        go_wp2_with fail
        have hy7 : Changes w6 (.slice ay y.length yc) y := HY6.out
        refine (LU.out w6 HU6.out).mono ?_
        rintro e w7 ⟨rfl, hb⟩
        have HY7 := Lib.hid (HY6.out.below hb)
        have H7 := Lib.hid ((show FourAt w w6 (.slice au u.length uc) (.slice am m.length mc) (.slice ax x.length xc) va u m x a from ⟨HB6.out, HU6.out, HM6.out, HX6.out, HA.out.below HB6.out⟩).to hb)
        clear hb hy7
        go_wp2_with fail
        refine (LM.out w7 H7.out.m).mono ?_
        rintro e w8 ⟨rfl, hb⟩
        have HY8 := Lib.hid (HY7.out.below hb)
        have H8 := Lib.hid (H7.out.to hb)
        clear hb
        go_wp2_with fail
        refine (LX.out w8 H8.out.x).mono ?_
        rintro e w9 ⟨rfl, hb⟩
        have HY9 := Lib.hid (HY8.out.below hb)
        have H9 := Lib.hid (H8.out.to hb)
        clear hb
        go_wp2_with fail
        refine (LY.out w9 HY9.out).mono ?_
        rintro e w10 ⟨rfl, hb⟩
        have H10 := Lib.hid (H9.out.to hb)
        clear hb
        go_wp2_with fail
        refine (LA.out w10 H10.out.a).mono ?_
        rintro e w11 ⟨rfl, hb⟩
        have H11 := Lib.hid (H10.out.to hb)
        clear hb
        go_wp2_with fail
        refine (LM.out w11 H11.out.m).mono ?_
        rintro e w12 ⟨rfl, hb⟩
        have H12 := Lib.hid (H11.out.to hb)
        clear hb
        go_wp2_with fail
        refine (LX.out w12 H12.out.x).mono ?_
        rintro e w13 ⟨rfl, hb⟩
        have H13 := Lib.hid (H12.out.to hb)
        clear hb
        go_wp2_with fail
        refine (CheckSpans_any _ u w13 H13.out.u).mono ?_
        rintro e w14 ⟨⟨ck, rfl, hck⟩, hb⟩
        obtain rfl := hck.2 HOU.out
        have H14 := Lib.hid (H13.out.to hb)
        clear hb hck
        go_wp2_with fail
        refine (CheckSpans_any _ x w14 H14.out.x).mono ?_
        rintro e w15 ⟨⟨ck, rfl, hck⟩, hb⟩
        obtain rfl := hck.2 HOX.out
        have H15 := Lib.hid (H14.out.to hb)
        clear hb hck
        go_wp2_with fail
        go_ret
        exact ⟨rfl, H15.out.below⟩
  · have q0 : (cu == 0) = false := by simpa using hcu
    have q1 : (cu != 0) = true := by simpa using hcu
    obtain rfl := HRU.out.nil hcu
    clear hcu
    go_wp2_with fail
    go_ret
    exact ⟨rfl, HB2.out⟩

end Go.Proofs.Ytjnaioellghggaa
