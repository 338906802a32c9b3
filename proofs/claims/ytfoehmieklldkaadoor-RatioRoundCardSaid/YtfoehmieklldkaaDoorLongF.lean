/- The walk of lowest: a ratio in lowest terms. -/
import Derived.Test.YtfoehmieklldkaaDoorLongE
import Derived.Test.YtfoehmieklldkaaDoorBlocked
namespace Go.Proofs.YtfoehmieklldkaaDoor
open Go.RowKit

/-- two numbers stored into a block of their own -/
theorem store2 {w w5 : World} {B K n d : Nat} {a1 a2 b1 b2 : Option Addr} {l1 c1 l2 c2 m1 e1 m2 e2 : Nat} (hx : Has w5 B #[.slice b1 m1 e1, .slice b2 m2 e2] 82) (h1 : NatAt w5 (.slice a1 l1 c1) n K) (h2 : NatAt w5 (.slice a2 l2 c2) d K) (hb : Below w.heap.size w w5) (hB : w.heap.size ≤ B) :
    NatAt ((w5.setCell ⟨B, 0, none⟩ (.slice a1 l1 c1)).setCell ⟨B, 1, none⟩ (.slice a2 l2 c2)) (.slice a1 l1 c1) n K ∧ NatAt ((w5.setCell ⟨B, 0, none⟩ (.slice a1 l1 c1)).setCell ⟨B, 1, none⟩ (.slice a2 l2 c2)) (.slice a2 l2 c2) d K ∧
      Below w.heap.size w ((w5.setCell ⟨B, 0, none⟩ (.slice a1 l1 c1)).setCell ⟨B, 1, none⟩ (.slice a2 l2 c2)) := by
  have hx2 : Has (w5.setCell ⟨B, 0, none⟩ (.slice a1 l1 c1)) B #[.slice a1 l1 c1, .slice b2 m2 e2] 82 := hx.set 0 _
  refine ⟨NatAt.set (NatAt.set h1 hx (no_ints2 _ _ _ _ _ _) _) hx2 (no_ints2 _ _ _ _ _ _) _, NatAt.set (NatAt.set h2 hx (no_ints2 _ _ _ _ _ _) _) hx2 (no_ints2 _ _ _ _ _ _) _, ?_⟩
  have e : Below w.heap.size w (w5.setCell ⟨B, 0, none⟩ (.slice a1 l1 c1)) := hb.setCell hB _
  exact e.setCell hB _
def LowPost (n d K : Nat) (w : World) (e : Ending) (w' : World) : Prop :=
  ∃ a1 l1 c1 a2 l2 c2, e = .returned (.agg #[.slice a1 l1 c1, .slice a2 l2 c2]) ∧ NatAt w' (.slice a1 l1 c1) (lowQ n d).1 K ∧ NatAt w' (.slice a2 l2 c2) (lowQ n d).2 K ∧ Below w.heap.size w w'

set_option maxRecDepth 100000 in
set_option maxHeartbeats 2000000 in
theorem lowest_any (u v : Value) (n d K : Nat) (w : World) (hu : NatAt w u n K) (hv : NatAt w v d K) (hK : K ≤ 50000) (h0 : 0 < d) :
    Calls Tryd.prog 47 #[u, v] w (LowPost n d K w) := by
  obtain ⟨a, l, c, rfl⟩ : ∃ a l c, u = .slice a l c := NatAt.slice hu
  obtain ⟨a', l', c', rfl⟩ : ∃ a l c, v = .slice a l c := NatAt.slice hv
  have HU := Lib.hid hu
  have HV := Lib.hid hv
  have hbx := box1 w #[.slice none 0 0, .slice none 0 0] 82
  have hg : 0 < Nat.gcd n d := Nat.gcd_pos_of_pos_right _ h0
  have HE1 := Lib.hid (show n / Nat.gcd n d = (lowQ n d).1 from rfl)
  have HE2 := Lib.hid (show d / Nat.gcd n d = (lowQ n d).2 from rfl)
  have HDV := Lib.hid (fun W h1 h2 => divisor_any (.slice a l c) (.slice a' l' c') n d K W h1 h2 hK)
  obtain ⟨g, hgg⟩ : ∃ g, g = Nat.gcd n d := ⟨_, rfl⟩
  rw [← hgg] at HDV HE1 HE2 hg
  clear hu hv hgg
  go_enter Tryd.func47, Tryd.ntmps47
  go_upto_region 1 with fail
  generalize w.alloc (.cells #[.slice none 0 0, .slice none 0 0] 82) = w2 at *
  obtain ⟨hx, hbl⟩ := hbx
  have HX := Lib.hid hx
  have HB2 := Lib.hid hbl
  clear hx hbl
  go_wp2_with fail
  refine (HDV.out w2 (HU.out.below HB2.out) (HV.out.below HB2.out)).mono ?_
  rintro e w3 ⟨a3, l3, c3, rfl, hn3, hb3⟩
  have HN3 := Lib.hid hn3
  have HB3 := Lib.hid (below_up HB2.out hb3 HB2.out.size)
  have HX3 := Lib.hid (HX.out.below hb3 HX.out.lt)
  have HQ1 := Lib.hid (by_any _ _ n g K w3 (HU.out.below HB3.out) hn3 hK hg)
  clear hn3 hb3
  go_wp2_with fail
  refine HQ1.out.mono ?_
  rintro e w4 ⟨a4, l4, c4, a5, l5, c5, rfl, hq4, _, hb4⟩
  have HN4 := Lib.hid hq4
  have HB4 := Lib.hid (below_up HB3.out hb4 HB3.out.size)
  have HX4 := Lib.hid (HX3.out.below hb4 HX3.out.lt)
  have HQ2 := Lib.hid (by_any _ _ d g K w4 (HV.out.below HB4.out) (HN3.out.below hb4) hK hg)
  clear hq4 hb4
  go_wp2_with fail
  refine HQ2.out.mono ?_
  rintro e w5 ⟨a6, l6, c6, a7, l7, c7, rfl, hq5, _, hb5⟩
  have HN5 := Lib.hid hq5
  have HN45 := Lib.hid (HN4.out.below hb5)
  have HB5 := Lib.hid (below_up HB4.out hb5 HB4.out.size)
  have hx5 := HX4.out.below hb5 HX4.out.lt
  have k0 := hx5.cell 0
  have k1 := hx5.cell 1
  have z0 := hx5.fz 0
  have z1 := hx5.fz 1
  have hfin := (hx5.set 0 (.slice a4 l4 c4)).set 1 (.slice a6 l6 c6)
  have HFI : Hid (Has ((w5.setCell ⟨w.heap.size, 0, none⟩ (.slice a4 l4 c4)).setCell ⟨w.heap.size, 1, none⟩ (.slice a6 l6 c6)) w.heap.size #[.slice a4 l4 c4, .slice a6 l6 c6] 82) := Lib.hid hfin
  have HST := Lib.hid (store2 hx5 HN45.out HN5.out HB5.out (Nat.le_refl _))
  clear hq5 hb5 hx5 hfin
  go_wp2_with fail
  refine bodyPost_ret (results_cell_row rfl _ _ w.heap.size _ _ (0, 0) _ rfl HFI.out Tryd.underlying82 rfl infoRatio) rfl ?_
  exact ⟨a4, l4, c4, a6, l6, c6, rfl, by rw [← HE1.out]; exact HST.out.1, by rw [← HE2.out]; exact HST.out.2.1, HST.out.2.2⟩

end Go.Proofs.YtfoehmieklldkaaDoor
