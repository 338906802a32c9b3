/- The walks of ratio.written and limited. -/
import Derived.Test.YtfoehmieklldkaaDoorReadN
import Derived.Test.YtfoehmieklldkaaDoorMean
import Derived.Deep.RegionHeld3
namespace Go.Proofs.YtfoehmieklldkaaDoor
open Go.RowKit

theorem infoRatioT : (Tryd.prog.info? 44).map (·.size) = some 2 := by kernel_rfl
def CellsTwo (B : Nat) (x y : Value) (W : World) : Prop := W.cell? ⟨B, 0, none⟩ = some x ∧ W.cell? ⟨B, 1, none⟩ = some y
theorem two_set {W : World} {B B' : Nat} {x y u v : Value} (h : W.cell? ⟨B, 0, none⟩ = some x ∧ W.cell? ⟨B, 1, none⟩ = some y) (hne : B' ≠ B) :
    ((W.setCell ⟨B', 0, none⟩ u).setCell ⟨B', 1, none⟩ v).cell? ⟨B, 0, none⟩ = some x ∧ ((W.setCell ⟨B', 0, none⟩ u).setCell ⟨B', 1, none⟩ v).cell? ⟨B, 1, none⟩ = some y :=
  ⟨(set_block hne).trans ((set_block hne).trans h.1), (set_block hne).trans ((set_block hne).trans h.2)⟩
theorem has_cells {w W : World} {B : Nat} {x y : Value} {t : TypeId} (h : Has w B #[x, y] t) (hb : Below w.heap.size w W) : W.cell? ⟨B, 0, none⟩ = some x ∧ W.cell? ⟨B, 1, none⟩ = some y :=
  ⟨(below_cell hb h.lt).trans (h.cell 0), (below_cell hb h.lt).trans (h.cell 1)⟩
theorem has_set2 {w : World} {B : Nat} {x y u v : Value} {t : TypeId} (h : Has w B #[x, y] t) : Has ((w.setCell ⟨B, 0, none⟩ u).setCell ⟨B, 1, none⟩ v) B #[u, v] t := by
  have h1 : Has (w.setCell ⟨B, 0, none⟩ u) B #[u, y] t := h.set 0 u
  exact h1.set 1 v
theorem below_set2 {b B : Nat} {w W : World} {u v : Value} (h : Below b w W) (hB : b ≤ B) : Below b w ((W.setCell ⟨B, 0, none⟩ u).setCell ⟨B, 1, none⟩ v) := by
  have e : Below b w (W.setCell ⟨B, 0, none⟩ u) := h.setCell hB _
  exact e.setCell hB _

def WrPost (n d : Nat) (w : World) (e : Ending) (w' : World) : Prop := e = .returned (.agg #[.string (bs (Lib.decDigits n)), .string (bs (Lib.decDigits d))]) ∧ Below w.heap.size w w'

set_option maxRecDepth 100000 in
set_option maxHeartbeats 2000000 in
theorem written_any (a1 a2 : Option Addr) (l1 c1 l2 c2 n d K : Nat) (w : World) (h1 : NatAt w (.slice a1 l1 c1) n K) (h2 : NatAt w (.slice a2 l2 c2) d K) (hK : K ≤ 50000) (hE : Env w) :
    Calls Tryd.prog 59 #[.agg #[.slice a1 l1 c1, .slice a2 l2 c2]] w (WrPost n d w) := by
  have H1 := Lib.hid h1
  have H2 := Lib.hid h2
  have HE := Lib.hid hE
  have hbx := box2 w #[.slice a1 l1 c1, .slice a2 l2 c2] #[.string ⟨#[]⟩, .string ⟨#[]⟩] 82 44
  clear h1 h2 hE
  go_enter Tryd.func59, Tryd.ntmps59
  go_upto_region 1 with fail
  generalize (w.alloc (.cells #[.slice a1 l1 c1, .slice a2 l2 c2] 82)).alloc (.cells #[.string ⟨#[]⟩, .string ⟨#[]⟩] 44) = w2 at *
  obtain ⟨hx, hy, hbl⟩ := hbx
  have HX := Lib.hid hx
  have HY := Lib.hid hy
  have HB2 := Lib.hid hbl
  have hne : w.heap.size + 1 ≠ w.heap.size := by omega
  have k0 := hx.cell 0
  have k1 := hx.cell 1
  have HKS := Lib.hid (fun W (hW : Below w2.heap.size w2 W) => has_cells hx hW)
  have HT1 := Lib.hid (fun W (hW : Below w2.heap.size w2 W) => text_any (.slice a1 l1 c1) n K W ((H1.out.below HB2.out).below hW) hK ((HE.out.below HB2.out).below hW))
  have HT2 := Lib.hid (fun W (hW : Below w2.heap.size w2 W) => text_any (.slice a2 l2 c2) d K W ((H2.out.below HB2.out).below hW) hK ((HE.out.below HB2.out).below hW))
  have z0 := fun W (hW : Below w2.heap.size w2 W) => (hy.below hW hy.lt).cell 0
  have HZ := Lib.hid z0
  clear hx hy hbl z0
  go_region_held3 (fun W => W.cell? ⟨w.heap.size, 0, none⟩ = some (.slice a1 l1 c1) ∧ W.cell? ⟨w.heap.size, 1, none⟩ = some (.slice a2 l2 c2))
    (first | exact HKS.out _ hB | exact HKS.out _ (Below.refl _ _).drew | exact two_set (HKS.out _ hB) hne)
    (first
      | (go_at_call 76; have hg := hn1; refine (HT2.out _ hB).mono ?_; rintro e w' ⟨rfl, hb⟩; have hB := below_up' hB hb; have hn2 := True.intro; have g0 := (HY.out.below hB HY.out.lt).cell 0; have g1 := (HY.out.below hB HY.out.lt).cell 1; have f0 := (HY.out.below hB HY.out.lt).fz 0; have f1 := (HY.out.below hB HY.out.lt).fz 1)
      | (go_at_call 76; refine (HT1.out _ (Below.refl _ _).drew).mono ?_; rintro e w' ⟨rfl, hb⟩; have hB := below_up' (Below.refl w2.heap.size w2).drew hb; have hn1 := True.intro))
  go_wp2
  refine bodyPost_ret (results_cell_row rfl _ _ (w.heap.size + 1) _ _ (0, 0) _ rfl (has_set2 (HY.out.below hB HY.out.lt)) Tryd.underlying44 rfl infoRatioT) rfl ?_
  exact ⟨rfl, below_set2 (below_up HB2.out hB HB2.out.size) (by omega)⟩

def Fits (n : Nat) : Prop := (Lib.decDigits n).length ≤ 20000
instance (n : Nat) : Decidable (Fits n) := inferInstanceAs (Decidable (_ ≤ _))
def LimPost (n d : Nat) (w : World) (e : Ending) (w' : World) : Prop :=
  ∃ x y code, e = .returned (.tuple #[.agg #[.string x, .string y], .int .i64 code]) ∧ Below w.heap.size w w' ∧
    ((code = 0 ∧ x = bs (Lib.decDigits n) ∧ y = bs (Lib.decDigits d) ∧ Fits n ∧ Fits d) ∨ (code = 4 ∧ x = ⟨#[]⟩ ∧ y = ⟨#[]⟩ ∧ ¬ (Fits n ∧ Fits d)))

set_option maxRecDepth 100000 in
set_option maxHeartbeats 2000000 in
theorem limited_any (a1 a2 : Option Addr) (l1 c1 l2 c2 n d K : Nat) (w : World) (h1 : NatAt w (.slice a1 l1 c1) n K) (h2 : NatAt w (.slice a2 l2 c2) d K) (hK : K ≤ 50000) (hE : Env w) :
    Calls Tryd.prog 46 #[.agg #[.slice a1 l1 c1, .slice a2 l2 c2]] w (LimPost n d w) := by
  have H1 := Lib.hid h1
  have H2 := Lib.hid h2
  have HE := Lib.hid hE
  have hbx := box2 w #[.slice a1 l1 c1, .slice a2 l2 c2] #[.string ⟨#[]⟩, .string ⟨#[]⟩] 82 44
  clear h1 h2 hE
  go_enter Tryd.func46, Tryd.ntmps46
  go_upto_region 1 with fail
  generalize (w.alloc (.cells #[.slice a1 l1 c1, .slice a2 l2 c2] 82)).alloc (.cells #[.string ⟨#[]⟩, .string ⟨#[]⟩] 44) = w2 at *
  obtain ⟨hx, hy, hbl⟩ := hbx
  have HX := Lib.hid hx
  have HY := Lib.hid hy
  have HB2 := Lib.hid hbl
  have k0 := hx.cell 0
  have k1 := hx.cell 1
  have HW := Lib.hid (written_any a1 a2 l1 c1 l2 c2 n d K w2 (H1.out.below HB2.out) (H2.out.below HB2.out) hK (HE.out.below HB2.out))
  clear hx hy hbl
  go_wp2_with fail
  refine HW.out.mono ?_
  rintro e w3 ⟨rfl, hb3⟩
  have HB3 := Lib.hid hb3
  have hy3 := HY.out.below hb3 HY.out.lt
  have HY3 := Lib.hid hy3
  have hlt3 := hy3.lt
  have g0 := hy3.cell 0
  have g1 := hy3.cell 1
  have f0 := hy3.fz 0
  have f1 := hy3.fz 1
  have hxs : (bs (Lib.decDigits n)).size = (Lib.decDigits n).length := bs_size _
  have hys : (bs (Lib.decDigits d)).size = (Lib.decDigits d).length := bs_size _
  obtain ⟨x, hxx⟩ : ∃ x, x = bs (Lib.decDigits n) := ⟨_, rfl⟩
  obtain ⟨y, hyy⟩ : ∃ y, y = bs (Lib.decDigits d) := ⟨_, rfl⟩
  rw [← hxx] at hxs ⊢
  rw [← hyy] at hys ⊢
  have HXX := Lib.hid (And.intro hxx (And.intro hxs (And.intro hyy hys)))
  have hbl3 : ∀ u v, Below w.heap.size w (((w3.setCell ⟨w.heap.size + 1, 0, none⟩ u).setCell ⟨w.heap.size + 1, 1, none⟩ v).alloc (.cells #[.string x, .string y] 44)) := fun u v =>
    (below_set2 (below_up HB2.out hb3 HB2.out.size) (by omega)).alloc (by simp; exact Nat.le_trans HB2.out.size hb3.size) _
  have HBL3 := Lib.hid hbl3
  clear hb3 hy3 hxx hyy hxs hys k0 k1 hbl3
  by_cases hx2 : 20000 < x.size
  · have r1 : decide ((20000 : Int) < (x.size : Int)) = true := by simp; omega
    have hnf : ¬ (Fits n ∧ Fits d) := by
      rintro ⟨h, _⟩
      unfold Fits at h
      rw [← HXX.out.2.1] at h
      omega
    have HNF := Lib.hid hnf
    clear hx2 hnf
    go_wp2_with fail
    refine bodyPost_ret (results_cell_tmp_row rfl _ _ (w.heap.size + 1) _ _ (0, 0) _ rfl ((has_set2 HY3.out).alloc _) Tryd.underlying44 rfl infoRatioT) rfl ?_
    exact ⟨_, _, _, rfl, HBL3.out _ _, .inr ⟨rfl, rfl, rfl, HNF.out⟩⟩
  · have r1 : decide ((20000 : Int) < (x.size : Int)) = false := by simp; omega
    by_cases hy2 : 20000 < y.size
    · have r2 : decide ((20000 : Int) < (y.size : Int)) = true := by simp; omega
      have hnf : ¬ (Fits n ∧ Fits d) := by
        rintro ⟨_, h⟩
        unfold Fits at h
        rw [← HXX.out.2.2.2] at h
        omega
      have HNF := Lib.hid hnf
      clear hx2 hy2 hnf
      go_wp2_with fail
      refine bodyPost_ret (results_cell_tmp_row rfl _ _ (w.heap.size + 1) _ _ (0, 0) _ rfl ((has_set2 HY3.out).alloc _) Tryd.underlying44 rfl infoRatioT) rfl ?_
      exact ⟨_, _, _, rfl, HBL3.out _ _, .inr ⟨rfl, rfl, rfl, HNF.out⟩⟩
    · have r2 : decide ((20000 : Int) < (y.size : Int)) = false := by simp; omega
      have hf : Fits n ∧ Fits d := by
        unfold Fits
        rw [← HXX.out.2.1, ← HXX.out.2.2.2]
        omega
      have HF := Lib.hid hf
      clear hx2 hy2 hf
      go_wp2_with fail
      refine bodyPost_ret (results_cell_tmp_row rfl _ _ (w.heap.size + 1) _ _ (0, 0) _ rfl ((has_set2 HY3.out).alloc _) Tryd.underlying44 rfl infoRatioT) rfl ?_
      exact ⟨_, _, _, rfl, HBL3.out _ _, .inl ⟨rfl, HXX.out.1, HXX.out.2.2.1, HF.out.1, HF.out.2⟩⟩

end Go.Proofs.YtfoehmieklldkaaDoor
