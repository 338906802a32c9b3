/- What lies in memory while staff.Roster goes on. -/
import Derived.Test.YtfoehmieklldkaaDoorFits
import Derived.Test.YtfoehmieklldkaaDoorFam
import Derived.Test.YtfoehmieklldkaaDoorShort
import Derived.WalkSmall
import Derived.Deep.RegionHeldLaw
import Derived.Deep.RegionLaw
namespace Go.Proofs.YtfoehmieklldkaaDoor
open Go.RowKit

def formCells (l : List FN) : List Value := l.flatMap fun x => [.int .i64 (x.f : Nat), .int .i64 (x.n : Nat)]
def dutyCells (l : List (Nat × Nat)) : List Value := l.flatMap fun d => [.int .i64 (d.1 : Nat), .int .i64 (d.2 : Nat)]
def dutyR (_ : World) (cs : List Value) (d : Nat × Nat) : Prop := cs = [.int .i64 (d.1 : Nat), .int .i64 (d.2 : Nat)]
theorem dutyR_stable : Stable dutyR := fun _ _ _ _ h _ => h
theorem duty_slice {w : World} {B : Nat} {v : Value} {g : List (Nat × Nat)} (h : w.ownsRow B 60 2 v g.length (dutyCells g)) : SliceAt 2 dutyR w v g :=
  slice_of_owns _ h (fun _ _ => rfl) (fun _ _ => rfl)
theorem form_slice {w : World} {B : Nat} {v : Value} {l : List FN} (h : w.ownsRow B 76 2 v l.length (formCells l)) : FormsAt w v l := by
  have h1 : w.ownsRow B 76 2 v (l.map FN.pair).length ((l.map FN.pair).flatMap fun x => [.int .i64 x.1, .int .i64 x.2]) := by
    rw [List.length_map, List.flatMap_map]
    exact h
  exact slice_of_owns _ h1 (fun _ _ => rfl) (fun _ _ => rfl)
theorem infoForm : (Tryd.prog.info? 76).map (fun i => (i.zero, i.size, i.bytes)) = some (some (.agg #[.int .i64 0, .int .i64 0]), 2, 16) := by kernel_rfl
theorem infoDuty : (Tryd.prog.info? 60).map (fun i => (i.zero, i.size, i.bytes)) = some (some (.agg #[.int .i64 0, .int .i64 0]), 2, 16) := by kernel_rfl
theorem infoForms : (Tryd.prog.info? 33).map (fun i => (i.zero, i.size, i.bytes)) = some (some (.slice none 0 0), 1, 24) := by kernel_rfl
theorem make_rows (w : World) (n : Nat) (hn : n ≤ 1000000) :
    (Instr.makeSlice 93 (.int .i64 (n : Int)) (.int .i64 (n : Int))).run Tryd.prog w = .ok (.slice (some ⟨w.heap.size, 0, none⟩) n n) (w.alloc (.cells (madeCells #[.slice none 0 0] n) 33)) := by
  obtain ⟨i0, hi, hz0, hz1, hz2⟩ := info_parts infoForms
  have h := run_make (P := Tryd.prog) w 93 33 i0 (.slice none 0 0) Tryd.underlying93 hi hz0 .i64 .i64 (n : Int) (n : Int) (by omega) (by omega) (by rw [hz2]; omega) (by omega)
  rw [h, hz1, Nat.mul_one]
  rfl
theorem madeNils (w : World) (n : Nat) (t : TypeId) : Has (w.alloc (.cells (madeCells #[.slice none 0 0] n) t)) w.heap.size ((List.range n).map fun _ => Value.slice none 0 0).toArray t := by
  have : (madeCells #[.slice none 0 0] n) = ((List.range n).map fun _ => Value.slice none 0 0).toArray := by
    apply Array.ext
    · simp [madeCells]
    · intro i h1 h2
      simp [madeCells, Nat.mod_one]
  rw [← this]
  exact Has.new _ _ _

/-- what lies in memory: the rows of the people's forms are those of gR, the slots those of gS, the given duties g -/
structure RoM (fs : List FN) (P R M : Nat) (w wr : World) (bx bh bs : Nat) (gv lv : Value) (gR gS g lf : List (Nat × Nat)) (V : Nat → Value) : Prop where
  kx : Has wr bx #[.int .i64 (P : Nat), .int .i64 (R : Nat), .int .i64 (M : Nat)] 50
  kh : Has wr bh ((List.range P).map V).toArray 33
  ks : IntsB wr bs ((List.range P).map fun p => ((loadN fs gS (p + 1) : Nat) : Int))
  rows : Rows wr w.heap.size 76 2 P V (fun p => (hasL fs gR (p + 1)).length) (fun p => formCells (hasL fs gR (p + 1)))
  gown : wr.ownsRow w.heap.size 60 2 gv g.length (dutyCells g)
  lown : wr.ownsRow w.heap.size 60 2 lv lf.length (dutyCells lf)
  ne : NE gv lv
  gx : w.heap.size ≤ bx
  gh : w.heap.size ≤ bh
  gs : w.heap.size ≤ bs
  below : Below w.heap.size w wr
structure RoInv (fs : List FN) (P R M : Nat) (w wr : World) (bx bh bs : Nat) (gv lv : Value) (g lf : List (Nat × Nat)) (V : Nat → Value) : Prop extends RoM fs P R M w wr bx bh bs gv lv g g g lf V where
  right : RightG fs P R M g
  load : ∀ p, loadN fs g p ≤ M
  lff : ∀ d ∈ lf, d.1 < fs.length
section
variable {fs : List FN} {P R M : Nat} {w wr wx : World} {bx bh bs : Nat} {gv lv : Value} {gR gS g lf : List (Nat × Nat)} {V : Nat → Value}
theorem RoM.below' (h : RoM fs P R M w wr bx bh bs gv lv gR gS g lf V) (hb : Below wr.heap.size wr wx) : RoM fs P R M w wx bx bh bs gv lv gR gS g lf V :=
  ⟨h.kx.below hb h.kx.lt, h.kh.below hb h.kh.lt, Has.below h.ks hb (Has.lt h.ks), h.rows.below hb, owns_below h.gown hb, owns_below h.lown hb, h.ne, h.gx, h.gh, h.gs, below_up h.below hb h.below.size⟩
theorem RoInv.below' (h : RoInv fs P R M w wr bx bh bs gv lv g lf V) (hb : Below wr.heap.size wr wx) : RoInv fs P R M w wx bx bh bs gv lv g lf V :=
  ⟨h.toRoM.below' hb, h.right, h.load, h.lff⟩
theorem RoM.addLeft (h : RoM fs P R M w wr bx bh bs gv lv gR gS g lf V) {i : Nat} {v' : Value}
    (ho : wx.ownsRow w.heap.size 60 2 v' (lf.length + 1) (dutyCells lf ++ [.int .i64 (i : Nat), .int .i64 0])) (hb : Below w.heap.size w wx) (hg : wr.grownBy wx lv.ownBlock) (hf : Fresh wr lv v') : RoM fs P R M w wx bx bh bs gv v' gR gS g (lf ++ [(i, 0)]) V := by
  refine ⟨h.kx.kept_own h.lown (by decide) hg, h.kh.kept_own h.lown (by decide) hg, Has.kept_own h.ks h.lown (by decide) hg, h.rows.kept_own h.lown (by decide) hg, h.gown.kept hg h.ne.symm.far, ?_, (h.ne.symm.fresh h.gown hf).symm, h.gx, h.gh, h.gs, hb⟩
  simpa [dutyCells] using ho
theorem RoM.addGiven (h : RoM fs P R M w wr bx bh bs gv lv gR gS g lf V) {i q : Nat} {v' : Value}
    (ho : wx.ownsRow w.heap.size 60 2 v' (g.length + 1) (dutyCells g ++ [.int .i64 (i : Nat), .int .i64 (q : Nat)])) (hb : Below w.heap.size w wx) (hg : wr.grownBy wx gv.ownBlock) (hf : Fresh wr gv v') : RoM fs P R M w wx bx bh bs v' lv gR gS (g ++ [(i, q)]) lf V := by
  refine ⟨h.kx.kept_own h.gown (by decide) hg, h.kh.kept_own h.gown (by decide) hg, Has.kept_own h.ks h.gown (by decide) hg, h.rows.kept_own h.gown (by decide) hg, ?_, h.lown.kept hg h.ne.far, h.ne.fresh h.lown hf, h.gx, h.gh, h.gs, hb⟩
  simpa [dutyCells] using ho
/-- the slots of person b + 1 are more by those of form i -/
theorem RoM.addSlots (h : RoM fs P R M w wr bx bh bs gv lv gR gS g lf V) {i b : Nat} (hb : b < P) {u : Int} (hu : u = ((loadN fs gS (b + 1) : Nat) : Int) + (((fOf fs i).n : Nat) : Int)) (hne1 : bs ≠ bx) (hne2 : bs ≠ bh) :
    RoM fs P R M w (wr.setCell ⟨bs, b, none⟩ (.int .i64 u)) bx bh bs gv lv gR (gS ++ [(i, b + 1)]) g lf V := by
  have hg := grownBy_set wr bs b (.int .i64 u)
  refine ⟨h.kx.set_other _ _ (Ne.symm hne1), h.kh.set_other _ _ (Ne.symm hne2), ?_, h.rows.kept_has h.ks (by decide) hg, owns_kept_has h.gown h.ks (by decide) hg, owns_kept_has h.lown h.ks (by decide) hg, h.ne, h.gx, h.gh, h.gs, h.below.setCell h.gs _⟩
  have hs := h.ks.set b u
  rw [map_updV _ _ _ _ hb] at hs
  have e : (List.range P).map (updV (fun p => ((loadN fs gS (p + 1) : Nat) : Int)) b u) = (List.range P).map fun p => ((loadN fs (gS ++ [(i, b + 1)]) (p + 1) : Nat) : Int) := by
    refine List.map_congr_left fun p _ => ?_
    rw [loadN_snoc]
    by_cases e : p = b
    · subst e
      rw [updV_at, if_pos rfl, hu]
      simp
    · rw [updV_ne _ _ e, if_neg (by omega)]
      simp
  rw [e] at hs
  exact hs
/-- the forms of person b + 1 are more by form i -/
theorem RoM.addRow {w6 : World} (h : RoM fs P R M w wr bx bh bs gv lv gR gS g lf V) {i b : Nat} (hb : b < P) {v' : Value}
    (ho : w6.ownsRow w.heap.size 76 2 v' ((hasL fs gR (b + 1)).length + 1) (formCells (hasL fs gR (b + 1)) ++ [.int .i64 ((fOf fs i).f : Nat), .int .i64 ((fOf fs i).n : Nat)])) (hbl : Below w.heap.size w w6) (hg : wr.grownBy w6 (V b).ownBlock) (hf : Fresh wr (V b) v')
    (hne1 : bh ≠ bx) (hne2 : bh ≠ bs) : RoM fs P R M w (w6.setCell ⟨bh, b, none⟩ v') bx bh bs gv lv (gR ++ [(i, b + 1)]) gS g lf (updV V b v') := by
  have hr := h.rows.own b hb
  have k1 := h.kx.kept_own hr (by decide) hg
  have k2 := h.kh.kept_own hr (by decide) hg
  have k3 := Has.kept_own h.ks hr (by decide) hg
  have k4 := owns_kept_own h.gown hr (by decide) hg
  have k5 := owns_kept_own h.lown hr (by decide) hg
  have k6 := h.rows.append hb ho hg hf
  have hs := grownBy_set w6 bh b v'
  refine ⟨k1.set_other _ _ (Ne.symm hne1), ?_, k3.set_other _ _ (Ne.symm hne2), ?_, owns_kept_has k4 k2 (by decide) hs, owns_kept_has k5 k2 (by decide) hs, h.ne, h.gx, h.gh, h.gs, hbl.setCell h.gh _⟩
  · have := k2.set b v'
    rw [show ((List.range P).map V).toArray.setIfInBounds b v' = ((List.range P).map (updV V b v')).toArray by rw [← map_updV _ _ _ _ hb]; simp] at this
    exact this
  · refine (k6.kept_has k2 (by decide) hs).congr (fun p _ => ?_) (fun p _ => ?_)
    · rw [hasL_snoc]
      by_cases e : p = b
      · subst e; rw [updV_at, if_pos rfl]; simp
      · rw [updV_ne _ _ e, if_neg (by omega)]
    · rw [hasL_snoc]
      by_cases e : p = b
      · subst e; rw [updV_at, if_pos rfl]; simp [formCells]
      · rw [updV_ne _ _ e, if_neg (by omega)]
end

theorem frozen_set (w : World) (a b : Addr) (v : Value) : (w.setCell a v).frozen? b = w.frozen? b := by simp
theorem own_ne_has {w : World} {B : Nat} {e : TypeId} {sz : Nat} {v : Value} {n : Nat} {xs : List Value} (h : w.ownsRow B e sz v n xs) {b : Nat} {cs : Array Value} {t : TypeId} (hb : Has w b cs t) (hte : t ≠ e) : v.ownBlock ≠ some b := by
  rcases h.2 with ⟨rfl, _⟩ | ⟨g, cap, cur, rfl, _, hg, _⟩
  · simp [Value.ownBlock]
  · simp only [Value.ownBlock, ne_eq, Option.some.injEq]
    rintro rfl
    have h' : w.heap[g]? = some (.cells cs t (0, 0)) := hb
    rw [h'] at hg
    cases hg
    exact hte rfl
structure FbInv (wr : World) (bf : Nat) (x : FN) (P : Nat) (V : Nat → Value) : Prop where
  hf : Has wr bf #[.int .i64 (x.f : Nat), .int .i64 (x.n : Nat)] 76
  nb : ∀ p, p < P → (V p).ownBlock ≠ some bf

theorem has_ne {w : World} {b c : Nat} {cs ds : Array Value} {t u : TypeId} (h : Has w b cs t) (k : Has w c ds u) (hne : t ≠ u) : b ≠ c := by
  rintro rfl
  have h1 : w.heap[b]? = some (.cells cs t (0, 0)) := h
  have h2 : w.heap[b]? = some (.cells ds u (0, 0)) := k
  rw [h1] at h2
  cases h2
  exact hne rfl
theorem addRow_all {fs : List FN} {P R M : Nat} {w wr W w6 : World} {bx bh bs bf : Nat} {gv lv : Value} {gR gS g lf : List (Nat × Nat)} {V : Nat → Value} {x : FN} {i b g' c' : Nat} {va : Option Addr} {vc : Nat}
    (h : RoM fs P R M w wr bx bh bs gv lv gR gS g lf V) (hfb : FbInv wr bf x P V) (hfx : fOf fs i = x) (hb : b < P) (hvb : V b = .slice va (hasL fs gR (b + 1)).length vc) (hW : Below wr.heap.size wr W)
    (ho : w6.ownsRow w.heap.size 76 2 (.slice (some ⟨g', 0, none⟩) ((hasL fs gR (b + 1)).length + 1) c') ((hasL fs gR (b + 1)).length + 1) (formCells (hasL fs gR (b + 1)) ++ [.int .i64 (x.f : Nat), .int .i64 (x.n : Nat)]))
    (hg : W.grownBy w6 (Value.slice va (hasL fs gR (b + 1)).length vc).ownBlock) (hat : (Value.slice va (hasL fs gR (b + 1)).length vc).ownBlock = some g' ∨ g' = wr.heap.size + 1) :
    ∃ v', v' = .slice (some ⟨g', 0, none⟩) ((hasL fs gR (b + 1)).length + 1) c' ∧ RoM fs P R M w (w6.setCell ⟨bh, b, none⟩ v') bx bh bs gv lv (gR ++ [(i, b + 1)]) gS g lf (updV V b v') ∧ FbInv (w6.setCell ⟨bh, b, none⟩ v') bf x P (updV V b v') := by
  rw [← hvb] at hg hat
  have hg2 : wr.grownBy w6 (V b).ownBlock := grownBy_trans (grownBy_of_below hW _) hg
  have hbl : Below w.heap.size w w6 := (below_up h.below hW h.below.size).grown hg (Nat.le_trans h.below.size hW.size) (fun k hk => ((h.rows.own b hb).lt k hk).1)
  have hf : Fresh wr (V b) (.slice (some ⟨g', 0, none⟩) ((hasL fs gR (b + 1)).length + 1) c') := by
    rcases hat with hat | hat
    · exact .inl hat.symm
    · exact .inr ⟨g', rfl, by omega⟩
  refine ⟨_, rfl, h.addRow hb (by rw [hfx]; exact ho) hbl hg2 hf (has_ne h.kh h.kx (by decide)) (has_ne h.kh h.ks (by decide)), ?_, fun p hp => ?_⟩
  · exact (hfb.hf.kept hg2 (Ne.symm (hfb.nb b hb))).set_other _ _ (has_ne hfb.hf h.kh (by decide))
  · by_cases e : p = b
    · subst e
      rw [updV_at]
      rcases hat with hat | hat
      · have := hfb.nb p hp
        rw [hat] at this
        exact this
      · have := hfb.hf.lt
        simp only [Value.ownBlock, ne_eq, Option.some.injEq]
        omega
    · rw [updV_ne _ _ e]
      exact hfb.nb p hp

end Go.Proofs.YtfoehmieklldkaaDoor
