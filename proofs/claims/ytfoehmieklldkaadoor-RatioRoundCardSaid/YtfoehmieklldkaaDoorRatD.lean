/- The walk of Times. -/
import Derived.Test.YtfoehmieklldkaaDoorRatC
import Derived.Test.YtfoehmieklldkaaDoorLongF
namespace Go.Proofs.YtfoehmieklldkaaDoor
open Go.RowKit

theorem box3 (w : World) (c1 c2 c3 : Array Value) (t1 t2 t3 : TypeId) :
    Has (((w.alloc (.cells c1 t1)).alloc (.cells c2 t2)).alloc (.cells c3 t3)) w.heap.size c1 t1 ∧
    Has (((w.alloc (.cells c1 t1)).alloc (.cells c2 t2)).alloc (.cells c3 t3)) (w.heap.size + 1) c2 t2 ∧
    Has (((w.alloc (.cells c1 t1)).alloc (.cells c2 t2)).alloc (.cells c3 t3)) (w.heap.size + 2) c3 t3 ∧
    Below w.heap.size w (((w.alloc (.cells c1 t1)).alloc (.cells c2 t2)).alloc (.cells c3 t3)) := by
  have h1 := Has.new w c1 t1
  have h2 := Has.new (w.alloc (.cells c1 t1)) c2 t2
  have h3 := Has.new ((w.alloc (.cells c1 t1)).alloc (.cells c2 t2)) c3 t3
  simp only [World.size_alloc] at h2 h3
  exact ⟨(h1.alloc _).alloc _, h2.alloc _, h3, (((Below.refl _ w).alloc (Nat.le_refl _) _).alloc (by simp) _).alloc (by simp; omega) _⟩

/-- the answer of Plus and Times: both texts of the ratio, or an error and the ratio of two empty texts -/
def OpPost (ok : Prop) (x : Nat × Nat) (w : World) (e : Ending) (w' : World) : Prop :=
  ∃ s t code, e = .returned (.tuple #[.agg #[.string s, .string t], .int .i64 code]) ∧ Below w.heap.size w w' ∧
    ((code ≠ 0 ∧ s = ⟨#[]⟩ ∧ t = ⟨#[]⟩ ∧ ¬ (ok ∧ Fits x.1 ∧ Fits x.2)) ∨ (code = 0 ∧ ok ∧ s = bs (Lib.decDigits x.1) ∧ t = bs (Lib.decDigits x.2) ∧ Fits x.1 ∧ Fits x.2))

/-- two numbers in a block of their own, at a slot -/
def OutQ (x : Nat × Nat) (w : World) (B : Nat) (wx : World) : Prop :=
  ∃ a1 l1 c1 a2 l2 c2, Has wx B #[.slice a1 l1 c1, .slice a2 l2 c2] 82 ∧ NatAt wx (.slice a1 l1 c1) x.1 2300 ∧ NatAt wx (.slice a2 l2 c2) x.2 2300 ∧ w.heap.size ≤ B
def Out2 (x y : Nat × Nat) (w : World) (u v : Value) (wx : World) : Prop :=
  ∃ B B', u = .pointer (some ⟨B, 0, none⟩) ∧ v = .pointer (some ⟨B', 0, none⟩) ∧ OutQ x w B wx ∧ OutQ y w B' wx ∧ Below w.heap.size w wx
abbrev zr : Obj := .cells #[.slice none 0 0, .slice none 0 0] 82
theorem new2_drew (w : World) : Has ((w.alloc zr).alloc zr).drew w.heap.size #[.slice none 0 0, .slice none 0 0] 82 ∧ Has ((w.alloc zr).alloc zr).drew (w.heap.size + 1) #[.slice none 0 0, .slice none 0 0] 82 :=
  ⟨(Has.new w #[.slice none 0 0, .slice none 0 0] 82).alloc zr, by
    have h := Has.new (w.alloc zr) #[.slice none 0 0, .slice none 0 0] 82
    rwa [World.size_alloc] at h⟩

theorem new2_at (w : World) : Has ((w.alloc zr).alloc zr) w.heap.size #[.slice none 0 0, .slice none 0 0] 82 ∧ Has ((w.alloc zr).alloc zr) (w.heap.size + 1) #[.slice none 0 0, .slice none 0 0] 82 := new2_drew w

section
variable {x y : Nat × Nat} {w w5 : World} {B B' : Nat} {a5 a6 a7 a8 : Option Addr} {l5 c5 l6 c6 l7 c7 l8 c8 : Nat}
theorem fin_set (h : Has w5 B #[.slice none 0 0, .slice none 0 0] 82) (h' : Has w5 B' #[.slice none 0 0, .slice none 0 0] 82) (hne : B ≠ B') (hb : Below w.heap.size w w5) (hB : w.heap.size ≤ B) (hB' : w.heap.size ≤ B')
    (m1 : NatAt w5 (.slice a5 l5 c5) x.1 2300) (m2 : NatAt w5 (.slice a6 l6 c6) x.2 2300) (m3 : NatAt w5 (.slice a7 l7 c7) y.1 2300) (m4 : NatAt w5 (.slice a8 l8 c8) y.2 2300) :
    Out2 x y w (.pointer (some ⟨B, 0, none⟩)) (.pointer (some ⟨B', 0, none⟩)) ((((w5.setCell ⟨B, 0, none⟩ (.slice a5 l5 c5)).setCell ⟨B, 1, none⟩ (.slice a6 l6 c6)).setCell ⟨B', 0, none⟩ (.slice a7 l7 c7)).setCell ⟨B', 1, none⟩ (.slice a8 l8 c8)) := by
  have HF := two_fin (a1 := a5) (l1 := l5) (c1 := c5) (a2 := a6) (l2 := l6) (c2 := c6) (a3 := a7) (l3 := l7) (c3 := c7) (a4 := a8) (l4 := l8) (c4 := c8) h h' hne hb hB hB'
  exact ⟨B, B', rfl, rfl, ⟨_, _, _, _, _, _, HF.1, HF.2.2.2 _ _ _ m1, HF.2.2.2 _ _ _ m2, hB⟩, ⟨_, _, _, _, _, _, HF.2.1, HF.2.2.2 _ _ _ m3, HF.2.2.2 _ _ _ m4, hB'⟩, HF.2.2.1⟩
theorem fin_mix (h' : Has w5 B' #[.slice none 0 0, .slice none 0 0] 82) (hb : Below w.heap.size w w5) (hB' : w.heap.size ≤ B')
    (m1 : NatAt w5 (.slice a5 l5 c5) x.1 2300) (m2 : NatAt w5 (.slice a6 l6 c6) x.2 2300) (m3 : NatAt w5 (.slice a7 l7 c7) y.1 2300) (m4 : NatAt w5 (.slice a8 l8 c8) y.2 2300) :
    Out2 x y w (.pointer (some ⟨w5.heap.size, 0, none⟩)) (.pointer (some ⟨B', 0, none⟩)) (((w5.alloc (.cells #[.slice a5 l5 c5, .slice a6 l6 c6] 82)).setCell ⟨B', 0, none⟩ (.slice a7 l7 c7)).setCell ⟨B', 1, none⟩ (.slice a8 l8 c8)) := by
  have hne : w5.heap.size ≠ B' := Ne.symm (Nat.ne_of_lt h'.lt)
  have k := h'.alloc (.cells #[.slice a5 l5 c5, .slice a6 l6 c6] 82)
  have k2 : Has ((w5.alloc (.cells #[.slice a5 l5 c5, .slice a6 l6 c6] 82)).setCell ⟨B', 0, none⟩ (.slice a7 l7 c7)) B' #[.slice a7 l7 c7, .slice none 0 0] 82 := k.set 0 _
  have hn : ∀ v n K, NatAt w5 v n K → NatAt (((w5.alloc (.cells #[.slice a5 l5 c5, .slice a6 l6 c6] 82)).setCell ⟨B', 0, none⟩ (.slice a7 l7 c7)).setCell ⟨B', 1, none⟩ (.slice a8 l8 c8)) v n K := fun v n K h =>
    NatAt.set (NatAt.set (h.below ((Below.refl _ _).alloc (Nat.le_refl _) _)) k (no_ints2 _ _ _ _ _ _) _) k2 (no_ints2 _ _ _ _ _ _) _
  have hx : Has (((w5.alloc (.cells #[.slice a5 l5 c5, .slice a6 l6 c6] 82)).setCell ⟨B', 0, none⟩ (.slice a7 l7 c7)).setCell ⟨B', 1, none⟩ (.slice a8 l8 c8)) w5.heap.size #[.slice a5 l5 c5, .slice a6 l6 c6] 82 :=
    ((Has.new w5 #[.slice a5 l5 c5, .slice a6 l6 c6] 82).set_other 0 (.slice a7 l7 c7) hne).set_other 1 (.slice a8 l8 c8) hne
  exact ⟨_, B', rfl, rfl, ⟨_, _, _, _, _, _, hx, hn _ _ _ m1, hn _ _ _ m2, hb.size⟩, ⟨_, _, _, _, _, _, k2.set 1 _, hn _ _ _ m3, hn _ _ _ m4, hB'⟩, below_set2 (hb.alloc hb.size _) hB'⟩
theorem fin_new (hb : Below w.heap.size w w5)
    (m1 : NatAt w5 (.slice a5 l5 c5) x.1 2300) (m2 : NatAt w5 (.slice a6 l6 c6) x.2 2300) (m3 : NatAt w5 (.slice a7 l7 c7) y.1 2300) (m4 : NatAt w5 (.slice a8 l8 c8) y.2 2300) :
    Out2 x y w (.pointer (some ⟨w5.heap.size, 0, none⟩)) (.pointer (some ⟨w5.heap.size + 1, 0, none⟩)) ((w5.alloc (.cells #[.slice a5 l5 c5, .slice a6 l6 c6] 82)).alloc (.cells #[.slice a7 l7 c7, .slice a8 l8 c8] 82)) ∧
    Out2 x y w (.pointer (some ⟨w5.heap.size + 1, 0, none⟩)) (.pointer (some ⟨w5.heap.size, 0, none⟩)) ((w5.alloc (.cells #[.slice a7 l7 c7, .slice a8 l8 c8] 82)).alloc (.cells #[.slice a5 l5 c5, .slice a6 l6 c6] 82)) := by
  have k1 := box2 w5 #[.slice a5 l5 c5, .slice a6 l6 c6] #[.slice a7 l7 c7, .slice a8 l8 c8] 82 82
  have k2 := box2 w5 #[.slice a7 l7 c7, .slice a8 l8 c8] #[.slice a5 l5 c5, .slice a6 l6 c6] 82 82
  have hs := hb.size
  exact ⟨⟨_, _, rfl, rfl, ⟨_, _, _, _, _, _, k1.1, m1.below k1.2.2, m2.below k1.2.2, hs⟩, ⟨_, _, _, _, _, _, k1.2.1, m3.below k1.2.2, m4.below k1.2.2, by omega⟩, below_up hb k1.2.2 hs⟩,
    ⟨_, _, rfl, rfl, ⟨_, _, _, _, _, _, k2.2.1, m1.below k2.2.2, m2.below k2.2.2, by omega⟩, ⟨_, _, _, _, _, _, k2.1, m3.below k2.2.2, m4.below k2.2.2, hs⟩, below_up hb k2.2.2 hs⟩⟩
end

set_option maxRecDepth 100000 in
set_option maxHeartbeats 20000000 in
theorem Times_any (s t s' t' : List UInt8) (w : World) (hE : Env w) :
    Calls Tryd.prog 18 #[.agg #[.string (bs s), .string (bs t)], .agg #[.string (bs s'), .string (bs t')]] w
      (OpPost (RatOk s t ∧ RatOk s' t') (timesQ (decV s) (decV t) (decV s') (decV t')) w) := by
  have hbx := box3 w #[.string (bs s), .string (bs t)] #[.string (bs s'), .string (bs t')] #[.string ⟨#[]⟩, .string ⟨#[]⟩] 44 44 44
  have HR := Lib.hid (fun W hW => two_any s t s' t' W hW)
  generalize bs s = zs at *
  generalize bs t = zt at *
  generalize bs s' = zs' at *
  generalize bs t' = zt' at *
  have HE := Lib.hid hE
  clear hE
  go_enter Tryd.func18, Tryd.ntmps18
  go_upto_region 1 with fail
  generalize ((w.alloc (.cells #[.string zs, .string zt] 44)).alloc (.cells #[.string zs', .string zt'] 44)).alloc (.cells #[.string ⟨#[]⟩, .string ⟨#[]⟩] 44) = w2 at *
  obtain ⟨h1, h2, h3, hbl⟩ := hbx
  have H1 := Lib.hid h1
  have H2 := Lib.hid h2
  have H3 := Lib.hid h3
  have HB2 := Lib.hid hbl
  have k0 := h1.cell 0
  have k1 := h1.cell 1
  have k2 := h2.cell 0
  have k3 := h2.cell 1
  clear h1 h2 h3 hbl
  go_wp2_with fail
  refine (HR.out w2 (HE.out.below HB2.out)).mono ?_
  rintro e w3 ⟨a1, l1, c1, a2, l2, c2, a3, l3, c3, a4, l4, c4, code, rfl, hb3, hcase⟩
  have HB3 := Lib.hid hb3
  have HCA := Lib.hid hcase
  clear hb3 hcase k0 k1 k2 k3
  go_upto_region 2 with fail
  have hbx2 := box2 w3 #[.slice a1 l1 c1, .slice a2 l2 c2] #[.slice a3 l3 c3, .slice a4 l4 c4] 82 82
  have hlt3 : w.heap.size + 2 < w3.heap.size := Nat.lt_of_lt_of_le H3.out.lt HB3.out.size
  have hB3s := Nat.le_trans HB2.out.size HB3.out.size
  generalize (w3.alloc (.cells #[.slice a1 l1 c1, .slice a2 l2 c2] 82)).alloc (.cells #[.slice a3 l3 c3, .slice a4 l4 c4] 82) = w4 at *
  obtain ⟨h5, h6, hb34⟩ := hbx2
  have H5 := Lib.hid h5
  have H6 := Lib.hid h6
  have HB34 := Lib.hid hb34
  have HB4 := Lib.hid (below_up (below_up HB2.out HB3.out HB2.out.size) hb34 hB3s)
  have H3' := Lib.hid (H3.out.below (below_up' HB3.out hb34) H3.out.lt)
  clear h5 h6 hb34
  rcases HCA.out with ⟨hcode, hno⟩ | ⟨rfl, hok, hok', hn1, hn2, hn3, hn4⟩
  · have q0 : (code == 0) = false := by simpa using hcode
    have q1 : (code != 0) = true := by simpa using hcode
    have HNO := Lib.hid (And.intro hcode hno)
    have y0 := H3'.out.cell 0
    have y1 := H3'.out.cell 1
    have y2 := H3'.out.fz 0
    have y3 := H3'.out.fz 1
    clear hcode hno
    go_wp2_with fail
    refine bodyPost_ret (results_cell_tmp_row rfl _ _ (w.heap.size + 2) _ _ (0, 0) _ rfl (has_set2 H3'.out) Tryd.underlying44 rfl infoRatioT) rfl ?_
    exact ⟨_, _, _, rfl, below_set2 HB4.out (by omega), .inl ⟨HNO.out.1, rfl, rfl, fun h => HNO.out.2 h.1⟩⟩
  · have HOK := Lib.hid (And.intro hok hok')
    have HN1 := Lib.hid (hn1.below HB34.out)
    have HN2 := Lib.hid (hn2.below HB34.out)
    have HN3 := Lib.hid (hn3.below HB34.out)
    have HN4 := Lib.hid (hn4.below HB34.out)
    clear hok hok' hn1 hn2 hn3 hn4 HCA
    go_upto_region 4 with fail
    have HK := Lib.hid (fun W (hW : Below w4.heap.size w4 W) => And.intro (has_cells H5.out hW) (has_cells H6.out hW))
    have HL1 := Lib.hid (fun W (hW : Below w4.heap.size w4 W) => lowest_any _ _ _ _ 2300 W (HN1.out.below hW) (HN4.out.below hW) (by omega) HOK.out.2.pos)
    have HL2 := Lib.hid (fun W (hW : Below w4.heap.size w4 W) => lowest_any _ _ _ _ 2300 W (HN3.out.below hW) (HN2.out.below hW) (by omega) HOK.out.1.pos)
    generalize w3.heap.size = B7 at *
    go_cut [9, 10] (Out2 (lowQ (decV s) (decV t')) (lowQ (decV s') (decV t)) w4)
    case first =>
      go_region_held3 (fun W => (W.cell? ⟨B7, 0, none⟩ = some (.slice a1 l1 c1) ∧ W.cell? ⟨B7, 1, none⟩ = some (.slice a2 l2 c2)) ∧ (W.cell? ⟨B7 + 1, 0, none⟩ = some (.slice a3 l3 c3) ∧ W.cell? ⟨B7 + 1, 1, none⟩ = some (.slice a4 l4 c4)))
        (first
          | exact HK.out _ hB
          | exact HK.out _ (hB.alloc hB.size _)
          | exact HK.out _ ((hB.alloc hB.size _).alloc (Nat.le_trans hB.size (by simp)) _)
          | exact HK.out _ (below_set2 hB (by omega))
          | exact HK.out _ (below_set2 (hB.alloc hB.size _) (by omega))
          | exact HK.out _ (below_set2 ((hB.alloc hB.size _).alloc (Nat.le_trans hB.size (by simp)) _) (by omega))
          | exact HK.out _ (below_set2 (below_set2 hB (by omega)) (by omega))
          | exact HK.out _ (below_set2 (below_set2 (hB.alloc hB.size _) (by omega)) (by omega))
          | exact HK.out _ (below_set2 (below_set2 ((hB.alloc hB.size _).alloc (Nat.le_trans hB.size (by simp)) _) (by omega)) (by omega))
          | exact HK.out _ (Below.refl _ _).drew
          | exact HK.out _ ((Below.refl w4.heap.size w4).alloc (Nat.le_refl _) _).drew
          | exact HK.out _ (((Below.refl w4.heap.size w4).alloc (Nat.le_refl _) _).alloc (by simp) _).drew)
        (first
          | (go_at_call 47
             have hg := hn1
             (first
              | (have hW := hB; refine (HL2.out _ hW).mono ?_)
              | (have hW := hB.alloc hB.size zr; refine (HL2.out _ hW).mono ?_)
              | (have hW := (hB.alloc hB.size zr).alloc (Nat.le_trans hB.size (by simp)) zr; refine (HL2.out _ hW).mono ?_))
             rintro e w' ⟨a7, l7, c7, a8, l8, c8, rfl, hm3, hm4, hb2⟩
             have hn2 := True.intro
             (first
              | ((have hh3 := HH1.out.below hb2 HH1.out.lt; have o30 := hh3.cell 0; have o31 := hh3.cell 1; have o32 := hh3.fz 0; have o33 := hh3.fz 1; have ne3 := Nat.ne_of_lt hh3.lt; have q30 := fun o => (hh3.alloc o).fz 0; have p30 := fun o => (hh3.alloc o).cell 0; have p31 := fun o => (hh3.alloc o).cell 1; have q31 := fun o => (hh3.alloc o).fz 1; have nf3 := Ne.symm ne3; have HH3 := Lib.hid hh3; clear hh3); (have hh4 := HH2.out.below hb2 HH2.out.lt; have o40 := hh4.cell 0; have o41 := hh4.cell 1; have o42 := hh4.fz 0; have o43 := hh4.fz 1; have ne4 := Nat.ne_of_lt hh4.lt; have q40 := fun o => (hh4.alloc o).fz 0; have p40 := fun o => (hh4.alloc o).cell 0; have p41 := fun o => (hh4.alloc o).cell 1; have q41 := fun o => (hh4.alloc o).fz 1; have nf4 := Ne.symm ne4; have HH4 := Lib.hid hh4; clear hh4))
              | ((have hh3 := (HH1.out.alloc zr).below hb2 (HH1.out.alloc zr).lt; have o30 := hh3.cell 0; have o31 := hh3.cell 1; have o32 := hh3.fz 0; have o33 := hh3.fz 1; have ne3 := Nat.ne_of_lt hh3.lt; have q30 := fun o => (hh3.alloc o).fz 0; have p30 := fun o => (hh3.alloc o).cell 0; have p31 := fun o => (hh3.alloc o).cell 1; have q31 := fun o => (hh3.alloc o).fz 1; have nf3 := Ne.symm ne3; have HH3 := Lib.hid hh3; clear hh3); (have hh4 := (Has.new _ #[.slice none 0 0, .slice none 0 0] 82).below hb2 (by simp only [World.size_alloc]; omega); have o40 := hh4.cell 0; have o41 := hh4.cell 1; have o42 := hh4.fz 0; have o43 := hh4.fz 1; have ne4 := Nat.ne_of_lt hh4.lt; have q40 := fun o => (hh4.alloc o).fz 0; have p40 := fun o => (hh4.alloc o).cell 0; have p41 := fun o => (hh4.alloc o).cell 1; have q41 := fun o => (hh4.alloc o).fz 1; have nf4 := Ne.symm ne4; have HH4 := Lib.hid hh4; clear hh4); have hne34 := Nat.ne_of_lt HH1.out.lt; have hnf34 := Ne.symm hne34)
              | (have hh3 := HH1.out.below hb2 HH1.out.lt; have o30 := hh3.cell 0; have o31 := hh3.cell 1; have o32 := hh3.fz 0; have o33 := hh3.fz 1; have ne3 := Nat.ne_of_lt hh3.lt; have q30 := fun o => (hh3.alloc o).fz 0; have p30 := fun o => (hh3.alloc o).cell 0; have p31 := fun o => (hh3.alloc o).cell 1; have q31 := fun o => (hh3.alloc o).fz 1; have nf3 := Ne.symm ne3; have HH3 := Lib.hid hh3; clear hh3)
              | ((have hh3 := (new2_at _).1.below hb2 (by simp only [World.size_alloc]; omega); have o30 := hh3.cell 0; have o31 := hh3.cell 1; have o32 := hh3.fz 0; have o33 := hh3.fz 1; have ne3 := Nat.ne_of_lt hh3.lt; have q30 := fun o => (hh3.alloc o).fz 0; have p30 := fun o => (hh3.alloc o).cell 0; have p31 := fun o => (hh3.alloc o).cell 1; have q31 := fun o => (hh3.alloc o).fz 1; have nf3 := Ne.symm ne3; have HH3 := Lib.hid hh3; clear hh3); (have hh4 := (new2_at _).2.below hb2 (by simp only [World.size_alloc]; omega); have o40 := hh4.cell 0; have o41 := hh4.cell 1; have o42 := hh4.fz 0; have o43 := hh4.fz 1; have ne4 := Nat.ne_of_lt hh4.lt; have q40 := fun o => (hh4.alloc o).fz 0; have p40 := fun o => (hh4.alloc o).cell 0; have p41 := fun o => (hh4.alloc o).cell 1; have q41 := fun o => (hh4.alloc o).fz 1; have nf4 := Ne.symm ne4; have HH4 := Lib.hid hh4; clear hh4))
              | (have hh3 := (Has.new _ #[.slice none 0 0, .slice none 0 0] 82).below hb2 (by simp only [World.size_alloc]; omega); have o30 := hh3.cell 0; have o31 := hh3.cell 1; have o32 := hh3.fz 0; have o33 := hh3.fz 1; have ne3 := Nat.ne_of_lt hh3.lt; have q30 := fun o => (hh3.alloc o).fz 0; have p30 := fun o => (hh3.alloc o).cell 0; have p31 := fun o => (hh3.alloc o).cell 1; have q31 := fun o => (hh3.alloc o).fz 1; have nf3 := Ne.symm ne3; have HH3 := Lib.hid hh3; clear hh3)
              | skip)
             have hm1 := hm1.below (by first | exact hb2 | exact ((Below.refl _ _).alloc (Nat.le_refl _) _).trans (hb2.mono (by simp)) | exact (((Below.refl _ _).alloc (Nat.le_refl _) _).alloc (by simp) _).trans (hb2.mono (by simp; omega)))
             have hm2 := hm2.below (by first | exact hb2 | exact ((Below.refl _ _).alloc (Nat.le_refl _) _).trans (hb2.mono (by simp)) | exact (((Below.refl _ _).alloc (Nat.le_refl _) _).alloc (by simp) _).trans (hb2.mono (by simp; omega)))
             have hle := hB.size
             have hB := below_up' hW hb2
             have hle2 := hB.size)
          | (go_at_call 47
             (first
              | (have hW := (Below.refl w4.heap.size w4).drew; refine (HL1.out _ hW).mono ?_)
              | (have hW := ((Below.refl w4.heap.size w4).alloc (Nat.le_refl _) zr).drew; refine (HL1.out _ hW).mono ?_)
              | (have hW := (((Below.refl w4.heap.size w4).alloc (Nat.le_refl _) zr).alloc (by simp) zr).drew; refine (HL1.out _ hW).mono ?_))
             rintro e w' ⟨a5, l5, c5, a6, l6, c6, rfl, hm1, hm2, hb1⟩
             have hn1 := True.intro
             (first
              | ((have hh1 := (new2_drew w4).1.below hb1 (by simp only [World.size_alloc, World.size_drew]; omega); have o10 := hh1.cell 0; have o11 := hh1.cell 1; have o12 := hh1.fz 0; have o13 := hh1.fz 1; have HH1 := Lib.hid hh1; clear hh1); (have hh2 := (new2_drew w4).2.below hb1 (by simp only [World.size_alloc, World.size_drew]; omega); have o20 := hh2.cell 0; have o21 := hh2.cell 1; have o22 := hh2.fz 0; have o23 := hh2.fz 1; have HH2 := Lib.hid hh2; clear hh2); have hne12 : w4.heap.size ≠ w4.heap.size + 1 := by omega)
              | (have hh1 := (new_drew w4 #[.slice none 0 0, .slice none 0 0] 82).below hb1 (by simp only [World.size_alloc, World.size_drew]; omega); have o10 := hh1.cell 0; have o11 := hh1.cell 1; have o12 := hh1.fz 0; have o13 := hh1.fz 1; have HH1 := Lib.hid hh1; clear hh1)
              | skip)
             have hB := below_up' hW hb1))
      all_goals go_wp2
      all_goals go_meet
      all_goals first
        | with_reducible exact (fin_new hB hm1 hm2 hm3 hm4).1
        | with_reducible exact (fin_new hB hm1 hm2 hm3 hm4).2
        | with_reducible exact fin_mix HH3.out hB hle hm1 hm2 hm3 hm4
        | with_reducible exact fin_mix HH3.out hB hle2 hm1 hm2 hm3 hm4
        | (with_reducible refine fin_set HH3.out HH4.out ?_ hB ?_ ?_ hm1 hm2 hm3 hm4 <;> omega)
        | (with_reducible refine fin_set HH4.out HH3.out ?_ hB ?_ ?_ hm1 hm2 hm3 hm4 <;> omega)
        | (with_reducible refine fin_set (HH3.out.alloc zr) (Has.new _ _ _) ne3 (hB.alloc hle2 _) ?_ hle2 (hm1.below ((Below.refl _ _).alloc (Nat.le_refl _) _)) (hm2.below ((Below.refl _ _).alloc (Nat.le_refl _) _)) (hm3.below ((Below.refl _ _).alloc (Nat.le_refl _) _)) (hm4.below ((Below.refl _ _).alloc (Nat.le_refl _) _)); omega)
        | with_reducible exact fin_mix HH3.out hB (Nat.le_refl _) hm1 hm2 hm3 hm4
    case rest =>
      obtain ⟨B, B', rfl, rfl, ⟨a5, l5, c5, a6, l6, c6, hx, hm1, hm2, hle⟩, ⟨a7, l7, c7, a8, l8, c8, hx', hm3, hm4, hle'⟩, hb⟩ := hcut
      have HX := Lib.hid hx
      have HX' := Lib.hid hx'
      have HM1 := Lib.hid hm1
      have HM2 := Lib.hid hm2
      have HM3 := Lib.hid hm3
      have HM4 := Lib.hid hm4
      have HBC := Lib.hid (below_up HB4.out hb HB4.out.size)
      have HRC := Lib.hid (H3'.out.below hb H3'.out.lt)
      have HKC := Lib.hid (fun W (hW : Below wc.heap.size wc W) => And.intro (has_cells hx hW) (has_cells hx' hW))
      have HT1 := Lib.hid (fun W (hW : Below wc.heap.size wc W) => times_any _ _ _ _ 2300 W (HM1.out.below hW) (HM3.out.below hW) (by omega))
      have HT2 := Lib.hid (fun W (hW : Below wc.heap.size wc W) => times_any _ _ _ _ 2300 W (HM2.out.below hW) (HM4.out.below hW) (by omega))
      have hlt2 := H3'.out.lt
      have hne1 : w.heap.size + 1 + 1 ≠ B := by omega
      have hne2 : w.heap.size + 1 + 1 ≠ B' := by omega
      clear hx hx' hm1 hm2 hm3 hm4 hb HN1 HN2 HN3 HN4 HL1 HL2 HK
      go_upto_region 5 with fail
      go_region_held3 (fun W => (W.cell? ⟨B, 0, none⟩ = some (.slice a5 l5 c5) ∧ W.cell? ⟨B, 1, none⟩ = some (.slice a6 l6 c6)) ∧ (W.cell? ⟨B', 0, none⟩ = some (.slice a7 l7 c7) ∧ W.cell? ⟨B', 1, none⟩ = some (.slice a8 l8 c8)))
        (first
          | exact HKC.out _ hB
          | exact HKC.out _ (Below.refl _ _).drew
          | exact ⟨two_set (HKC.out _ hB).1 hne1, two_set (HKC.out _ hB).2 hne2⟩)
        (first
          | (go_at_call 46
             have hg := hn2
             refine (limited_any _ _ _ _ _ _ _ _ 4600 _ hp1 hp2 (by omega) ((HE.out.below HBC.out).below hB)).mono ?_
             rintro e w' ⟨x, y, code, rfl, hb3, hlim⟩
             have HLIM := Lib.hid hlim
             clear hlim
             have hB := below_up' hB hb3
             have hf := HRC.out.below hB HRC.out.lt
             have HF := Lib.hid hf
             have y0 := hf.cell 0
             have y1 := hf.cell 1
             have y2 := hf.fz 0
             have y3 := hf.fz 1
             clear hf)
          | (go_at_call 44
             have hg := hn1
             refine (HT2.out _ hB).mono ?_
             rintro e w' ⟨b2, k2, d2, rfl, hp2, hb2⟩
             have hn2 := True.intro
             have hp1 := hp1.below hb2
             have hB := below_up' hB hb2)
          | (go_at_call 44
             refine (HT1.out _ (Below.refl _ _).drew).mono ?_
             rintro e w' ⟨b1, k1, d1, rfl, hp1, hb1⟩
             have hn1 := True.intro
             have hB := below_up' (Below.refl wc.heap.size wc).drew hb1))
      go_wp2
      refine bodyPost_ret (results_cell_tmp_row rfl _ _ (w.heap.size + 2) _ _ (0, 0) _ rfl (has_set2 HF.out) Tryd.underlying44 rfl infoRatioT) rfl ?_
      refine ⟨_, _, _, rfl, below_set2 (below_up HBC.out hB HBC.out.size) (by omega), ?_⟩
      rcases HLIM.out with ⟨h1, h2, h3, h4, h5⟩ | ⟨h1, h2, h3, h4⟩
      · exact .inr ⟨h1, HOK.out, h2, h3, h4, h5⟩
      · exact .inl ⟨by rw [h1]; decide, h2, h3, fun h => h4 h.2⟩

end Go.Proofs.YtfoehmieklldkaaDoor
