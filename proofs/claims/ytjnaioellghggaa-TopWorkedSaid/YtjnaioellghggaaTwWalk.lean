/- The walk of porttop.TopWorked: a calendar with one more day. -/
import Derived.Test.YtjnaioellghggaaTwSort
import Derived.Test.YtjnaioellghggaaOpn
import Derived.Test.YtjnaioellghggaaSpans
import Derived.Deep.AppendLies
import Derived.Deep.RegionHeld3
namespace Go.Proofs.Ytjnaioellghggaa
open Go.RowKit

/-- the calendar h behind the append -/
def TwMid (c : CalD) (vcs vwk : Value) (lg : List Gs) (day : Int) (Hb : Nat) (wb wx : World) : Prop :=
  ∃ g cap, Has wx Hb #[.int .i64 c.off, vcs, vwk, .slice (some ⟨g, 0, none⟩) (lg.length + 1) cap] 28 ∧
    wx.ownsRow wb.heap.size 52 2 (.slice (some ⟨g, 0, none⟩) (lg.length + 1) cap) (lg.length + 1) (lg.flatMap encG ++ [.int .i64 day, .slice none 0 0]) ∧ wb.grownBy wx (some Hb)
theorem tw_fin {c : CalD} {vcs vwk vsp : Value} {lg : List Gs} {day : Int} {Hb g cap : Nat} {wb w6 : World} (hx : Has w6 Hb #[.int .i64 c.off, vcs, vwk, vsp] 28) (hb : Below wb.heap.size wb w6) (hH : Hb < wb.heap.size)
    (ho : w6.ownsRow wb.heap.size 52 2 (.slice (some ⟨g, 0, none⟩) (lg.length + 1) cap) (lg.length + 1) (lg.flatMap encG ++ [.int .i64 day, .slice none 0 0])) :
    TwMid c vcs vwk lg day Hb wb (w6.setCell ⟨Hb, 3, none⟩ (.slice (some ⟨g, 0, none⟩) (lg.length + 1) cap)) := by
  refine ⟨g, cap, hx.set 3 _, owns_set ho hH, ?_⟩
  have := grownBy_set w6 Hb 3 (.slice (some ⟨g, 0, none⟩) (lg.length + 1) cap)
  exact grownBy_trans (grownBy_of_below hb _) this

/-- the two calendars, and the day, in memory -/
structure TwAt (c : CalD) (vcs vwk vsp : Value) (day : Int) (Hb : Nat) (w W : World) (vh : Value) (sps' : List (Int × List Shf)) : Prop where
  below : Below w.heap.size w W
  xc : Has W w.heap.size #[.int .i64 c.off, vcs, vwk, vsp] 28
  xd : Has W (w.heap.size + 1) #[.int .i64 day] 3
  xh : Has W Hb #[.int .i64 c.off, vcs, vwk, vh] 28
  ch : CalAt W vcs vwk vh (holi c sps')
  ho : Holi c day sps'
theorem TwAt.to {c : CalD} {vcs vwk vsp : Value} {day : Int} {Hb : Nat} {w W W' : World} {vh : Value} {sps' : List (Int × List Shf)} (h : TwAt c vcs vwk vsp day Hb w W vh sps') (hb : Below W.heap.size W W') : TwAt c vcs vwk vsp day Hb w W' vh sps' :=
  ⟨below_up h.below hb h.below.size, h.xc.below hb h.xc.lt, h.xd.below hb h.xd.lt, h.xh.below hb h.xh.lt, h.ch.below hb, h.ho⟩
theorem nodup_keys {l : List (Int × List Shf)} {day : Int} (hp : l.Pairwise fun a b => a.1 < b.1) (hn : ∀ x ∈ l, x.1 ≠ day) : ((l ++ [(day, ([] : List Shf))]).map fun x : Int × List Shf => x.1).Nodup := by
  rw [List.map_append, List.nodup_append]
  refine ⟨?_, by simp, ?_⟩
  · unfold List.Nodup
    rw [List.pairwise_map]
    exact hp.imp fun {a b} h => by have h' : a.1 < b.1 := h; omega
  · intro a ha b hb
    obtain ⟨x, hx, rfl⟩ := List.mem_map.1 ha
    simp at hb
    subst hb
    exact hn x hx
theorem sliceAt_map {α β : Type} {sz : Nat} {R : World → List Value → α → Prop} {R' : World → List Value → β → Prop} {w : World} {v : Value} {l : List α} {f : α → β} (h : SliceAt sz R w v l) (hr : ∀ x ∈ l, ∀ cs, R w cs x → R' w cs (f x)) : SliceAt sz R' w v (l.map f) := by
  rcases h with ⟨a, c', h1, h2⟩ | ⟨b, off, c', h1, h2, h3, h4⟩
  · exact .inl ⟨a, c', h1, by rw [h2]; rfl⟩
  · refine .inr ⟨b, off, c', by rw [List.length_map]; exact h1, by rw [List.length_map]; exact h2, h3, fun i hi => ?_⟩
    have hi' : i < l.length := by rwa [List.length_map] at hi
    obtain ⟨cs, he, hq⟩ := h4 i hi'
    refine ⟨cs, he, ?_⟩
    rw [List.getElem_map]
    exact hr _ (List.getElem_mem hi') cs hq
theorem tw_start {c : CalD} {vcs vwk vsp : Value} {day : Int} {Hb g cap B : Nat} {w w6 : World} {lg D : List Gs} (hH : CalAt w vcs vwk vsp c) (hb : Below w.heap.size w w6) (hf : CkFine c) (hn : ∀ x ∈ c.sps, x.1 ≠ day) (hlg : lg.map (fun x : Gs => (x.1, x.2.2)) = c.sps) (hgs : ∀ x ∈ lg, Shifts w x.2.1 x.2.2)
    (hperm : D.Perm (lg ++ [(day, Value.slice none 0 0, ([] : List Shf))])) (hle : D.Pairwise fun x y => x.1 ≤ y.1) (hown : w6.ownsRow B 52 2 (.slice (some ⟨g, 0, none⟩) D.length cap) D.length (D.flatMap encG))
    (x1 : Has w6 w.heap.size #[.int .i64 c.off, vcs, vwk, vsp] 28) (x2 : Has w6 (w.heap.size + 1) #[.int .i64 day] 3) {n : Nat} (x3 : Has w6 Hb #[.int .i64 c.off, vcs, vwk, .slice (some ⟨g, 0, none⟩) n cap] 28) (hl : D.length = n) :
    TwAt c vcs vwk vsp day Hb w w6 (.slice (some ⟨g, 0, none⟩) n cap) (D.map fun x : Gs => (x.1, x.2.2)) := by
  subst hl
  have hpm : (D.map fun x : Gs => (x.1, x.2.2)).Perm (c.sps ++ [(day, [])]) := by
    have := hperm.map (fun x : Gs => (x.1, x.2.2))
    rwa [List.map_append, hlg] at this
  have hs : ∀ x ∈ D, Shifts w6 x.2.1 x.2.2 := by
    intro x hx
    rcases List.mem_append.1 (hperm.mem_iff.1 hx) with h | h
    · exact (hgs x h).below hb
    · rw [List.mem_singleton.1 h]
      exact .inl ⟨none, 0, rfl, rfl⟩
  have hsl : SliceAt 2 (fun W cs (x : Gs) => cs = encG x) w6 (.slice (some ⟨g, 0, none⟩) D.length cap) D := slice_of_owns encG hown (fun _ _ => rfl) (fun _ _ => rfl)
  refine ⟨hb, x1, x2, x3, ⟨hH.cs.below hb, hH.wk.below hb, ?_⟩, ⟨hpm, ?_⟩⟩
  · exact sliceAt_map (f := fun x : Gs => (x.1, x.2.2)) hsl (fun x hx cs hr => ⟨x.2.1, hr, hs x hx⟩)
  · have hnd : ((D.map fun x : Gs => (x.1, x.2.2)).map fun x : Int × List Shf => x.1).Nodup := (hpm.map _).nodup_iff.2 (nodup_keys hf.fine.days hn)
    rw [List.pairwise_map]
    unfold List.Nodup at hnd
    rw [List.pairwise_map, List.pairwise_map] at hnd
    exact hle.imp₂ (fun a b h1 h2 => by simp only at h2 ⊢; omega) hnd
theorem Open_fine (c : CalD) (vcs vwk vsp : Value) (m : Int) (w : World) (h : CalAt w vcs vwk vsp c) (hf : CkFine c) (h0 : 0 ≤ m) (h1 : m ≤ 3000000) (o : Int) (ho : c.off = o) :
    Calls Try.prog 8 #[.agg #[.int .i64 o, vcs, vwk, vsp], .int .i64 m] w fun e w' => e = .returned (.tuple #[.bool (openB c m), .int .i64 0]) ∧ Below w.heap.size w w' := by
  subst ho
  refine (Open_any c vcs vwk vsp m w h).mono ?_
  rintro e w' ⟨b, k, rfl, hk, hb, _, hbw⟩
  obtain rfl := hk.2 ⟨hf, by unfold momI; rw [if_pos ⟨h0, h1⟩]⟩
  exact ⟨by rw [hb rfl], hbw⟩
theorem Worked_fine (c : CalD) (vcs vwk vsp : Value) (a b : Int) (w : World) (h : CalAt w vcs vwk vsp c) (hf : CkFine c) (h0 : 0 ≤ a) (h1 : a ≤ b) (h2 : b ≤ 3000000) :
    Calls Try.prog 9 #[.agg #[.int .i64 c.off, vcs, vwk, vsp], .int .i64 a, .int .i64 b] w fun e w' => e = .returned (.tuple #[.int .i64 (cnt (openB c) a b : Nat), .int .i64 0]) ∧ Below w.heap.size w w' := by
  refine (Worked_any c vcs vwk vsp a b w h).mono ?_
  rintro e w' ⟨n, k, rfl, hk, hn, _, hbw⟩
  obtain rfl := hk.2 ⟨hf, (strI_zero a b).2 ⟨h0, by omega, h1, by omega⟩⟩
  exact ⟨by rw [hn rfl, open_lens hf.fine.ok h0 h1], hbw⟩
theorem cnt_snoc (p : Int → Bool) {a b : Int} (h : a ≤ b) : cnt p a (b + 1) = cnt p a b + if p b then 1 else 0 := by
  rw [cnt_split p h (show b ≤ b + 1 by omega)]
  congr 1
  unfold cnt
  rw [show (b + 1 - b).toNat = 1 by omega]
  simp [cntN]

theorem two_at (w : World) (a b : Array Value) (s t : TypeId) : Has ((w.alloc (.cells a s)).alloc (.cells b t)) w.heap.size a s ∧ Has ((w.alloc (.cells a s)).alloc (.cells b t)) (w.heap.size + 1) b t ∧ Below w.heap.size w ((w.alloc (.cells a s)).alloc (.cells b t)) := by
  have h2 := Has.new (w.alloc (.cells a s)) b t
  rw [World.size_alloc] at h2
  exact ⟨(Has.new w a s).alloc _, h2, ((Below.refl _ _).alloc (Nat.le_refl _) _).alloc (by simp) _⟩

set_option maxRecDepth 100000 in
set_option maxHeartbeats 8000000 in
theorem topw_walk (c : CalD) (vcs vwk vsp : Value) (day fr long : Int) (w : World) (h : CalAt w vcs vwk vsp c) :
    Calls Try.prog 6 #[.agg #[.int .i64 c.off, vcs, vwk, vsp], .int .i64 day, .int .i64 fr, .int .i64 long] w fun e w' => e = .returned (.bool true) ∧ Below w.heap.size w w' := by
  obtain ⟨acs, ccs, rfl⟩ := SliceAt.len h.cs
  obtain ⟨awk, cwk, rfl⟩ := SliceAt.len h.wk
  obtain ⟨asp, csp, rfl⟩ := SliceAt.len h.sps
  have H := Lib.hid h
  clear h
  have hbx := two_at w #[.int .i64 c.off, .slice acs c.cs.length ccs, .slice awk c.wk.length cwk, .slice asp c.sps.length csp] #[.int .i64 day] 28 3
  go_enter Try.func6, Try.ntmps6
  go_upto_region 1 with fail
  generalize (w.alloc (.cells #[.int .i64 c.off, .slice acs c.cs.length ccs, .slice awk c.wk.length cwk, .slice asp c.sps.length csp] 28)).alloc (.cells #[.int .i64 day] 3) = w0 at *
  obtain ⟨x1, x2, hb0⟩ := hbx
  have HX0 := Lib.hid x1
  have HD0 := Lib.hid x2
  have HB0 := Lib.hid hb0
  clear x1 x2 hb0
  go_wp2_with fail
  refine (awake_top w0).mono ?_
  rintro e w1 ⟨rfl, hb1⟩
  have HB1 := Lib.hid (below_up HB0.out hb1 HB0.out.size)
  have HX1 := Lib.hid (HX0.out.below hb1 HX0.out.lt)
  have HD1 := Lib.hid (HD0.out.below hb1 HD0.out.lt)
  clear hb1 HX0 HB0 HD0
  have k0 := HX1.out.cell 0
  have k1 := HX1.out.cell 1
  have k2 := HX1.out.cell 2
  have k3 := HX1.out.cell 3
  go_upto_region 3 with fail
  go_wp2_with fail
  refine (CheckCalendar_any c _ _ _ w1 (H.out.below HB1.out)).mono ?_
  rintro e w2 ⟨⟨k, rfl, hk⟩, hb2⟩
  have HB2 := Lib.hid (below_up HB1.out hb2 HB1.out.size)
  have HX2 := Lib.hid (HX1.out.below hb2 HX1.out.lt)
  have HD2 := Lib.hid (HD1.out.below hb2 HD1.out.lt)
  have HK := Lib.hid hk
  clear hb2 k0 k1 k2 k3 HX1 HD1 HB1 hk
  have k0 := HX2.out.cell 0
  have k1 := HX2.out.cell 1
  have k2 := HX2.out.cell 2
  have k3 := HX2.out.cell 3
  have kd := HD2.out.cell 0
  by_cases hkz : k ≠ 0
  · have q : (k == 0) = false := by simpa using hkz
    have q2 : (k != 0) = true := by simpa using hkz
    clear hkz
    go_wp2_with fail
    go_ret
    exact ⟨rfl, HB2.out⟩
  obtain rfl : k = 0 := by omega
  have HF := Lib.hid (HK.out.1 rfl)
  clear HK hkz
  by_cases hd1 : day < 0
  · have q : decide (day < 0) = true := by simpa using hd1
    go_wp2_with fail
    go_ret
    exact ⟨rfl, HB2.out⟩
  have q1 : decide (day < 0) = false := by simpa using hd1
  by_cases hd2 : 2084 < day
  · have q : decide (2084 < day) = true := by simpa using hd2
    go_wp2_with fail
    go_ret
    exact ⟨rfl, HB2.out⟩
  have q2 : decide (2084 < day) = false := by simpa using hd2
  have hsl := HF.out.sl
  have hco := contains_any _ c.sps day (w.heap.size + 1) w2 (H.out.sps.below HB2.out) (by omega) HD2.out
  have HCO := Lib.hid hco
  clear hco
  go_wp2_with fail
  refine HCO.out.mono ?_
  clear HCO
  rintro e w3 ⟨⟨b, rfl, hb⟩, hb3⟩
  have HB3 := Lib.hid (below_up HB2.out hb3 HB2.out.size)
  have HX3 := Lib.hid (HX2.out.below hb3 HX2.out.lt)
  have HD3 := Lib.hid (HD2.out.below hb3 HD2.out.lt)
  have HN := Lib.hid hb
  clear hb3 hb k0 k1 k2 k3 kd HX2 HD2 HB2
  have k0 := HX3.out.cell 0
  have k1 := HX3.out.cell 1
  have k2 := HX3.out.cell 2
  have k3 := HX3.out.cell 3
  have kd := HD3.out.cell 0
  cases b with
  | true =>
    go_wp2_with fail
    go_ret
    exact ⟨rfl, HB3.out⟩
  | false =>
    by_cases h200 : 200 ≤ c.sps.length
    · have q : decide ((200 : Int) ≤ (c.sps.length : Int)) = true := decide_eq_true (by omega)
      go_wp2_with fail
      go_ret
      exact ⟨rfl, HB3.out⟩
    have q200 : decide ((200 : Int) ≤ (c.sps.length : Int)) = false := decide_eq_false (by omega)
    have HNO := Lib.hid (show ∀ x ∈ c.sps, x.1 ≠ day from fun x hx e => by
      have := HN.out.2 ⟨x, hx, e⟩
      cases this)
    by_cases g1 : fr < 0
    · have q : decide (fr < 0) = true := decide_eq_true g1
      go_wp2_with fail
      go_ret
      exact ⟨rfl, HB3.out⟩
    have p1 : decide (fr < 0) = false := decide_eq_false g1
    by_cases g2 : long < 0
    · have q : decide (long < 0) = true := decide_eq_true g2
      go_wp2_with fail
      go_ret
      exact ⟨rfl, HB3.out⟩
    have p2 : decide (long < 0) = false := decide_eq_false g2
    by_cases g3 : 4320 < long
    · have q : decide (4320 < long) = true := decide_eq_true g3
      go_wp2_with fail
      go_ret
      exact ⟨rfl, HB3.out⟩
    have p3 : decide (4320 < long) = false := decide_eq_false g3
    have l0 : 0 ≤ long := by omega
    have l1 : long ≤ 4320 := by omega
    by_cases g4 : 3000000 - long < fr
    · have q : decide (3000000 - long < fr) = true := decide_eq_true g4
      go_wp2_with fail
      go_ret
      exact ⟨rfl, HB3.out⟩
    have p4 : decide (3000000 - long < fr) = false := decide_eq_false g4
    have l2 : 0 ≤ fr := by omega
    have l3 : fr + long ≤ 3000000 := by omega
    have l4 : (c.sps.length : Int) < 200 := by omega
    have d1 : 0 ≤ day := by omega
    have d2 : day ≤ 2084 := by omega
    have hbh := box1 w3 #[.int .i64 c.off, .slice acs c.cs.length ccs, .slice awk c.wk.length cwk, .slice asp c.sps.length csp] 28
    have XH := Lib.hid hbh.1
    have HX4 := Lib.hid (HX3.out.below hbh.2 HX3.out.lt)
    have HD4 := Lib.hid (HD3.out.below hbh.2 HD3.out.lt)
    have HB4 := Lib.hid (below_up HB3.out hbh.2 HB3.out.size)
    clear hbh
    clear hd1 hd2 g1 g2 g3 g4 h200
    go_upto_region 8 with fail
    generalize w3.alloc (.cells #[.int .i64 c.off, .slice acs c.cs.length ccs, .slice awk c.wk.length cwk, .slice asp c.sps.length csp] 28) = w4 at *
    have hHb := HD3.out.lt
    generalize w3.heap.size = Hb at *
    clear k0 k1 k2 k3 kd q1 q2 q200 p1 p2 p3 p4 HX3 HD3
    obtain ⟨lg, hlg, hgs, hgv⟩ := specs_ghost H.out.sps
    have hlgl : lg.length = c.sps.length := by rw [← hlg, List.length_map]
    have hll : lg.length ≤ 199 := by omega
    have HLL := Lib.hid hlgl
    have HLG := Lib.hid hlg
    have HGS := Lib.hid hgs
    have HKS := Lib.hid (fun W (hW : Below w4.heap.size w4 W) => And.intro ((below_cell hW HX4.out.lt).trans (HX4.out.cell 3)) ((below_cell hW HD4.out.lt).trans (HD4.out.cell 0)))
    have HCL := Lib.hid (fun W (hW : Below w4.heap.size w4 W) => cloneS_any (.slice asp c.sps.length csp) lg W (fun x hx => (hgs x hx).below (below_up HB4.out hW HB4.out.size)) (by
      rcases hgv with ⟨a, cc, g5, g6⟩ | ⟨b, off, cap, g5, g6, g7⟩
      · exact .inl ⟨a, cc, g5, g6⟩
      · have hW2 := below_up HB4.out hW HB4.out.size
        refine .inr ⟨b, off, cap, g5, Nat.lt_of_lt_of_le g6 hW2.size, fun j u hj => ?_⟩
        have e := g7 j u hj
        have ea : (⟨b, off, none⟩ : Addr).add j = ⟨b, off + j, none⟩ := by unfold Addr.add; split <;> simp_all
        rw [ea] at e ⊢
        exact (below_cell hW2 g6).trans e) (by omega))
    clear hlg hgs hgv hlgl
    obtain ⟨i0, hi0, hz0, hz1, hz2⟩ := info_parts infoSpc
    have hHl := XH.out.lt
    have hne1 : Hb ≠ w.heap.size := by omega
    have hne2 : Hb ≠ w.heap.size + 1 := by omega
    go_cut [10] (fun _ wx => TwMid c (.slice acs c.cs.length ccs) (.slice awk c.wk.length cwk) lg day Hb w4 wx)
    case first =>
      go_region_held3 (fun W => W.cell? ⟨w.heap.size, 3, none⟩ = some (.slice asp c.sps.length csp) ∧ W.cell? ⟨w.heap.size + 1, 0, none⟩ = some (.int .i64 day))
        (first
          | exact HKS.out _ hB
          | exact HKS.out _ (Below.refl _ _).drew
          | exact HKS.out _ (hB.alloc hB.size _)
          | exact HKS.out _ ((Below.refl w4.heap.size w4).alloc (Nat.le_refl _) _).drew
          | exact ⟨(set_block hne1).trans (HKS.out _ hB).1, (set_block hne2).trans (HKS.out _ hB).2⟩)
        (first
          | (go_at_call 23; with_reducible refine (HCL.out _ (Below.refl _ _).drew).mono ?_; rintro e w5 ⟨⟨v5, rfl, ho5⟩, hb5⟩; obtain ⟨a5, c5, rfl⟩ := owns_slice ho5; have HO5 := Lib.hid (owns_base (B' := w4.heap.size) ho5 (Nat.le_refl _)); have hB := below_up' (Below.refl _ w4).drew hb5; clear ho5 hb5)
          | (go_at_call 23; refine (HCL.out _ ((Below.refl w4.heap.size w4).alloc (Nat.le_refl _) (.cells #[.int .i64 day, .slice none 0 0] 52)).drew).mono ?_; rintro e w5 ⟨⟨v5, rfl, ho5⟩, hb5⟩; obtain ⟨a5, c5, rfl⟩ := owns_slice ho5; have HO5 := Lib.hid (owns_base (B' := w4.heap.size) ho5 ((Below.refl w4.heap.size w4).alloc (Nat.le_refl _) (.cells #[.int .i64 day, .slice none 0 0] 52)).drew.size); have hB := below_up' ((Below.refl w4.heap.size w4).alloc (Nat.le_refl _) (.cells #[.int .i64 day, .slice none 0 0] 52)).drew hb5; have HE5 := Lib.hid (Has.below (show Has (w4.alloc (.cells #[.int .i64 day, .slice none 0 0] 52)).drew w4.heap.size #[.int .i64 day, .slice none 0 0] 52 from Has.new w4 _ _) hb5 (show w4.heap.size < (w4.alloc (.cells #[.int .i64 day, .slice none 0 0] 52)).heap.size by simp)); clear ho5 hb5)
          | (refine step_append_lies _ (by rfl) _ _ _ (by rfl) w4.heap.size 52 i0 (.agg #[.int .i64 0, .slice none 0 0]) 2 32 Try.underlying26 hi0 hz0 hz1 hz2 rfl (by omega) _ lg.length (lg.flatMap encG) (by rfl) HO5.out ⟨w4.heap.size, 0, none⟩ 1 1 [.int .i64 day, .slice none 0 0] (by rfl) rfl (World.news_of_block HE5.out) (by simp [Value.oneCell']) (by omega) (by unfold maxLen; omega) (by omega) hB.size _ rfl ?_; intro g6 c6 w6 ho6 hg6 hat6 hlt6; have hB := hB.grown hg6 hB.size (fun k hk => (HO5.out.lt k hk).1); have hx6 := XH.out.below hB hHl; have n6 := hx6.cell 3; have z6 := hx6.fz 3; have HX6 := Lib.hid hx6; have HO6 := Lib.hid ho6; clear hx6 ho6 hg6 hat6 hlt6)
          | (refine step_append_lies _ (by rfl) _ _ _ (by rfl) w4.heap.size 52 i0 (.agg #[.int .i64 0, .slice none 0 0]) 2 32 Try.underlying26 hi0 hz0 hz1 hz2 rfl (by omega) _ lg.length (lg.flatMap encG) (by rfl) (HO5.out.alloc _) ⟨w5.heap.size, 0, none⟩ 1 1 [.int .i64 day, .slice none 0 0] (by rfl) rfl (World.news_of_block (heap_alloc_new _ _)) (by simp [Value.oneCell']) (by omega) (by unfold maxLen; omega) (by omega) (hB.alloc hB.size _).size _ rfl ?_; intro g6 c6 w6 ho6 hg6 hat6 hlt6; have hB := (hB.alloc hB.size _).grown hg6 (hB.alloc hB.size _).size (fun k hk => (HO5.out.lt k hk).1); have hx6 := XH.out.below hB hHl; have n6 := hx6.cell 3; have z6 := hx6.fz 3; have HX6 := Lib.hid hx6; have HO6 := Lib.hid ho6; clear hx6 ho6 hg6 hat6 hlt6)
          | fail)
      all_goals go_wp2
      all_goals go_meet
      all_goals exact tw_fin HX6.out hB hHl HO6.out
    case rest =>
      obtain ⟨g, cap, XH5, HO, hgr⟩ := hcut
      have hB4 := HB4.out.size
      have hbc := below_grown HB4.out hgr HB4.out.size (by omega)
      have HBC := Lib.hid hbc
      have HXC := Lib.hid (HX4.out.kept hgr (by simp; omega))
      have HDC := Lib.hid (HD4.out.kept hgr (by simp; omega))
      have hcs := hgr.size
      have hown5 : wc.ownsRow w4.heap.size 52 2 (.slice (some ⟨g, 0, none⟩) (lg ++ [(day, Value.slice none 0 0, ([] : List Shf))]).length cap) (lg ++ [(day, Value.slice none 0 0, ([] : List Shf))]).length ((lg ++ [(day, Value.slice none 0 0, ([] : List Shf))]).flatMap encG) := by
        rw [List.length_append, List.flatMap_append]
        exact HO
      have hgb := hown5.lt g rfl
      have hbd : ∀ x ∈ lg ++ [(day, Value.slice none 0 0, ([] : List Shf))], (-1 ≤ x.1 ∧ x.1 ≤ 2084) ∧ x.2.1.oneCell' = true := by
        intro x hx
        rcases List.mem_append.1 hx with h | h
        · have hm : (x.1, x.2.2) ∈ c.sps := by rw [← HLG.out]; exact List.mem_map.2 ⟨x, h, rfl⟩
          obtain ⟨i, hi, e⟩ := List.mem_iff_getElem.1 hm
          have := HF.out.sps.each i hi
          rw [e] at this
          obtain ⟨a, cc, e2⟩ := SliceAt.len (HGS.out x h)
          exact ⟨⟨this.lo, this.hi⟩, by rw [e2]; rfl⟩
        · rw [List.mem_singleton.1 h]
          exact ⟨⟨by simp only; omega, by simp only; omega⟩, rfl⟩
      have hso := sortS_any w4.heap.size g cap _ hbd wc hown5 (by simp; omega)
      rw [show (lg ++ [(day, Value.slice none 0 0, ([] : List Shf))]).length = lg.length + 1 from by simp] at hso
      have HSO := Lib.hid hso
      have XH5' := Lib.hid XH5
      have h3 := XH5.cell 3
      clear hso HO hgr hbc hown5 hbd XH5 HX4 HD4 XH HKS HCL
      go_wp2_with fail
      refine HSO.out.mono ?_
      clear HSO
      rintro e w6 ⟨rfl, D, hperm, hle, hown6, hg6⟩
      obtain ⟨hgb1, hgb2⟩ := hgb
      have hneg : g ≠ Hb := by omega
      have HB6 := Lib.hid (below_grown HBC.out hg6 HBC.out.size (by omega))
      have hC0 := HXC.out.lt
      have HT := Lib.hid (tw_start (day := day) H.out HB6.out HF.out HNO.out HLG.out HGS.out hperm hle hown6 (HXC.out.kept hg6 (by simp; omega)) (HDC.out.kept hg6 (by simp; omega)) (XH5'.out.kept hg6 (by simp; omega)) (by rw [hperm.length_eq]; simp))
      clear XH5' HXC HDC HBC hC0 hperm hle hown6 hg6 h3 hgb1 hgb2 hneg
      generalize D.map (fun x : Gs => (x.1, x.2.2)) = sps' at *
      have hf2 := HT.out.ho
      have HFH := Lib.hid (holi_fine hf2 HF.out (by omega) d1 d2)
      clear hf2
      go_wp2_with fail
      go_loopw [10, 11] (fun nv mv wr => ∃ i : Nat, mv = .int .i64 (fr + i) ∧ nv = .int .i64 ((cnt (openB c) fr (fr + i) : Nat) : Int) ∧ (i : Int) ≤ long ∧ TwAt c (.slice acs c.cs.length ccs) (.slice awk c.wk.length cwk) (.slice asp c.sps.length csp) day Hb w wr (.slice (some ⟨g, 0, none⟩) (lg.length + 1) cap) sps') (fun _ mv _ => (fr + long - intOf mv).toNat)
      case atStart => exact ⟨0, by simp, by simp [cnt_self], l0, HT.out⟩
      case round =>
        obtain ⟨i, rfl, rfl, hi, ht⟩ := hrel
        have HA := Lib.hid ht
        clear ht
        have hi0 : (0 : Int) ≤ (i : Int) := by omega
        have hcl := cnt_le (openB c) fr (fr + i)
        have hcl2 : ((cnt (openB c) fr (fr + i) : Nat) : Int) ≤ 4320 := by omega
        have hcl3 : (0 : Int) ≤ ((cnt (openB c) fr (fr + i) : Nat) : Int) := by omega
        clear hcl
        by_cases hlt : (i : Int) < long
        · have q : decide (fr + (i : Int) < fr + long) = true := decide_eq_true (by omega)
          have m1 : 0 ≤ fr + (i : Int) := by omega
          have m2 : fr + (i : Int) ≤ 3000000 := by omega
          have HSN := Lib.hid (cnt_snoc (openB c) (show fr ≤ fr + (i : Int) by omega))
          have HO1 := Lib.hid (fun W (hW : Below wr.heap.size wr W) => Open_fine c _ _ _ (fr + i) W (H.out.below (HA.out.to hW).below) HF.out m1 m2 _ rfl)
          have HO2 := Lib.hid (fun W (hW : Below wr.heap.size wr W) => Open_fine (holi c sps') _ _ _ (fr + i) W (HA.out.to hW).ch HFH.out m1 m2 c.off rfl)
          have HO3 := Lib.hid (fun W (hW : Below wr.heap.size wr W) => Local_fine c.off _ c.cs (fr + i) W (H.out.below (HA.out.to hW).below).cs HF.out.zone (by unfold momI; rw [if_pos ⟨m1, m2⟩]))
          have HL1 := Lib.hid (holi_less HA.out.ho HF.out.fine.ok HFH.out.fine.ok HF.out.fine.days HNO.out (fr + i))
          have HL2 := Lib.hid (holi_day HA.out.ho HF.out.fine.ok HFH.out.fine.ok HF.out.fine.days HNO.out (fr + i))
          generalize openB c (fr + (i : Int)) = b1 at *
          generalize openB (holi c sps') (fr + (i : Int)) = b2 at *
          generalize (fr + (i : Int) + offAt (fr + (i : Int)) c.off c.cs) / 1440 = dd at *
          generalize hcn : cnt (openB c) fr (fr + (i : Int)) = n at *
          have HCN := Lib.hid hcn
          clear hcn
          have k0 := HA.out.xc.cell 0
          have k1 := HA.out.xc.cell 1
          have k2 := HA.out.xc.cell 2
          have k3 := HA.out.xc.cell 3
          go_wp2_with fail
          refine (HO1.out _ (Below.refl _ _)).mono ?_
          rintro e w7 ⟨rfl, hb7⟩
          have HA7 := Lib.hid (HA.out.to hb7)
          have HB7 := Lib.hid hb7
          clear hb7 k0 k1 k2 k3
          have k0 := HA7.out.xh.cell 0
          have k1 := HA7.out.xh.cell 1
          have k2 := HA7.out.xh.cell 2
          have k3 := HA7.out.xh.cell 3
          go_wp2_with fail
          refine (HO2.out _ HB7.out).mono ?_
          rintro e w8 ⟨rfl, hb8⟩
          have HA8 := Lib.hid (HA7.out.to hb8)
          have HB8 := Lib.hid (below_up' HB7.out hb8)
          clear hb8 k0 k1 k2 k3
          have k0 := HA8.out.xc.cell 0
          have k1 := HA8.out.xc.cell 1
          go_wp2_with fail
          refine (HO3.out _ HB8.out).mono ?_
          rintro e w9 ⟨mi, rfl, hb9⟩
          have HA9 := Lib.hid (HA8.out.to hb9)
          clear hb9 k0 k1
          have kd := HA9.out.xd.cell 0
          have hfin : ∀ b : Bool, b1 = b → cnt (openB c) fr (fr + ((i + 1 : Nat) : Int)) = n + if b then 1 else 0 := fun b e => by
            rw [show fr + ((i + 1 : Nat) : Int) = fr + (i : Int) + 1 by omega, HSN.out, e]
          have HFN := Lib.hid hfin
          clear hfin
          have hv : fr + ((i + 1 : Nat) : Int) = fr + (i : Int) + 1 := by omega
          have HV := Lib.hid hv
          clear hv
          cases b1 with
          | true =>
            cases b2 with
            | true =>
              go_wp2_with fail
              go_roundw
              case rel => exact ⟨i + 1, by rw [HV.out], by rw [HFN.out true rfl]; simp, by omega, HA9.out⟩
              case measure => simp [intOf]; omega
            | false =>
              have hdd := HL2.out rfl rfl
              by_cases hd : dd = day
              · have q1 : (dd == day) = true := by simpa using hd
                have q2 : (dd != day) = false := by simpa using hd
                clear hdd hd
                go_wp2_with fail
                go_roundw
                case rel => exact ⟨i + 1, by rw [HV.out], by rw [HFN.out true rfl]; simp, by omega, HA9.out⟩
                case measure => simp [intOf]; omega
              · have hd2 : dd = day + 1 := by
                  rcases hdd with g | g
                  · exact absurd g hd
                  · exact g
                have q1 : (dd == day) = false := by simpa using hd
                have q2 : (dd != day) = true := by simpa using hd
                have q3 : (dd == day + 1) = true := by simpa using hd2
                have q4 : (dd != day + 1) = false := by simpa using hd2
                clear hdd hd hd2
                go_wp2_with fail
                go_roundw
                case rel => exact ⟨i + 1, by rw [HV.out], by rw [HFN.out true rfl]; simp, by omega, HA9.out⟩
                case measure => simp [intOf]; omega
          | false =>
            cases b2 with
            | true =>
              have := HL1.out rfl
              cases this
            | false =>
              go_wp2_with fail
              go_roundw
              case rel => exact ⟨i + 1, by rw [HV.out], by rw [HFN.out false rfl]; simp, by omega, HA9.out⟩
              case measure => simp [intOf]; omega
        · have hil : (i : Int) = long := by omega
          have q : decide (fr + (i : Int) < fr + long) = false := decide_eq_false (by omega)
          have HW1 := Lib.hid (Worked_fine c _ _ _ fr (fr + long) wr (H.out.below HA.out.below) HF.out l2 (by omega) l3)
          have HW2 := Lib.hid (fun W (hW : Below wr.heap.size wr W) => Worked_fine c _ _ _ fr (fr + long / 3) W (H.out.below (HA.out.to hW).below) HF.out l2 (by omega) (by omega))
          have HW3 := Lib.hid (fun W (hW : Below wr.heap.size wr W) => Worked_fine c _ _ _ (fr + long / 3) (fr + long) W (H.out.below (HA.out.to hW).below) HF.out (by omega) (by omega) l3)
          have hsum := cnt_split (openB c) (show fr ≤ fr + long / 3 by omega) (show fr + long / 3 ≤ fr + long by omega)
          have hc1 := cnt_le (openB c) fr (fr + long)
          rw [hil] at hcl2 hcl3 ⊢
          generalize cnt (openB c) fr (fr + long) = n at *
          generalize cnt (openB c) fr (fr + long / 3) = n1 at *
          generalize cnt (openB c) (fr + long / 3) (fr + long) = n2 at *
          have b1 : (n1 : Int) + (n2 : Int) = (n : Int) := by omega
          have b2 : (n1 : Int) ≤ 4320 := by omega
          have b3 : (n2 : Int) ≤ 4320 := by omega
          have qs : ((n1 : Int) + (n2 : Int) == (n : Int)) = true := by simpa using b1
          clear hsum hc1 hil b1
          have t1 : 0 ≤ long / 3 := by omega
          have t2 : long / 3 ≤ 1440 := by omega
          have k0 := HA.out.xc.cell 0
          have k1 := HA.out.xc.cell 1
          have k2 := HA.out.xc.cell 2
          have k3 := HA.out.xc.cell 3
          go_wp2_with fail
          refine HW1.out.mono ?_
          rintro e w7 ⟨rfl, hb7⟩
          have HA7 := Lib.hid (HA.out.to hb7)
          have HB7 := Lib.hid hb7
          clear hb7 k0 k1 k2 k3
          have k0 := HA7.out.xc.cell 0
          have k1 := HA7.out.xc.cell 1
          have k2 := HA7.out.xc.cell 2
          have k3 := HA7.out.xc.cell 3
          go_wp2_with fail
          refine (HW2.out _ HB7.out).mono ?_
          rintro e w8 ⟨rfl, hb8⟩
          have HA8 := Lib.hid (HA7.out.to hb8)
          have HB8 := Lib.hid (below_up' HB7.out hb8)
          clear hb8 k0 k1 k2 k3
          have k0 := HA8.out.xc.cell 0
          have k1 := HA8.out.xc.cell 1
          have k2 := HA8.out.xc.cell 2
          have k3 := HA8.out.xc.cell 3
          go_wp2_with fail
          refine (HW3.out _ HB8.out).mono ?_
          rintro e w9 ⟨rfl, hb9⟩
          have HA9 := Lib.hid (HA8.out.to hb9)
          clear hb9 k0 k1 k2 k3
          go_wp2_with fail
          go_ret
          exact ⟨rfl, HA9.out.below⟩

end Go.Proofs.Ytjnaioellghggaa
