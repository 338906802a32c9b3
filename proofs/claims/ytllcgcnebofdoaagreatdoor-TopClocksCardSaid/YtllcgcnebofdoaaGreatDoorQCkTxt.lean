/- The walk of level.ClockText. -/
import Derived.Test.YtllcgcnebofdoaaGreatDoorQCkClk
import Derived.Test.YtllcgcnebofdoaaGreatDoorQMNum
namespace Go.Proofs.YtllcgcnebofdoaaGreatDoor
open Go.RowKit

theorem infoWd : (Tryz.prog.info? 9).map (fun i => (i.zero, i.size, i.bytes)) = some (some (.string ⟨#[]⟩), 1, 16) := by kernel_rfl
theorem owns_built1 {w : World} {B g n : Nat} {e : TypeId} {cs : Array Value} (h : Has w g cs e) (hB : B ≤ g) (hn : cs.size = n) (hc : n ≤ 1000000) : w.ownsRow B e 1 (.slice (some ⟨g, 0, none⟩) n n) n cs.toList :=
  ⟨by simp [hn], .inr ⟨g, n, cs, rfl, hB, h, Nat.le_refl _, by unfold maxLen; omega, by simp [hn], by rw [Nat.mul_one]; exact List.take_of_length_le (by simp [hn])⟩⟩
def pcNums (p : Pc) : List Int := [p.1, p.2.1, p.2.2]
def hdNums (c : ClkD) : List Int := [c.kind, c.lev, c.min, c.start, c.stop, c.fin]
def clkNums (c : ClkD) : List Int := hdNums c ++ c.ps.flatMap pcNums
def clockW : List UInt8 := [99, 108, 111, 99, 107]
def clkWords (c : ClkD) : List (List UInt8) := clockW :: (clkNums c).map Lib.itoa
def clkText (c : ClkD) : List UInt8 := Lib.join (clkWords c) [32] ++ [10]
theorem nums_len (ps : List Pc) : (ps.flatMap pcNums).length = ps.length * 3 := by
  induction ps with
  | nil => rfl
  | cons x r ih => rw [List.flatMap_cons, List.length_append, ih, List.length_cons]; simp [pcNums]; omega
theorem join_le (k : Nat) : ∀ (l : List (List UInt8)), (∀ x ∈ l, x.length ≤ k) → (Lib.join l [32]).length ≤ l.length * (k + 1)
  | [], _ => by simp [Lib.join]
  | [x], h => by
    have := h x List.mem_cons_self
    simp [Lib.join]; omega
  | x :: y :: r, h => by
    have h1 := h x List.mem_cons_self
    have h2 := join_le k (y :: r) (fun z hz => h z (List.mem_cons_of_mem _ hz))
    have e : Lib.join (x :: y :: r) [32] = x ++ [32] ++ Lib.join (y :: r) [32] := by rw [Lib.join_cons, Lib.join_cons]; simp [Lib.joinTail]
    rw [e, List.length_append, List.length_append]
    simp only [List.length_cons, List.length_nil] at h2 ⊢
    rw [Nat.succ_mul]
    omega
theorem join_words (W : List (List UInt8)) (v : Value) (B n : Nat) (hn : n = W.length) (w : World) (h : w.ownsRow B 9 1 v n (W.map wordV)) (h0 : 0 < n) (hN : n ≤ 1000000) (hlen : (Lib.join W [32]).length ≤ 100000000) :
    Calls Tryz.prog 23 #[v, .string ⟨#[32]⟩] w fun e w' => e = .returned (.string (bs (Lib.join W [32]))) ∧ Below w.heap.size w w' := by
  subst hn
  obtain ⟨g, cap, rfl, _, hlt⟩ := h.form h0
  have hcap : W.length ≤ cap := by
    rcases h.2 with ⟨hv, _⟩ | ⟨g', cap', cur, hv, _, _, hc, _⟩
    · cases hv
    · cases hv; exact hc
  have e : (W.map bs).map (fun x => x.data.toList) = W := by rw [List.map_map]; exact List.map_id' W
  have c := Tryz.strings_Join g 0 cap (W.map bs) ⟨#[32]⟩ w (fun j x hx => by
    rw [List.getElem?_map] at hx
    obtain ⟨y, hy, rfl⟩ := Option.map_eq_some_iff.1 hx
    rw [Nat.zero_add]
    have hj : j < W.length := (List.getElem?_eq_some_iff.1 hy).1
    exact (h.cellAt j (by omega)).trans (by rw [List.getElem?_map, hy]; rfl)) hlt (by rw [List.length_map]; omega) (by rw [List.length_map]; exact hcap) (by rw [e]; show (Lib.join W [32]).length ≤ _; omega)
  rw [e, List.length_map] at c
  exact c

/-- the words so far, and the variable that holds them -/
structure WdM (w : World) (B P : Nat) (ws : List (List UInt8)) : Prop where
  box : ∃ v, Has w P #[v] 75 ∧ w.ownsRow B 9 1 v ws.length (ws.map wordV)
  le : B ≤ P
structure AddI (ns : List Int) (w wr : World) (B P X : Nat) (ws : List (List UInt8)) (i : Nat) : Prop where
  le : i ≤ ns.length
  mem : WdM wr B P (ws ++ (ns.take i).map Lib.itoa)
  ints : Has wr X (ns.map (Value.int .i64)).toArray 3
  below : Below B w wr
set_option maxRecDepth 100000 in
set_option maxHeartbeats 4000000 in
theorem addWords_any (ns : List Int) (B P X : Nat) (ws : List (List UInt8)) (wE w : World) (hE : Env wE) (hb : Below wE.heap.size wE w) (hEB : wE.heap.size ≤ B) (hB : B ≤ w.heap.size) (h : WdM w B P ws) (hX : Has w X (ns.map (Value.int .i64)).toArray 3)
    (hn : ∀ n ∈ ns, -9223372036854775808 ≤ n ∧ n ≤ 9223372036854775807) (hl : ws.length + ns.length ≤ 1000000) (c : Nat) :
    Calls Tryz.prog 21 #[.slice (some ⟨X, 0, none⟩) ns.length c, .pointer (some ⟨P, 0, none⟩)] w fun e w' => (∃ u, e = .returned u) ∧ WdM w' B P (ws ++ ns.map Lib.itoa) ∧ Below B w w' := by
  have HE := Lib.hid hE
  have HW := Lib.hid hb
  have HN := Lib.hid hn
  have HI0 := Lib.hid (show AddI ns w w B P X ws 0 from ⟨Nat.zero_le _, by rw [List.take_zero, List.map_nil, List.append_nil]; exact h, hX, Below.refl _ _⟩)
  obtain ⟨i0, hi0, hz0, hz1, hz2⟩ := info_parts infoWd
  clear hE hb h hX hn
  go_enter Tryz.func21, Tryz.ntmps21
  go_wp2_with fail
  go_loopw [7] (fun iv wr => ∃ i : Nat, iv = .int .i64 ((i : Nat) : Int) ∧ AddI ns w wr B P X ws i) (fun iv _ => ns.length - (intOf iv).toNat)
  case atStart => exact ⟨0, rfl, HI0.out⟩
  case round =>
    obtain ⟨i, rfl, hI⟩ := hrel
    have HI := Lib.hid hI
    have hi := hI.le
    clear hI HI0
    by_cases hlt : i < ns.length
    · have c0 : wr.cell? ⟨X, i, none⟩ = some (.int .i64 ns[i]) := (HI.out.ints.cell i).trans (by simp [hlt])
      obtain ⟨hn0, hn1⟩ := HN.out _ (List.getElem_mem hlt)
      have HNX := Lib.hid (show ws ++ (ns.take (i + 1)).map Lib.itoa = (ws ++ (ns.take i).map Lib.itoa) ++ [Lib.itoa ns[i]] by rw [List.take_succ_eq_append_getElem hlt, List.map_append, List.append_assoc]; rfl)
      obtain ⟨vw, hbx, how⟩ := HI.out.mem.box
      have hLl : (ws ++ (ns.take i).map Lib.itoa).length ≤ 1000000 - 1 := by rw [List.length_append, List.length_map, List.length_take]; omega
      have HPE := Lib.hid HI.out.mem.le
      obtain ⟨L, hL⟩ : ∃ L, L = ws ++ (ns.take i).map Lib.itoa := ⟨_, rfl⟩
      rw [← hL] at how hLl HNX
      have HXX := Lib.hid HI.out.ints
      have HBW := Lib.hid HI.out.below
      obtain ⟨va, vc, rfl⟩ := owns_slice how
      generalize ns[i] = n at *
      have HBX := Lib.hid hbx
      have HOW := Lib.hid how
      have m0 := hbx.cell 0
      have hBr : B ≤ wr.heap.size := Nat.le_trans hB HBW.out.size
      clear hbx how hL HI
      go_upto_region 3 with fail
      clear c0
      have hbd := (Below.refl wr.heap.size wr).drew
      have hS0 : (fun W : World => W.cell? ⟨P, 0, none⟩ = some (.slice va L.length vc)) wr.drew := m0
      have HXD := Lib.hid (HBX.out.below hbd HBX.out.lt)
      have HOD := Lib.hid (owns_below HOW.out hbd)
      have HID := Lib.hid (HXX.out.below hbd HXX.out.lt)
      have HBD := Lib.hid (HBW.out.trans (hbd.mono hBr))
      have HED := Lib.hid (HE.out.below (HW.out.trans (HBD.out.mono hEB)))
      have hBd : B ≤ wr.drew.heap.size := hBr
      have hPd : P < wr.drew.heap.size := HXD.out.lt
      refine anyT_start (S := fun W : World => W.cell? ⟨P, 0, none⟩ = some (.slice va L.length vc)) (t := 5) (by kernel_rfl) ?_
      clear hbd m0 HBX HOW HXX HBW hBr
      generalize wr.drew = wd at *
      refine takeT (i := 0) (v := ?_) rfl rfl (by kernel_rfl) (by kernel_rfl) (by kernel_rfl) (fun _ _ _ h => h) (by decide) (by kernel_rfl) (by kernel_rfl) ?_ hS0 ?_
      rotate_left
      · intro w hSw; (try dsimp only at hSw); go_simp; (try with_reducible rfl)
      simp only [List.setIfInBounds_toArray, List.set_cons_zero, List.set_cons_succ]
      refine takeT (i := 1) (v := ?_) rfl rfl (by kernel_rfl) (by kernel_rfl) (by kernel_rfl) (fun _ _ _ h => h) (by decide) (by kernel_rfl) (by kernel_rfl) ?_ hS0 ?_
      rotate_left
      · intro w hSw; (try dsimp only at hSw); go_simp; (try with_reducible rfl)
      simp only [List.setIfInBounds_toArray, List.set_cons_zero, List.set_cons_succ]
      refine oneT (i := 2) rfl (by kernel_rfl) (fun K hK => ?_)
      go_simp
      refine (itoa_any n hn0 hn1 wd HED.out).mono ?_
      rintro e we ⟨rfl, hbe⟩
      have hS1 : (fun W : World => W.cell? ⟨P, 0, none⟩ = some (.slice va L.length vc)) we := (below_cell hbe hPd).trans hS0
      have HXE := Lib.hid (HXD.out.below hbe HXD.out.lt)
      have HOE := Lib.hid (owns_below HOD.out hbe)
      have HIE := Lib.hid (HID.out.below hbe HID.out.lt)
      have HBE := Lib.hid (HBD.out.trans (hbe.mono hBd))
      have hBe : B ≤ we.heap.size := Nat.le_trans hBd hbe.size
      have hPe : P < we.heap.size := HXE.out.lt
      clear hbe
      refine hK.out _ _ (fun _ => hS1) ?_
      clear hK
      try simp only [List.setIfInBounds_toArray, List.set_cons_zero, List.set_cons_succ, Act.put]
      clear HXD HOD HID HBD HED
      refine oneT (i := 3) rfl (by kernel_rfl) (fun K hK => ?_)
      go_simp
      have hb6 : Below we.heap.size we (we.alloc (.cells #[.string (bs (Lib.itoa n))] 9)) := (Below.refl _ _).alloc (Nat.le_refl _) _
      have hS2 : (fun W : World => W.cell? ⟨P, 0, none⟩ = some (.slice va L.length vc)) (we.alloc (.cells #[.string (bs (Lib.itoa n))] 9)) := (below_cell hb6 hPe).trans hS1
      refine hK.out _ _ (fun _ => hS2) ?_
      clear hK
      try simp only [List.setIfInBounds_toArray, List.set_cons_zero, List.set_cons_succ, Act.put]
      refine oneT (i := 4) rfl (by kernel_rfl) (fun K hK => ?_)
      refine step_append_lies _ (by rfl) _ _ _ (by rfl) B 9 i0 (.string ⟨#[]⟩) 1 16 Tryz.underlying75 hi0 hz0 hz1 hz2 rfl (by omega) _ _ _ (by rfl) (HOE.out.alloc _) ⟨we.heap.size, 0, none⟩ 1 1 [.string (bs (Lib.itoa n))] (by rfl) rfl (World.news_of_block (heap_alloc_new _ _)) (by simp [Value.oneCell']) (by omega) (by unfold maxLen; omega) (by omega) (by simp; omega) (we.heap.size + 1) (by simp) ?_
      intro g' c' w6 hown1 hgrow hat hlt'
      have hown4 := HOE.out.alloc (.cells #[.string (bs (Lib.itoa n))] 9)
      have box6 := (HXE.out.alloc (.cells #[.string (bs (Lib.itoa n))] 9)).kept_own hown4 (by decide) hgrow
      have int6 := (HIE.out.alloc (.cells #[.string (bs (Lib.itoa n))] 9)).kept_own hown4 (by decide) hgrow
      have hb7 : Below B w w6 := (HBE.out.alloc (by omega) _).grown hgrow (by simp; omega) (fun q hq => (hown4.lt q hq).1)
      have hgP : (Value.slice (some ⟨g', 0, none⟩) (L.length + 1) c').ownBlock ≠ some P := fun q => by
        obtain ⟨ds, hd⟩ := own_type hown1 q
        have hb : w6.heap[P]? = some (.cells _ 75 (0, 0)) := box6
        rw [hb] at hd
        cases hd
      have x6 := box6.cell 0
      have y6 := box6.fz 0
      have hS6 : (fun W : World => W.cell? ⟨P, 0, none⟩ = some (.slice va L.length vc)) w6 := x6
      have HZ := Lib.hid (show AddI ns w (w6.setCell ⟨P, 0, none⟩ (.slice (some ⟨g', 0, none⟩) (L.length + 1) c')) B P X ws (i + 1) from by
        refine ⟨hlt, ?_, int6.set_other _ _ (has_ne int6 box6 (by decide)), hb7.setCell (p := ⟨P, 0, none⟩) HPE.out _⟩
        rw [HNX.out]
        refine ⟨⟨_, box6.set 0 _, ?_⟩, HPE.out⟩
        have h1 : w6.ownsRow B 9 1 (.slice (some ⟨g', 0, none⟩) (L.length + 1) c') (L ++ [Lib.itoa n]).length ((L ++ [Lib.itoa n]).map wordV) := by
          rw [List.map_append, List.length_append]
          exact hown1
        exact ownsRow_setCell_other (a := ⟨P, 0, none⟩) h1 hgP _)
      refine hK.out _ _ (fun _ => hS6) ?_
      clear hK hown1 hgrow hat hlt' hown4 box6 int6 hb7 hgP hb6 hS0 hS1 hS2
      try simp only [List.setIfInBounds_toArray, List.set_cons_zero, List.set_cons_succ, Act.put]
      refine oneT (i := 5) rfl (by kernel_rfl) (fun K hK => ?_)
      go_simp
      refine hK.out _ _ (fun q => absurd rfl q) ?_
      refine doneT (by kernel_rfl) ?_ _
      clear hS6 hK x6 y6 HXE HOE HIE HBE
      go_wp2_with fail
      go_roundw
      case rel => exact ⟨i + 1, by go_num, HZ.out⟩
      case measure => simp [intOf]; omega
    · obtain rfl : i = ns.length := by omega
      have hm := HI.out.mem
      rw [List.take_length] at hm
      have HM := Lib.hid hm
      clear hm
      go_wp2_with fail
      go_end0
      exact ⟨⟨_, rfl⟩, HM.out, HI.out.below⟩

theorem ClkOk.nums {c : ClkD} (h : ClkOk c) : ∀ n ∈ clkNums c, -1 ≤ n ∧ n ≤ 3000000 := by
  intro n hn
  have hh := h.head
  have h1 := hh.kind
  have h2 := hh.lev
  have h3 := hh.min
  have h4 := hh.start
  have h5 := hh.stop
  have h6 := hh.fin
  rcases List.mem_append.1 hn with q | q
  · simp only [hdNums, List.mem_cons, List.not_mem_nil, or_false] at q
    rcases q with rfl | rfl | rfl | rfl | rfl | rfl <;> omega
  · obtain ⟨p, hp, hq⟩ := List.mem_flatMap.1 q
    obtain ⟨j, hj, rfl⟩ := List.mem_iff_getElem.1 hp
    have g := h.each j hj
    unfold Good at g
    rw [show c.ps.getD j (0, 0, 0) = c.ps[j] by simp [List.getD, hj]] at g
    obtain ⟨g1, g2, g3, _⟩ := g
    simp only [pcNums, List.mem_cons, List.not_mem_nil, or_false] at hq
    rcases hq with rfl | rfl | rfl <;> omega
theorem itoa_7 (n : Int) (h : -1 ≤ n ∧ n ≤ 3000000) : (Lib.itoa n).length ≤ 8 := by
  have hln := itoa_len n 6 (by omega)
  rw [trim_itoa] at hln
  unfold Lib.itoa
  split
  · rw [List.length_cons]; omega
  · rw [show n.toNat = n.natAbs by omega]; omega
theorem clkNums_len (c : ClkD) : (clkNums c).length = 6 + c.ps.length * 3 := by
  unfold clkNums
  rw [List.length_append, nums_len]
  rfl
theorem clkText_len {c : ClkD} (h : ClkOk c) : (Lib.join (clkWords c) [32]).length ≤ 200000 := by
  have h1 := join_le 8 (clkWords c) (fun x hx => by
    rcases List.mem_cons.1 hx with rfl | q
    · decide
    · obtain ⟨n, hn, rfl⟩ := List.mem_map.1 q
      exact itoa_7 n (h.nums n hn))
  have h2 : (clkWords c).length = 7 + c.ps.length * 3 := by
    unfold clkWords
    rw [List.length_cons, List.length_map, clkNums_len]; omega
  have := h.len
  rw [h2] at h1
  omega
/-- the words when i pieces are written -/
def wordsTo (c : ClkD) (i : Nat) : List (List UInt8) := clockW :: (hdNums c ++ (c.ps.take i).flatMap pcNums).map Lib.itoa
structure CtI (c : ClkD) (wb wr : World) (B P i : Nat) : Prop where
  le : i ≤ c.ps.length
  mem : WdM wr B P (wordsTo c i)
  below : Below B wb wr
theorem wordsTo_len (c : ClkD) (i : Nat) (hi : i ≤ c.ps.length) : (wordsTo c i).length = 7 + i * 3 := by
  unfold wordsTo
  rw [List.length_cons, List.length_map, List.length_append, nums_len, List.length_take, Nat.min_eq_left hi]
  show 6 + i * 3 + 1 = _
  omega
theorem wordsTo_next (c : ClkD) (i : Nat) (hi : i < c.ps.length) : wordsTo c (i + 1) = wordsTo c i ++ (pcNums c.ps[i]).map Lib.itoa := by
  unfold wordsTo
  rw [List.take_succ_eq_append_getElem hi, List.flatMap_append, ← List.append_assoc, List.map_append]
  simp
def CtxtPost (c : ClkD) (w : World) (e : Ending) (w' : World) : Prop :=
  ∃ s k, e = .returned (.tuple #[.string s, .int .i64 k]) ∧ Below w.heap.size w w' ∧ (k = 0 ↔ ClkOk c) ∧ (k ≠ 0 → s = ⟨#[]⟩) ∧ (k = 0 → s = bs (clkText c))

set_option maxRecDepth 100000 in
set_option maxHeartbeats 8000000 in
theorem ClockText_any (c : ClkD) (vps : Value) (w : World) (h : Shifts w vps c.ps) (hE : Env w) :
    Calls Tryz.prog 8 #[.agg (clkV c vps)] w (CtxtPost c w) := by
  obtain ⟨pa, pc, rfl⟩ := SliceAt.len h
  obtain ⟨x1, x2⟩ := box1 w (clkV c (.slice pa c.ps.length pc)) 34
  have HCK := Lib.hid (CheckClock_any c _ _ (h.below x2))
  have HX := Lib.hid x1
  have HB := Lib.hid x2
  have H := Lib.hid (h.below x2)
  have HE := Lib.hid (hE.below x2)
  clear x1 x2 h hE
  unfold clkV at *
  go_enter Tryz.func8, Tryz.ntmps8
  go_upto_region 1 with fail
  generalize w.alloc (.cells #[.int .i64 c.kind, .int .i64 c.lev, .int .i64 c.min, .int .i64 c.start, .int .i64 c.stop, .int .i64 c.fin, .slice pa c.ps.length pc] 34) = w1 at *
  have k0 := HX.out.cell 0
  have k1 := HX.out.cell 1
  have k2 := HX.out.cell 2
  have k3 := HX.out.cell 3
  have k4 := HX.out.cell 4
  have k5 := HX.out.cell 5
  have k6 := HX.out.cell 6
  go_wp2_with fail
  refine HCK.out.mono ?_
  rintro e wa ⟨⟨k, rfl, hk⟩, hba⟩
  have HK := Lib.hid hk
  have HBA := Lib.hid (below_up' HB.out hba)
  have HXA := Lib.hid (HX.out.below hba HX.out.lt)
  have HA := Lib.hid (H.out.below hba)
  have HEA := Lib.hid (HE.out.below hba)
  clear hk hba HCK HX HB H HE k0 k1 k2 k3 k4 k5 k6
  by_cases hz : k = 0
  rotate_left
  · have qz : (k == 0) = false := by simpa using hz
    have qz2 : (k != 0) = true := by simpa using hz
    have HZ := Lib.hid hz
    clear hz
    go_wp2_with fail
    go_ret2
    exact ⟨_, _, rfl, HBA.out, HK.out, fun _ => rfl, fun g => absurd g HZ.out⟩
  subst hz
  have HOK := Lib.hid (HK.out.1 rfl)
  clear HK
  have hps := HOK.out.len
  go_upto_region 5 with fail
  have y1 := Has.new wa #[.string ⟨#[99, 108, 111, 99, 107]⟩] 9
  have y2 := (Below.refl wa.heap.size wa).alloc (Nat.le_refl _) (.cells #[.string ⟨#[99, 108, 111, 99, 107]⟩] 9)
  have hzz : (wa.alloc (.cells #[.string ⟨#[99, 108, 111, 99, 107]⟩] 9)).heap.size = wa.heap.size + 1 := by simp
  have z1 := Has.new (wa.alloc (.cells #[.string ⟨#[99, 108, 111, 99, 107]⟩] 9)) #[.slice (some ⟨wa.heap.size, 0, none⟩) 1 1] 75
  rw [hzz] at z1
  have HBB := Lib.hid (y2.alloc (by rw [hzz]; omega) (.cells #[.slice (some ⟨wa.heap.size, 0, none⟩) 1 1] 75))
  have HWM := Lib.hid (show WdM ((wa.alloc (.cells #[.string ⟨#[99, 108, 111, 99, 107]⟩] 9)).alloc (.cells #[.slice (some ⟨wa.heap.size, 0, none⟩) 1 1] 75)) wa.heap.size (wa.heap.size + 1) [clockW] from
    ⟨⟨_, z1, owns_built1 (y1.alloc _) (Nat.le_refl _) rfl (by omega)⟩, Nat.le_succ _⟩)
  clear y1 y2 hzz z1
  generalize (wa.alloc (.cells #[.string ⟨#[99, 108, 111, 99, 107]⟩] 9)).alloc (.cells #[.slice (some ⟨wa.heap.size, 0, none⟩) 1 1] 75) = wb at *
  have HXB := Lib.hid (HXA.out.below HBB.out HXA.out.lt)
  have k0 := HXB.out.cell 0
  have k1 := HXB.out.cell 1
  have k2 := HXB.out.cell 2
  have k3 := HXB.out.cell 3
  have k4 := HXB.out.cell 4
  have k5 := HXB.out.cell 5
  have hBb : wa.heap.size ≤ wb.heap.size := HBB.out.size
  have HNM := Lib.hid HOK.out.nums
  obtain ⟨n1, n2⟩ := box1 wb #[.int .i64 c.kind, .int .i64 c.lev, .int .i64 c.min, .int .i64 c.start, .int .i64 c.stop, .int .i64 c.fin] 3
  have hBn : wa.heap.size ≤ (wb.alloc (.cells #[.int .i64 c.kind, .int .i64 c.lev, .int .i64 c.min, .int .i64 c.start, .int .i64 c.stop, .int .i64 c.fin] 3)).heap.size := Nat.le_trans hBb n2.size
  have HBN := Lib.hid (HBB.out.trans (n2.mono hBb))
  have HAD := Lib.hid (show Calls Tryz.prog 21 #[.slice (some ⟨wb.heap.size, 0, none⟩) 6 6, .pointer (some ⟨wa.heap.size + 1, 0, none⟩)] _ _ from addWords_any (hdNums c) wa.heap.size (wa.heap.size + 1) wb.heap.size [clockW] wa _ HEA.out HBN.out (Nat.le_refl _) hBn
    ⟨⟨_, HWM.out.box.choose_spec.1.below n2 HWM.out.box.choose_spec.1.lt, owns_below HWM.out.box.choose_spec.2 n2⟩, HWM.out.le⟩ n1 (fun n hn => by
      have := HNM.out n (List.mem_append_left _ hn)
      omega) (by show 1 + 6 ≤ 1000000; omega) 6)
  clear n1 n2
  go_wp2_with fail
  refine HAD.out.mono ?_
  rintro e wc ⟨⟨u, rfl⟩, hm, hbc⟩
  have HBC := Lib.hid (HBN.out.trans hbc)
  have HI0 := Lib.hid (show CtI c wa wc wa.heap.size (wa.heap.size + 1) 0 from ⟨Nat.zero_le _, by
    have e : wordsTo c 0 = [clockW] ++ (hdNums c).map Lib.itoa := by unfold wordsTo; simp
    rw [e]; exact hm, HBC.out⟩)
  have HXC := Lib.hid (HXA.out.below HBC.out HXA.out.lt)
  have k6 := HXC.out.cell 6
  clear hm hbc HAD HWM HBB HXB HBN hBb hBn k0 k1 k2 k3 k4 k5
  go_wp2_with fail
  go_loopw [34] (fun iv wr => ∃ i : Nat, iv = .int .i64 ((i : Nat) : Int) ∧ CtI c wa wr wa.heap.size (wa.heap.size + 1) i) (fun iv _ => c.ps.length - (intOf iv).toNat)
  case atStart => exact ⟨0, rfl, HI0.out⟩
  case round =>
    obtain ⟨i, rfl, hI⟩ := hrel
    have HI := Lib.hid hI
    have hi := hI.le
    clear hI HI0
    by_cases hlt : i < c.ps.length
    · obtain ⟨b, of', cap, hv, hb, hel⟩ := Shifts.at HA.out (by omega)
      cases hv
      obtain ⟨e0, e1, e2⟩ := hel i hlt
      have c0 := (below_cell HI.out.below hb).trans e0
      have c1 := (below_cell HI.out.below hb).trans e1
      have c2 := (below_cell HI.out.below hb).trans e2
      have HNX := Lib.hid (wordsTo_next c i hlt)
      have HWL := Lib.hid (wordsTo_len c i hi)
      have HPN := Lib.hid (show ∀ n ∈ pcNums c.ps[i], -1 ≤ n ∧ n ≤ 3000000 from fun n hn => HNM.out n (List.mem_append_right _ (List.mem_flatMap.2 ⟨_, List.getElem_mem hlt, hn⟩)))
      clear e0 e1 e2 hel k6
      generalize c.ps[i] = q at *
      obtain ⟨q1, q2, q3⟩ := q
      simp only at c0 c1 c2
      have hwr : wa.heap.size ≤ wr.heap.size := HI.out.below.size
      go_upto_region 10 with fail
      obtain ⟨bx, bbl⟩ := box1 wr #[.int .i64 q1, .int .i64 q2, .int .i64 q3] 79
      have HB4 := Lib.hid (HI.out.below.trans (bbl.mono hwr))
      have hm := HI.out.mem.box
      have HM4 := Lib.hid (show WdM (wr.alloc (.cells #[.int .i64 q1, .int .i64 q2, .int .i64 q3] 79)) wa.heap.size (wa.heap.size + 1) (wordsTo c i) from ⟨⟨_, hm.choose_spec.1.below bbl hm.choose_spec.1.lt, owns_below hm.choose_spec.2 bbl⟩, HI.out.mem.le⟩)
      have d0 := bx.cell 0
      have d1 := bx.cell 1
      have d2 := bx.cell 2
      clear bx bbl hm c0 c1 c2 HI hwr
      generalize wr.alloc (.cells #[.int .i64 q1, .int .i64 q2, .int .i64 q3] 79) = w4 at *
      generalize wr.heap.size = D at *
      have hw4 : wa.heap.size ≤ w4.heap.size := HB4.out.size
      obtain ⟨n1, n2⟩ := box1 w4 #[.int .i64 q1, .int .i64 q2, .int .i64 q3] 3
      have hBn : wa.heap.size ≤ (w4.alloc (.cells #[.int .i64 q1, .int .i64 q2, .int .i64 q3] 3)).heap.size := Nat.le_trans hw4 n2.size
      have HB5 := Lib.hid (HB4.out.trans (n2.mono hw4))
      have hm := HM4.out.box
      have HAD := Lib.hid (show Calls Tryz.prog 21 #[.slice (some ⟨w4.heap.size, 0, none⟩) 3 3, .pointer (some ⟨wa.heap.size + 1, 0, none⟩)] _ _ from addWords_any (pcNums (q1, q2, q3)) wa.heap.size (wa.heap.size + 1) w4.heap.size (wordsTo c i) wa _ HEA.out HB5.out (Nat.le_refl _) hBn
        ⟨⟨_, hm.choose_spec.1.below n2 hm.choose_spec.1.lt, owns_below hm.choose_spec.2 n2⟩, HM4.out.le⟩ n1 (fun n hn => by
          have := HPN.out n hn
          omega) (by rw [HWL.out]; show 7 + i * 3 + 3 ≤ _; omega) 3)
      clear n1 n2 hm
      go_wp2_with fail
      refine HAD.out.mono ?_
      rintro e w6 ⟨⟨u, rfl⟩, hm, hb6⟩
      have HZ := Lib.hid (show CtI c wa w6 wa.heap.size (wa.heap.size + 1) (i + 1) from ⟨hlt, by rw [HNX.out]; exact hm, HB5.out.trans hb6⟩)
      clear hm hb6 HAD
      go_wp2_with fail
      go_roundw
      case rel => exact ⟨i + 1, by go_num, HZ.out⟩
      case measure => simp [intOf]; omega
    · obtain rfl : i = c.ps.length := by omega
      have ew : wordsTo c c.ps.length = clkWords c := by unfold wordsTo clkWords clkNums; rw [List.take_length]
      obtain ⟨vw, hbx, how⟩ := HI.out.mem.box
      have hLN := wordsTo_len c c.ps.length hi
      rw [ew] at how hLN
      obtain ⟨n, hn⟩ : ∃ n, n = (clkWords c).length := ⟨_, rfl⟩
      rw [← hn] at how hLN
      obtain ⟨va, vc, rfl⟩ := owns_slice how
      have m0 := hbx.cell 0
      have hJ := clkText_len HOK.out
      have HJ := Lib.hid (join_words (clkWords c) _ wa.heap.size n hn wr how (by omega) (by omega) (by omega))
      have HBR := Lib.hid HI.out.below
      have HTX := Lib.hid (show bs (Lib.join (clkWords c) [32]) ++ ⟨#[10]⟩ = bs (clkText c) from bs_append _ [10])
      have hTs : (bs (Lib.join (clkWords c) [32])).size ≤ 200000 := by rw [bs_size]; exact hJ
      clear hbx how ew hJ HI hn hLN
      generalize bs (Lib.join (clkWords c) [32]) = T at *
      go_wp2_with fail
      refine HJ.out.mono ?_
      rintro e w7 ⟨rfl, hb7⟩
      have HB7 := Lib.hid (below_up' (below_up' HBA.out HBR.out) hb7)
      clear hb7 HJ HBR
      go_wp2_with fail
      go_ret2
      exact ⟨_, _, rfl, HB7.out, ⟨fun _ => HOK.out, fun _ => rfl⟩, fun g => absurd rfl g, fun _ => HTX.out⟩
end Go.Proofs.YtllcgcnebofdoaaGreatDoor
