/- The walks of strings.Replacer (Once, build, Replace) and of know.Quote. -/
import Derived.Test.YtfohehldkchnjaaTpRep
import Derived.Test.YtfohehldkchnjaaStrs
namespace Go.Proofs.Ytfohehldkchnjaa
open Go.RowKit

theorem RepI.at' {wb w w' : World} {R : Nat} (h : RepI wb w R 2) (hs : w.heap.size ≤ w'.heap.size) (he : ∀ k, wb.heap.size ≤ k → w'.heap[k]? = w.heap[k]?) : RepAt w' R := by
  obtain ⟨C, v, hC, hsz, h0, h1, h2, h3, h4⟩ := h.cs
  obtain ⟨p, pc, p1, pb, _, p4⟩ := h3 (by omega)
  obtain ⟨q, qc, q1, qb, _, q4⟩ := h4 (by omega)
  have hC' : Has w' R C 104 := (he R h.ge).trans hC
  have p4' := p4.same (he p pb)
  have q4' := q4.same (he q qb)
  refine ⟨hC'.lt, ?_, ⟨p, pc, (hC'.cell 92).trans p1, p4'.lt, p4'.cells.1, p4'.cells.2⟩, ⟨q, qc, (hC'.cell 123).trans q1, q4'.lt, q4'.cells.1, q4'.cells.2⟩, fun j hj g1 g2 => (hC'.cell j).trans (h0 j hj (fun _ => g1) (fun _ => g2))⟩
  rcases h2.2 with ⟨_, e⟩ | ⟨t, cap, cur, rfl, htb, hg, hh1, hh2, hh3, hh4⟩
  · omega
  · have hg' := (he t htb).trans hg
    have h2' : w'.ownsRow wb.heap.size 9 1 (.slice (some ⟨t, 0, none⟩) 2 cap) 2 ([Value.string ⟨#[92]⟩, .string ⟨#[123]⟩].take 2) := ⟨h2.1, .inr ⟨t, cap, cur, rfl, htb, hg', hh1, hh2, hh3, hh4⟩⟩
    refine ⟨t, cap, (hC'.cell 256).trans h1, (Array.getElem?_eq_some_iff.1 hg').1, ?_, ?_⟩
    · have := h2'.cells (g := t) rfl 0 (.string ⟨#[92]⟩) rfl
      simpa [Addr.add] using this
    · have := h2'.cells (g := t) rfl 1 (.string ⟨#[123]⟩) rfl
      have e : (⟨t, 0, none⟩ : Addr).add 1 = ⟨t, 1, none⟩ := rfl
      rwa [e] at this

/-- a Replacer that has not been built -/
def Fresh (w : World) (b g c : Nat) (st : Int) : Prop := Has w b #[.int .u32 0, .int .i32 st, .int .u32 0, .nilIface, .slice (some ⟨g, 0, none⟩) 4 c] 72
def rpV (R : Nat) : Value := .iface 105 (.pointer (some ⟨R, 0, none⟩))
set_option maxRecDepth 100000 in
set_option maxHeartbeats 4000000 in
theorem buildOnce_any (b g c : Nat) (st : Int) (w : World) (h : Fresh w b g c st) (hF : Four w g) :
    Calls Try.prog 19 #[.pointer (some ⟨b, 0, none⟩)] w fun e w' => e = .returned (.tuple #[]) ∧ ∃ R w1, RepI w w1 R 2 ∧ w' = (w1.setCell ⟨b, 3, none⟩ (rpV R)).setCell ⟨b, 4, none⟩ (.slice none 0 0) := by
  have H := Lib.hid h
  have HBD := Lib.hid (build_any b g c w (Has.cell h 4) hF)
  clear h hF
  go_enter Try.func19, Try.ntmps19
  go_wp2_with fail
  refine HBD.out.mono ?_
  rintro e w1 ⟨R, rfl, hI⟩
  have HI := Lib.hid hI
  have hx : Has w1 b _ _ := Has.below H.out hI.below (Has.lt H.out)
  have k3 := hx.cell 3
  have f3 := hx.fz 3
  have hy := hx.set 3 (rpV R)
  have k4 := hy.cell 4
  have f4 := hy.fz 4
  unfold rpV at k4 f4
  clear hx hy hI HBD
  go_wp2_with fail
  go_end0
  exact ⟨rfl, R, w1, HI.out, rfl⟩
set_option maxRecDepth 100000 in
theorem load_zero (a : Addr) (w : World) (h : w.cell? a = some (.int .u32 0)) :
    Calls Try.prog 30 #[.pointer (some a)] w fun e w' => e = .returned (.bool false) ∧ w' = w := by
  have hl := run_call_load (P := Try.prog) Try.func37 (by kernel_rfl) (by kernel_rfl) (by kernel_rfl) .u32 (by kernel_rfl) (w := w) (a := a) (x := 0) h
  go_enter Try.func30, Try.ntmps30
  go_wp2
  go_ret
  exact ⟨rfl, rfl⟩
/-- the world behind Do -/
def doneW (w1 : World) (b R : Nat) : World := (((w1.setCell ⟨b, 3, none⟩ (rpV R)).setCell ⟨b, 4, none⟩ (.slice none 0 0)).drew.setCell ⟨b, 0, none⟩ (.int .u32 1)).setCell ⟨b, 1, none⟩ (.int .i32 0)
set_option maxRecDepth 100000 in
set_option maxHeartbeats 4000000 in
theorem slow_any (b g c : Nat) (w : World) (h : Fresh w b g c 0) (hF : Four w g) :
    Calls Try.prog 31 #[.pointer (some ⟨b, 0, none⟩), .func (.func 19) #[.pointer (some ⟨b, 0, none⟩)] #[]] w fun e w' => e = .returned (.tuple #[]) ∧ ∃ R w1, RepI (w.setCell ⟨b, 1, none⟩ (.int .i32 1)) w1 R 2 ∧ w' = doneW w1 b R := by
  have hbg : g ≠ b := by
    rintro rfl
    have h0 := hF.c0
    rw [Has.cell h 0] at h0
    cases h0
  have h1 : Fresh (w.setCell ⟨b, 1, none⟩ (.int .i32 1)) b g c 1 := Has.set h 1 _
  have hF1 : Four (w.setCell ⟨b, 1, none⟩ (.int .i32 1)) g := ⟨by rw [World.size_setCell]; exact hF.lt, (set_block (Ne.symm hbg)).trans hF.c0, (set_block (Ne.symm hbg)).trans hF.c1, (set_block (Ne.symm hbg)).trans hF.c2, (set_block (Ne.symm hbg)).trans hF.c3⟩
  have c1 := Has.cell h 1
  have f1 := Has.fz h 1
  have HL := Lib.hid (load_zero ⟨b, 0, none⟩ _ (Has.cell h1 0))
  have hnot : ∀ (x : Bool) (w : World), (Op.unary .not (.bool x)).run Try.prog w = .ok (.bool (!x)) w := fun _ _ => rfl
  have HBO := Lib.hid (buildOnce_any b g c 1 _ h1 hF1)
  have H1 := Lib.hid h1
  clear h h1 hF hF1
  go_enter_defers Try.func31, Try.ntmps31
  go_wp2_with (first | (go_at_call 38; refine (lock_free ⟨b, 1, none⟩ _ (by go_simp) (by go_simp)).mono ?_; rintro e w' ⟨rfl, rfl⟩) | (go_at_call 30; refine HL.out.mono ?_; rintro e w' ⟨rfl, rfl⟩) | (go_at_call 19; refine HBO.out.mono ?_; rintro e w' ⟨rfl, R, w1, hI, rfl⟩))
  have hx := ((Has.below H1.out hI.below (Has.lt H1.out)).set 3 (rpV R)).set 4 (.slice none 0 0)
  have hy : Has ((w1.setCell ⟨b, 3, none⟩ (rpV R)).setCell ⟨b, 4, none⟩ (.slice none 0 0)).drew b _ _ := hx
  have hz := hy.set 0 (.int .u32 1)
  refine leaves_cons (f := 40) (args := #[.pointer (some ⟨b, 0, none⟩), .bool true]) (by simp) (by simp [go_sem]) ?_
  refine (store_deferred ⟨b, 0, none⟩ (.int .u32 0) .returning _ (hx.cell 0) (hx.fz 0)).mono ?_
  rintro e u' w'' ⟨rfl, rfl, rfl⟩
  refine leaves_cons (f := 39) (args := #[.pointer (some ⟨b, 1, none⟩)]) (by simp [settle]) (by simp [go_sem]) ?_
  refine (unlock_deferred ⟨b, 1, none⟩ _ _ (hz.cell 1) (hz.fz 1)).mono ?_
  rintro e u' w'' ⟨rfl, rfl, rfl⟩
  simp [Leaves, settle, results, Try.results31]
  exact ⟨R, w1, hI, rfl⟩
set_option maxRecDepth 100000 in
set_option maxHeartbeats 1000000 in
theorem do_any (b g c : Nat) (w : World) (h : Fresh w b g c 0) (hF : Four w g) :
    Calls Try.prog 18 #[.pointer (some ⟨b, 0, none⟩), .func (.func 19) #[.pointer (some ⟨b, 0, none⟩)] #[]] w fun e w' => e = .returned (.tuple #[]) ∧ ∃ R w1, RepI (w.setCell ⟨b, 1, none⟩ (.int .i32 1)) w1 R 2 ∧ w' = doneW w1 b R := by
  have hnot : ∀ (x : Bool) (w : World), (Op.unary .not (.bool x)).run Try.prog w = .ok (.bool (!x)) w := fun _ _ => rfl
  have HL := Lib.hid (load_zero ⟨b, 0, none⟩ _ (Has.cell h 0))
  have HS := Lib.hid (slow_any b g c w h hF)
  clear h hF
  go_enter Try.func18, Try.ntmps18
  go_wp2_with (first | (go_at_call 30; refine HL.out.mono ?_; rintro e w' ⟨rfl, rfl⟩) | (go_at_call 31; refine HS.out.mono ?_; rintro e w' ⟨rfl, R, w1, hI, rfl⟩))
  go_end0
  exact ⟨rfl, R, w1, hI, rfl⟩
set_option maxRecDepth 100000 in
set_option maxHeartbeats 4000000 in
theorem Replace_any (B b g c : Nat) (s : ByteArray) (w : World) (h : Fresh w b g c 0) (hF : Four w g) (hs : s.size ≤ 140737488351232) (hB : B ≤ b) :
    Calls Try.prog 10 #[.pointer (some ⟨b, 0, none⟩), .string s] w fun e w' => e = .returned (.string ⟨(quo s.data.toList).toArray⟩) ∧ Below B w w' := by
  have HD := Lib.hid (do_any b g c w h hF)
  have H := Lib.hid h
  clear h hF
  go_enter Try.func10, Try.ntmps10
  go_wp2_with fail
  refine HD.out.mono ?_
  rintro e w2 ⟨rfl, R, w1, hI, rfl⟩
  have hlt : b < w.heap.size := Has.lt H.out
  have hIb := hI.below
  rw [World.size_setCell] at hIb
  have hx1 : Has w1 b #[.int .u32 0, .int .i32 1, .int .u32 0, .nilIface, .slice (some ⟨g, 0, none⟩) 4 c] 72 := (Has.set H.out 1 (.int .i32 1)).below hIb hlt
  have hx2 := (hx1.set 3 (rpV R)).set 4 (.slice none 0 0)
  have hx3 : Has ((w1.setCell ⟨b, 3, none⟩ (rpV R)).setCell ⟨b, 4, none⟩ (.slice none 0 0)).drew b _ _ := hx2
  have hx4 : Has (doneW w1 b R) b _ _ := (hx3.set 0 (.int .u32 1)).set 1 (.int .i32 0)
  have HR := Lib.hid (show RepAt (doneW w1 b R) R from RepI.at' hI (by simp [doneW]) (fun k hk => by
    have hk' : k ≠ b := by rw [World.size_setCell] at hk; omega
    unfold doneW
    rw [Below.heap_setCell _ _ _ _ hk', Below.heap_setCell _ _ _ _ hk']
    show ((w1.setCell ⟨b, 3, none⟩ (rpV R)).setCell ⟨b, 4, none⟩ (.slice none 0 0)).heap[k]? = _
    rw [Below.heap_setCell _ _ _ _ hk', Below.heap_setCell _ _ _ _ hk']))
  have HBB := Lib.hid (show Below B w (doneW w1 b R) from by
    unfold doneW
    exact (((((((Below.refl B w).setCell (p := ⟨b, 1, none⟩) hB (.int .i32 1)).trans (hIb.mono (by omega))).setCell (p := ⟨b, 3, none⟩) hB _).setCell (p := ⟨b, 4, none⟩) hB _).drew.setCell (p := ⟨b, 0, none⟩) hB _).setCell (p := ⟨b, 1, none⟩) hB _))
  have k3 := hx4.cell 3
  unfold rpV at k3
  have HRP := Lib.hid (replace_any R s (doneW w1 b R) HR.out hs)
  clear hx1 hx2 hx3 hx4 hI hIb HD
  generalize doneW w1 b R = w5 at *
  have hm : ∀ (n : Nat) (w : World), (method (n + 1) 105 (.pointer (some ⟨R, 0, none⟩)) "Replace").run Try.prog w = .ok (103, .pointer (some ⟨R, 0, none⟩)) w := fun _ _ => by kernel_rfl
  go_wp2_with (go_at_call 103; refine HRP.out.mono ?_; rintro e w6 ⟨rfl, hb6⟩)
  go_ret
  exact ⟨rfl, HBB.out.trans (hb6.mono (by have := HBB.out.size; omega))⟩
set_option maxRecDepth 100000 in
set_option maxHeartbeats 4000000 in
theorem newReplacer_any (g : Nat) (w : World) (hF : Four w g) :
    Calls Try.prog 9 #[.slice (some ⟨g, 0, none⟩) 4 4] w fun e w' => ∃ b g' c, e = .returned (.pointer (some ⟨b, 0, none⟩)) ∧ w.heap.size ≤ b ∧ Fresh w' b g' c 0 ∧ Four w' g' ∧ Below w.heap.size w w' := by
  have HS := Lib.hid (show SliceAt 1 strR w (.slice (some ⟨g, 0, none⟩) 4 4) [⟨#[123]⟩, ⟨#[92, 123]⟩, ⟨#[92]⟩, ⟨#[92, 92]⟩] from .inr ⟨g, 0, 4, rfl, Nat.le_refl _, hF.lt, fun i hi => by
    match i, hi with
    | 0, _ => exact ⟨[_], ⟨rfl, fun j hj => by obtain rfl : j = 0 := by simpa using hj
                                               exact hF.c0⟩, rfl⟩
    | 1, _ => exact ⟨[_], ⟨rfl, fun j hj => by obtain rfl : j = 0 := by simpa using hj
                                               exact hF.c1⟩, rfl⟩
    | 2, _ => exact ⟨[_], ⟨rfl, fun j hj => by obtain rfl : j = 0 := by simpa using hj
                                               exact hF.c2⟩, rfl⟩
    | 3, _ => exact ⟨[_], ⟨rfl, fun j hj => by obtain rfl : j = 0 := by simpa using hj
                                               exact hF.c3⟩, rfl⟩⟩)
  clear hF
  go_enter Try.func9, Try.ntmps9
  go_wp2_with (at_builtin; go_must (refine append_strs rfl _ _ rfl w.heap.size w w (.slice none 0 0) 0 [] rfl (World.ownsRow_nil _ _ _ _) (some ⟨g, 0, none⟩) 4 4 [⟨#[123]⟩, ⟨#[92, 123]⟩, ⟨#[92]⟩, ⟨#[92, 92]⟩] rfl rfl HS.out (by omega) (Nat.le_refl _) (Below.refl _ _) ?_); intro v' w6 ho hb6 hg6; obtain ⟨na, nc, rfl⟩ := owns_slice ho; have HO6 := Lib.hid ho; have HB6 := Lib.hid hb6; clear ho hb6 hg6)
  have hbx := box1 w6 #[.int .u32 0, .int .i32 0, .int .u32 0, .nilIface, .slice na 4 nc] 72
  have HX := Lib.hid hbx.1
  have HBX := Lib.hid hbx.2
  go_ret
  rcases HO6.out.2 with ⟨_, e⟩ | ⟨g', cap, cur, hv, htb, hg, hh1, hh2, hh3, hh4⟩
  · omega
  · cases hv
    have hlt : g' < w6.heap.size := (Array.getElem?_eq_some_iff.1 hg).1
    have hc := fun (j : Nat) u hj => HO6.out.cells (g := g') rfl j u hj
    have hadd : ∀ j, (⟨g', 0, none⟩ : Addr).add j = ⟨g', j, none⟩ := fun j => by unfold Addr.add; split <;> simp_all
    simp only [hadd] at hc
    refine ⟨_, g', nc, rfl, HB6.out.size, HX.out, ⟨Nat.lt_of_lt_of_le hlt HBX.out.size, ?_, ?_, ?_, ?_⟩, below_up HB6.out HBX.out HB6.out.size⟩
    · exact (below_cell HBX.out hlt).trans (hc 0 _ rfl)
    · exact (below_cell HBX.out hlt).trans (hc 1 _ rfl)
    · exact (below_cell HBX.out hlt).trans (hc 2 _ rfl)
    · exact (below_cell HBX.out hlt).trans (hc 3 _ rfl)
set_option maxRecDepth 100000 in
set_option maxHeartbeats 4000000 in
theorem Quote_any (s : ByteArray) (w : World) (hs : s.size ≤ 140737488351232) :
    Calls Try.prog 5 #[.string s] w fun e w' => e = .returned (.string ⟨(quo s.data.toList).toArray⟩) ∧ Below w.heap.size w w' := by
  have h1 := Has.new w #[.string ⟨#[123]⟩, .string ⟨#[92, 123]⟩, .string ⟨#[92]⟩, .string ⟨#[92, 92]⟩] 9
  have h2 := (Below.refl w.heap.size w).alloc (Nat.le_refl _) (.cells #[.string ⟨#[123]⟩, .string ⟨#[92, 123]⟩, .string ⟨#[92]⟩, .string ⟨#[92, 92]⟩] 9)
  have HN := Lib.hid (newReplacer_any w.heap.size _ ⟨h1.lt, h1.cell 0, h1.cell 1, h1.cell 2, h1.cell 3⟩)
  have HB := Lib.hid h2
  have hsz : w.heap.size ≤ (w.alloc (.cells #[.string ⟨#[123]⟩, .string ⟨#[92, 123]⟩, .string ⟨#[92]⟩, .string ⟨#[92, 92]⟩] 9)).heap.size := h2.size
  clear h1 h2
  go_enter Try.func5, Try.ntmps5
  go_wp2_with fail
  refine HN.out.mono ?_
  rintro e w3 ⟨b, g, c, rfl, hb, hf, hF, hb3⟩
  have HB3 := Lib.hid (HB.out.trans (hb3.mono hsz))
  have HRP := Lib.hid (Replace_any w.heap.size b g c s w3 hf hF hs (Nat.le_trans hsz hb))
  clear hf hF hb3 HN hb hsz
  go_wp2_with fail
  refine HRP.out.mono ?_
  rintro e w4 ⟨rfl, hb4⟩
  have HB4 := Lib.hid (HB3.out.trans hb4)
  clear hb4
  go_wp2_with fail
  go_ret
  exact ⟨rfl, HB4.out⟩
end Go.Proofs.Ytfohehldkchnjaa
