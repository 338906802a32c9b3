/- The walk of (*strings.Replacer).build at the four strings of know.Quote. -/
import Derived.Test.YtfohehldkchnjaaTpOnce
import Derived.Test.YtfohehldkchnjaaTpLaw
import Derived.Deep.WholeRow
import Derived.Lib.SliceRun
namespace Go.Proofs.Ytfohehldkchnjaa
open Go.RowKit

def b1 (a : UInt8) : ByteArray := ⟨#[a]⟩
def b2 (a b : UInt8) : ByteArray := ⟨#[a, b]⟩
/-- the four strings -/
structure Four (w : World) (g : Nat) : Prop where
  lt : g < w.heap.size
  c0 : w.cell? ⟨g, 0, none⟩ = some (.string ⟨#[123]⟩)
  c1 : w.cell? ⟨g, 1, none⟩ = some (.string ⟨#[92, 123]⟩)
  c2 : w.cell? ⟨g, 2, none⟩ = some (.string ⟨#[92]⟩)
  c3 : w.cell? ⟨g, 3, none⟩ = some (.string ⟨#[92, 92]⟩)
/-- a byteStringReplacer as it is laid -/
noncomputable def repC (v : Value) : Array Value := (Try.zeroCells104.toList.set 256 v).toArray
theorem zero_rep : Try.zeroCells104 = (List.replicate 257 (Value.slice none 0 0)).toArray := by kernel_rfl
theorem rep_size (n : Nat) (x v : Value) : ((List.replicate n x).toArray.toList.set 256 v).toArray.size = n := by simp
theorem rep_at (n m k : Nat) (x v : Value) (hk : k < n) (hm : k ≠ m) : ((List.replicate n x).toArray.toList.set m v).toArray[k]? = some x := by
  rw [List.getElem?_toArray, List.getElem?_set_ne (by omega)]
  simp [hk]
theorem rep_last (n m : Nat) (x v : Value) (hk : m < n) : ((List.replicate n x).toArray.toList.set m v).toArray[m]? = some v := by
  rw [List.getElem?_toArray, List.getElem?_set_self (by simpa using hk)]
theorem repC_size (v : Value) : (repC v).size = 257 := by
  unfold repC
  rw [zero_rep]
  exact rep_size 257 _ v
theorem repC_at (v : Value) {k : Nat} (hk : k < 256) : (repC v)[k]? = some (.slice none 0 0) := by
  unfold repC
  rw [zero_rep]
  exact rep_at 257 256 k _ v (by omega) (by omega)
theorem repC_last (v : Value) : (repC v)[256]? = some v := by
  unfold repC
  rw [zero_rep]
  exact rep_last 257 256 _ v (by omega)
theorem zero_rep_size : Try.zeroCells104.size = 257 := by
  rw [zero_rep]
  rw [List.size_toArray, List.length_replicate]
theorem store_rep (W : World) (n : Nat) (hn : W.heap.size = n) (a : Option Addr) (m c : Nat) : (storeCells ⟨n, 0, none⟩ (Try.zeroCells104.toList.set 256 (.slice a m c)) 0).run Try.prog (W.alloc (.cells Try.zeroCells104 104)) = .ok () (W.alloc (.cells (repC (.slice a m c)) 104)) := by
  subst hn
  have hz := zero_rep_size
  refine run_storeCells_new (P := Try.prog) W 104 Try.zeroCells104 (repC (.slice a m c)) ?_ (hz.trans (repC_size _).symm) ?_
  · rw [repC_size]
    kernel_rfl
  · rw [Array.all_eq_true]
    intro i hi
    by_cases e : i = 256
    · subst e
      have := repC_last (.slice a m c)
      rw [Array.getElem?_eq_getElem hi] at this
      rw [Option.some.inj this]
      rfl
    · have := repC_at (.slice a m c) (k := i) (by rw [repC_size] at hi; omega)
      rw [Array.getElem?_eq_getElem hi] at this
      rw [Option.some.inj this]
      rfl
theorem make_strs (w : World) : (Instr.makeSlice 22 (.int .i64 0) (.int .i64 2)).run Try.prog w = .ok (.slice (some ⟨w.heap.size, 0, none⟩) 0 2) (w.alloc (.cells #[.string ⟨#[]⟩, .string ⟨#[]⟩] 9)) := by
  obtain ⟨i0, hi, hz0, hz1, hz2⟩ := info_parts (show (Try.prog.info? 9).map (fun i => (i.zero, i.size, i.bytes)) = some (some (.string ⟨#[]⟩), 1, 16) by kernel_rfl)
  have h := run_make (P := Try.prog) w 22 9 i0 (.string ⟨#[]⟩) Try.underlying22 hi hz0 .i64 .i64 0 2 (by omega) (by omega) (by rw [hz2]; omega) (by omega)
  rw [h, hz1, show madeCells (Value.string ⟨#[]⟩).cells (Int.toNat 2 * 1) = #[.string ⟨#[]⟩, .string ⟨#[]⟩] by kernel_rfl]
  rfl
/-- block p: a row of bytes that begins with two -/
def Bt (w : World) (p : Nat) (x y : Int) : Prop := ∃ C fz, w.heap[p]? = some (.cells C 5 fz) ∧ C[0]? = some (.int .u8 x) ∧ C[1]? = some (.int .u8 y)
theorem Bt.lt {w : World} {p : Nat} {x y : Int} (h : Bt w p x y) : p < w.heap.size := by
  obtain ⟨_, _, h, _⟩ := h
  exact (Array.getElem?_eq_some_iff.1 h).1
theorem Bt.cells {w : World} {p : Nat} {x y : Int} (h : Bt w p x y) : w.cell? ⟨p, 0, none⟩ = some (.int .u8 x) ∧ w.cell? ⟨p, 1, none⟩ = some (.int .u8 y) := by
  obtain ⟨C, fz, h, h0, h1⟩ := h
  simp [World.cell?, h, h0, h1]
theorem Bt.same {w w' : World} {p : Nat} {x y : Int} (h : Bt w p x y) (he : w'.heap[p]? = w.heap[p]?) : Bt w' p x y := by
  obtain ⟨C, fz, h, r⟩ := h
  exact ⟨C, fz, he.trans h, r⟩
theorem Bt.below {w w' : World} {p B : Nat} {x y : Int} (h : Bt w p x y) (hb : Below B w w') (hp : p < B) : Bt w' p x y := h.same (hb.block p hp)
theorem Bt.set {w : World} {p c i : Nat} {x y : Int} {v : Value} (h : Bt w p x y) (hne : p ≠ c) : Bt (w.setCell ⟨c, i, none⟩ v) p x y := h.same (Below.heap_setCell _ _ _ _ hne)
theorem Bt.kept_own {w w' : World} {p B sz n : Nat} {x y : Int} {e : TypeId} {v : Value} {xs : List Value} (h : Bt w p x y) (ho : w.ownsRow B e sz v n xs) (hte : 5 ≠ e) (hg : w.grownBy w' v.ownBlock) : Bt w' p x y := by
  refine h.same (hg.block p h.lt ?_)
  intro e1
  obtain ⟨C, fz, hc, _⟩ := h
  rcases ho.2 with ⟨rfl, _⟩ | ⟨g, cap, cur, rfl, _, hgg, _⟩
  · cases e1
  · have e2 : p = g := by simpa [Value.ownBlock] using e1
    subst e2
    rw [hc] at hgg
    cases hgg
    exact hte rfl
theorem Bt.new (w : World) (x y : UInt8) : Bt (Lib.bytesWorld w 5 ⟨#[x, y]⟩) w.heap.size x.toNat y.toNat := by
  refine ⟨_, _, Lib.bytesWorld_at_new _ _ _, ?_, ?_⟩ <;> simp [Lib.bytesCells, Array.getElem?_append]
/-- the replacement of byte o: a slice of two bytes -/
def RepO (w : World) (R B : Nat) (v : Option Value) (y : Int) : Prop := ∃ p c, v = some (.slice (some ⟨p, 0, none⟩) 2 c) ∧ B ≤ p ∧ p ≠ R ∧ Bt w p 92 y
/-- block R: a byteStringReplacer with two bytes' replacements, as far as laid -/
structure RepI (wb wr : World) (R : Nat) (k : Nat) : Prop where
  below : Below wb.heap.size wb wr
  ge : wb.heap.size ≤ R
  cs : ∃ C v, Has wr R C 104 ∧ C.size = 257 ∧ (∀ j, j < 256 → (1 ≤ k → j ≠ 92) → (2 ≤ k → j ≠ 123) → C[j]? = some (.slice none 0 0)) ∧ C[256]? = some v ∧ wr.ownsRow wb.heap.size 9 1 v k ([Value.string ⟨#[92]⟩, .string ⟨#[123]⟩].take k) ∧
    (1 ≤ k → RepO wr R wb.heap.size C[92]? 92) ∧ (2 ≤ k → RepO wr R wb.heap.size C[123]? 123)
theorem RepI.start (wb : World) : RepI wb ((wb.alloc (.cells #[.string ⟨#[]⟩, .string ⟨#[]⟩] 9)).alloc (.cells (repC (.slice (some ⟨wb.heap.size, 0, none⟩) 0 2)) 104)) (wb.heap.size + 1) 0 := by
  have h1 := (Below.refl wb.heap.size wb).alloc (Nat.le_refl _) (.cells #[.string ⟨#[]⟩, .string ⟨#[]⟩] 9)
  have hz : (wb.alloc (.cells #[.string ⟨#[]⟩, .string ⟨#[]⟩] 9)).heap.size = wb.heap.size + 1 := by simp
  have h2 := (Has.new wb #[.string ⟨#[]⟩, .string ⟨#[]⟩] 9).alloc (.cells (repC (.slice (some ⟨wb.heap.size, 0, none⟩) 0 2)) 104)
  have h3 := Has.new (wb.alloc (.cells #[.string ⟨#[]⟩, .string ⟨#[]⟩] 9)) (repC (.slice (some ⟨wb.heap.size, 0, none⟩) 0 2)) 104
  rw [hz] at h3
  refine ⟨h1.alloc (by rw [hz]; omega) _, by omega, _, _, h3, repC_size _, fun j hj _ _ => repC_at _ hj, repC_last _, ⟨rfl, .inr ⟨_, 2, _, rfl, Nat.le_refl _, h2, by omega, by unfold maxLen; omega, rfl, rfl⟩⟩, fun g => absurd g (by omega), fun g => absurd g (by omega)⟩
theorem infoStr4 : (Try.prog.info? 9).map (fun i => (i.zero, i.size, i.bytes)) = some (some (.string ⟨#[]⟩), 1, 16) := by kernel_rfl
theorem set2_at (C : Array Value) (i o j : Nat) (u v : Value) (h1 : j ≠ i) (h2 : j ≠ o) : ((C.setIfInBounds i u).setIfInBounds o v)[j]? = C[j]? := by
  rw [Array.getElem?_setIfInBounds_ne (by omega), Array.getElem?_setIfInBounds_ne (by omega)]
theorem RepI.step {wb wx w6 : World} {R k o : Nat} {C : Array Value} {v : Value} {a : Option Addr} {n c : Nat} {x : UInt8} (hbl : Below wb.heap.size wb w6) (hge : wb.heap.size ≤ R)
    (hC : Has wx R C 104) (hsz : C.size = 257) (h0 : ∀ j, j < 256 → (1 ≤ k → j ≠ 92) → (2 ≤ k → j ≠ 123) → C[j]? = some (.slice none 0 0)) (h2 : wx.ownsRow wb.heap.size 9 1 v k ([Value.string ⟨#[92]⟩, .string ⟨#[123]⟩].take k)) (h3 : 1 ≤ k → RepO wx R wb.heap.size C[92]? 92)
    (hk : k = 0 ∧ o = 92 ∧ x = 92 ∨ k = 1 ∧ o = 123 ∧ x = 123) (hg : wx.grownBy w6 v.ownBlock) (h6 : w6.ownsRow wb.heap.size 9 1 (.slice a n c) (k + 1) ([Value.string ⟨#[92]⟩, .string ⟨#[123]⟩].take (k + 1))) :
    RepI wb ((Lib.bytesWorld (w6.setCell ⟨R, 256, none⟩ (.slice a n c)) 5 ⟨#[92, x]⟩).setCell ⟨R, o, none⟩ (.slice (some ⟨w6.heap.size, 0, none⟩) 2 (grownCap (w6.setCell ⟨R, 256, none⟩ (.slice a n c)) 2 0 5))) R (k + 1) := by
  have hC6 : Has w6 R C 104 := hC.kept_own h2 (by decide) hg
  have hC7 := hC6.set 256 (.slice a n c)
  have hb8 := below_bytesWorld (w6.setCell ⟨R, 256, none⟩ (.slice a n c)) 5 ⟨#[92, x]⟩
  have hs7 : (w6.setCell ⟨R, 256, none⟩ (.slice a n c)).heap.size = w6.heap.size := by simp
  have hC8 := hC7.below hb8 hC7.lt
  have hC9 := hC8.set o (.slice (some ⟨w6.heap.size, 0, none⟩) 2 (grownCap (w6.setCell ⟨R, 256, none⟩ (.slice a n c)) 2 0 5))
  have ho6 : (w6.setCell ⟨R, 256, none⟩ (.slice a n c)).ownsRow wb.heap.size 9 1 (.slice a n c) (k + 1) ([Value.string ⟨#[92]⟩, .string ⟨#[123]⟩].take (k + 1)) := owns_kept_has h6 hC6 (by decide) (grownBy_set _ _ _ _)
  have ho8 := owns_below ho6 hb8
  have ho9 := owns_kept_has ho8 hC8 (by decide) (grownBy_set _ R o (.slice (some ⟨w6.heap.size, 0, none⟩) 2 (grownCap (w6.setCell ⟨R, 256, none⟩ (.slice a n c)) 2 0 5)))
  have hlt6 : R < w6.heap.size := hC6.lt
  have hnew : RepO ((Lib.bytesWorld (w6.setCell ⟨R, 256, none⟩ (.slice a n c)) 5 ⟨#[92, x]⟩).setCell ⟨R, o, none⟩ (.slice (some ⟨w6.heap.size, 0, none⟩) 2 (grownCap (w6.setCell ⟨R, 256, none⟩ (.slice a n c)) 2 0 5))) R wb.heap.size (some (.slice (some ⟨w6.heap.size, 0, none⟩) 2 (grownCap (w6.setCell ⟨R, 256, none⟩ (.slice a n c)) 2 0 5))) x.toNat := by
    have h := Bt.new (w6.setCell ⟨R, 256, none⟩ (.slice a n c)) 92 x
    rw [hs7] at h
    exact ⟨_, _, rfl, by have := hbl.size; omega, by omega, Bt.set h (by omega)⟩
  refine ⟨?_, hge, _, _, hC9, ?_, ?_, ?_, ho9, ?_, ?_⟩
  · refine (((hbl.setCell (p := ⟨R, 256, none⟩) hge _).trans (hb8.mono ?_))).setCell (p := ⟨R, o, none⟩) hge _
    rw [hs7]
    exact hbl.size
  · simpa using hsz
  · intro j hj g1 g2
    have hjo : j ≠ o := by
      rcases hk with ⟨rfl, rfl, _⟩ | ⟨rfl, rfl, _⟩
      · exact g1 (by omega)
      · exact g2 (by omega)
    rw [set2_at _ _ _ _ _ _ (by omega) hjo]
    refine h0 j hj (fun g => g1 (by omega)) (fun g => g2 (by omega))
  · have ho : o ≠ 256 := by rcases hk with ⟨_, rfl, _⟩ | ⟨_, rfl, _⟩ <;> omega
    rw [Array.getElem?_setIfInBounds_ne ho, Array.getElem?_setIfInBounds_self_of_lt (by omega)]
  · intro _
    rcases hk with ⟨rfl, rfl, rfl⟩ | ⟨rfl, rfl, rfl⟩
    · rw [Array.getElem?_setIfInBounds_self_of_lt (by simp; omega)]
      exact hnew
    · rw [set2_at _ _ _ _ _ _ (by omega) (by omega)]
      obtain ⟨p, c, e, q1, q2, q3⟩ := h3 (by omega)
      have q6 := q3.kept_own h2 (by decide) hg
      exact ⟨p, c, e, q1, q2, ((q6.set q2).below hb8 (by rw [hs7]; exact q6.lt)).set q2⟩
  · intro g
    rcases hk with ⟨rfl, rfl, rfl⟩ | ⟨rfl, rfl, rfl⟩
    · omega
    · rw [Array.getElem?_setIfInBounds_self_of_lt (by simp; omega)]
      exact hnew
set_option maxRecDepth 100000 in
set_option maxHeartbeats 4000000 in
theorem build_any (b g c : Nat) (w : World) (h : w.cell? ⟨b, 4, none⟩ = some (.slice (some ⟨g, 0, none⟩) 4 c)) (hF : Four w g) :
    Calls Try.prog 32 #[.pointer (some ⟨b, 0, none⟩)] w fun e w' => ∃ R, e = .returned (.iface 105 (.pointer (some ⟨R, 0, none⟩))) ∧ RepI w w' R 2 := by
  have HF := Lib.hid hF
  go_enter Try.func32, Try.ntmps32
  go_wp2_with fail
  go_loopw [4, 5] (fun av iv wr => wr = w ∧ ((av = .bool true ∧ iv = .int .i64 0) ∨ (av = .bool false ∧ iv = .int .i64 2) ∨ (av = .bool false ∧ iv = .int .i64 4))) (fun _ iv _ => 4 - (intOf iv).toNat)
  case atStart => exact ⟨rfl, .inl ⟨rfl, rfl⟩⟩
  case round =>
    obtain ⟨rfl, hrel⟩ := hrel
    rcases hrel with ⟨rfl, rfl⟩ | ⟨rfl, rfl⟩ | ⟨rfl, rfl⟩
    · obtain ⟨_, c0, c1, c2, c3⟩ := hF
      go_wp2_with fail
      go_roundw
      case rel => exact ⟨trivial, .inr (.inl ⟨rfl, rfl⟩)⟩
      case measure => simp [intOf]
    · obtain ⟨_, c0, c1, c2, c3⟩ := hF
      go_wp2_with fail
      go_roundw
      case rel => exact ⟨trivial, .inr (.inr ⟨rfl, rfl⟩)⟩
      case measure => simp [intOf]
    · have hms := make_strs wr
      have hst := store_rep (wr.alloc (.cells #[.string ⟨#[]⟩, .string ⟨#[]⟩] 9)) (wr.heap.size + 1) (by simp) (some ⟨wr.heap.size, 0, none⟩) 0 2
      have HI0 := Lib.hid (RepI.start wr)
      go_upto_region 27 with fail
      generalize (wr.alloc (.cells #[.string ⟨#[]⟩, .string ⟨#[]⟩] 9)).alloc (.cells (repC (.slice (some ⟨wr.heap.size, 0, none⟩) 0 2)) 104) = w2 at *
      generalize wr.heap.size + 1 = R at *
      clear hms hst
      go_wp2_with fail
      go_loopw [12] (fun iv wx => ∃ k, (k = 0 ∧ iv = .int .i64 2 ∨ k = 1 ∧ iv = .int .i64 0 ∨ k = 2 ∧ iv = .int .i64 (-2)) ∧ RepI wr wx R k) (fun iv _ => (2 + intOf iv).toNat)
      case atStart => exact ⟨0, .inl ⟨rfl, rfl⟩, HI0.out⟩
      case round =>
        rename World => wx
        obtain ⟨k, hk, hI⟩ := hrel
        have HIX := Lib.hid hI
        obtain ⟨hbl, hge, C, v, hC, hsz, h0, h1, h2, h3, h4⟩ := hI
        obtain ⟨va, vc, rfl⟩ := owns_slice h2
        have HBL := Lib.hid hbl
        have HC := Lib.hid hC
        have H0 := Lib.hid h0
        have H2 := Lib.hid h2
        have H3 := Lib.hid h3
        have H4 := Lib.hid h4
        have HFX := Lib.hid (show Four wx g from ⟨Nat.lt_of_lt_of_le HF.out.lt hbl.size, (below_cell hbl HF.out.lt).trans HF.out.c0, (below_cell hbl HF.out.lt).trans HF.out.c1, (below_cell hbl HF.out.lt).trans HF.out.c2, (below_cell hbl HF.out.lt).trans HF.out.c3⟩)
        have t0 := (hC.cell 256).trans h1
        have HT := Lib.hid h1
        have HSZ := Lib.hid hsz
        have HGE := Lib.hid hge
        have hnil := fun (W : World) (a : Option Addr) (n c : Nat) => Lib.run_eql_slice_nil (P := Try.prog) W 44 5 a n c 0 0 Try.underlying44
        have c0 := HFX.out.c0
        have c1 := HFX.out.c1
        have c2 := HFX.out.c2
        have c3 := HFX.out.c3
        have l92 : ∀ h : 0 < (⟨#[92]⟩ : ByteArray).size, ((⟨#[92]⟩ : ByteArray)[0]'h).toNat = 92 := fun _ => rfl
        have l123 : ∀ h : 0 < (⟨#[123]⟩ : ByteArray).size, ((⟨#[123]⟩ : ByteArray)[0]'h).toNat = 123 := fun _ => rfl
        clear hbl hC h0 h1 h2 h3 h4 HI0
        rcases hk with ⟨rfl, rfl⟩ | ⟨rfl, rfl⟩ | ⟨rfl, rfl⟩
        · have q0 := (HC.out.cell 92).trans (H0.out 92 (by omega) (fun g => absurd g (by omega)) (fun g => absurd g (by omega)))
          have HQ92 := Lib.hid (fun u : Value => show (C.setIfInBounds 256 u)[92]? = _ from (Array.getElem?_setIfInBounds_ne (by omega)).trans (H0.out 92 (by omega) (fun g => absurd g (by omega)) (fun g => absurd g (by omega))))
          go_upto_region 33 with fail
          have hcs := run_convert_bytes_arg (P := Try.prog) (w := wx.alloc (.cells #[.int .u8 92] 5)) 44 5 Try.underlying44 Try.underlying5 wx.heap.size 0 1 1 [92] rfl (fun i hi => by
            obtain rfl : i = 0 := by omega
            simp) 9 Try.underlying9
          rw [show strOfNums [92] = (⟨#[92]⟩ : ByteArray) by decide] at hcs
          have hcb : ∀ W : World, (convert 9 44 (.string ⟨#[92, 92]⟩)).run Try.prog W = .ok (.slice (some ⟨W.heap.size, 0, none⟩) 2 (grownCap W 2 0 5)) (Lib.bytesWorld W 5 ⟨#[92, 92]⟩) := fun W => Lib.run_convert_string_bytes (P := Try.prog) W 9 44 5 ⟨#[92, 92]⟩ (u := .string) Try.underlying9 Try.underlying44 Try.underlying5
          have HOW := Lib.hid (owns_below H2.out ((Below.refl wx.heap.size wx).alloc (Nat.le_refl _) (.cells #[.int .u8 92] 5)))
          have HBA := Lib.hid (HBL.out.alloc HBL.out.size (.cells #[.int .u8 92] 5))
          have hsW : (wx.alloc (.cells #[.int .u8 92] 5)).heap.size = wx.heap.size + 1 := by simp
          have hBs : wr.heap.size ≤ (wx.alloc (.cells #[.int .u8 92] 5)).heap.size := HBA.out.size
          have HGA := Lib.hid (show wx.grownBy (wx.alloc (.cells #[.int .u8 92] 5)) (Value.slice va 0 vc).ownBlock from grownBy_alloc' (grownBy_refl _ _) _)
          have HC1 := Lib.hid (HC.out.alloc (.cells #[.int .u8 92] 5))
          generalize hw1 : wx.alloc (.cells #[.int .u8 92] 5) = w1 at *
          go_wp2_with (at_builtin; go_must (refine append_one_at rfl _ _ 22 rfl wr.heap.size 9 (.string ⟨#[]⟩) 1 16 Try.underlying22 infoStr4 rfl (by decide) w1 w1 _ _ _ rfl HOW.out (wx.heap.size + 1) hsW.symm [.string ⟨#[92]⟩] rfl rfl rfl (by simp [Value.oneCell']) (by omega) (by omega) hBs (Below.refl _ _) ?_); intro v' w6 ho hb6 hg6 hnn; obtain ⟨na, nc, rfl⟩ := owns_slice ho; have HO6 := Lib.hid ho; have HB6 := Lib.hid hb6; have HG6 := Lib.hid hg6; have HC6 := Lib.hid (HC1.out.kept_own HOW.out (by decide) hg6); have z6 := (HC6.out.cell 256).trans HT.out; have f6 := HC6.out.fz 256; have HC8 := Lib.hid ((HC6.out.set 256 (.slice na 1 nc)).below (below_bytesWorld (w6.setCell ⟨R, 256, none⟩ (.slice na 1 nc)) 5 ⟨#[92, 92]⟩) (HC6.out.set 256 (.slice na 1 nc)).lt); have z8 := (HC8.out.cell 92).trans (HQ92.out (.slice na 1 nc)); have f8 := HC8.out.fz 92; clear ho hb6 hg6 hnn)
          have HZ := Lib.hid (RepI.step (k := 0) (o := 92) (x := 92) (HBA.out.trans HB6.out) HGE.out HC.out HSZ.out H0.out H2.out H3.out (.inl ⟨rfl, rfl, rfl⟩) (grownBy_trans HGA.out HG6.out) HO6.out)
          go_roundw
          case rel => exact ⟨1, by simp, HZ.out⟩
          case measure => simp [intOf]
        · have q0 := (HC.out.cell 123).trans (H0.out 123 (by omega) (fun _ => by omega) (fun g => absurd g (by omega)))
          have HQ123 := Lib.hid (fun u : Value => show (C.setIfInBounds 256 u)[123]? = _ from (Array.getElem?_setIfInBounds_ne (by omega)).trans (H0.out 123 (by omega) (fun _ => by omega) (fun g => absurd g (by omega))))
          go_upto_region 33 with fail
          have hcs := run_convert_bytes_arg (P := Try.prog) (w := wx.alloc (.cells #[.int .u8 123] 5)) 44 5 Try.underlying44 Try.underlying5 wx.heap.size 0 1 1 [123] rfl (fun i hi => by
            obtain rfl : i = 0 := by omega
            simp) 9 Try.underlying9
          rw [show strOfNums [123] = (⟨#[123]⟩ : ByteArray) by decide] at hcs
          have hcb : ∀ W : World, (convert 9 44 (.string ⟨#[92, 123]⟩)).run Try.prog W = .ok (.slice (some ⟨W.heap.size, 0, none⟩) 2 (grownCap W 2 0 5)) (Lib.bytesWorld W 5 ⟨#[92, 123]⟩) := fun W => Lib.run_convert_string_bytes (P := Try.prog) W 9 44 5 ⟨#[92, 123]⟩ (u := .string) Try.underlying9 Try.underlying44 Try.underlying5
          have HOW := Lib.hid (owns_below H2.out ((Below.refl wx.heap.size wx).alloc (Nat.le_refl _) (.cells #[.int .u8 123] 5)))
          have HBA := Lib.hid (HBL.out.alloc HBL.out.size (.cells #[.int .u8 123] 5))
          have hsW : (wx.alloc (.cells #[.int .u8 123] 5)).heap.size = wx.heap.size + 1 := by simp
          have hBs : wr.heap.size ≤ (wx.alloc (.cells #[.int .u8 123] 5)).heap.size := HBA.out.size
          have HGA := Lib.hid (show wx.grownBy (wx.alloc (.cells #[.int .u8 123] 5)) (Value.slice va 1 vc).ownBlock from grownBy_alloc' (grownBy_refl _ _) _)
          have HC1 := Lib.hid (HC.out.alloc (.cells #[.int .u8 123] 5))
          generalize hw1 : wx.alloc (.cells #[.int .u8 123] 5) = w1 at *
          go_wp2_with (at_builtin; go_must (refine append_one_at rfl _ _ 22 rfl wr.heap.size 9 (.string ⟨#[]⟩) 1 16 Try.underlying22 infoStr4 rfl (by decide) w1 w1 _ _ _ rfl HOW.out (wx.heap.size + 1) hsW.symm [.string ⟨#[123]⟩] rfl rfl rfl (by simp [Value.oneCell']) (by omega) (by omega) hBs (Below.refl _ _) ?_); intro v' w6 ho hb6 hg6 hnn; obtain ⟨na, nc, rfl⟩ := owns_slice ho; have HO6 := Lib.hid ho; have HB6 := Lib.hid hb6; have HG6 := Lib.hid hg6; have HC6 := Lib.hid (HC1.out.kept_own HOW.out (by decide) hg6); have z6 := (HC6.out.cell 256).trans HT.out; have f6 := HC6.out.fz 256; have HC8 := Lib.hid ((HC6.out.set 256 (.slice na 2 nc)).below (below_bytesWorld (w6.setCell ⟨R, 256, none⟩ (.slice na 2 nc)) 5 ⟨#[92, 123]⟩) (HC6.out.set 256 (.slice na 2 nc)).lt); have z8 := (HC8.out.cell 123).trans (HQ123.out (.slice na 2 nc)); have f8 := HC8.out.fz 123; clear ho hb6 hg6 hnn)
          have HZ := Lib.hid (RepI.step (k := 1) (o := 123) (x := 123) (HBA.out.trans HB6.out) HGE.out HC.out HSZ.out H0.out H2.out H3.out (.inr ⟨rfl, rfl, rfl⟩) (grownBy_trans HGA.out HG6.out) HO6.out)
          go_roundw
          case rel => exact ⟨2, by simp, HZ.out⟩
          case measure => simp [intOf]
        · go_wp2_with fail
          go_ret
          exact ⟨R, rfl, HIX.out⟩
end Go.Proofs.Ytfohehldkchnjaa
