/- The walk of (*strings.byteStringReplacer).Replace at the two replacements of know.Quote. -/
import Derived.Test.YtfohehldkchnjaaTpBuild
import Derived.Test.YtfohehldkchnjaaShelf
import Derived.Test.YtfohehldkchnjaaOrd2
import Derived.Laws.CopyOwn
import Derived.Laws.Cover3
namespace Go.Proofs.Ytfohehldkchnjaa
open Go.RowKit

/-- block R: a byteStringReplacer that quotes '{' and '\' -/
structure RepAt (w : World) (R : Nat) : Prop where
  lt : R < w.heap.size
  tr : ∃ t c, w.cell? ⟨R, 256, none⟩ = some (.slice (some ⟨t, 0, none⟩) 2 c) ∧ t < w.heap.size ∧ w.cell? ⟨t, 0, none⟩ = some (.string ⟨#[92]⟩) ∧ w.cell? ⟨t, 1, none⟩ = some (.string ⟨#[123]⟩)
  b92 : ∃ p c, w.cell? ⟨R, 92, none⟩ = some (.slice (some ⟨p, 0, none⟩) 2 c) ∧ p < w.heap.size ∧ w.cell? ⟨p, 0, none⟩ = some (.int .u8 92) ∧ w.cell? ⟨p, 1, none⟩ = some (.int .u8 92)
  b123 : ∃ p c, w.cell? ⟨R, 123, none⟩ = some (.slice (some ⟨p, 0, none⟩) 2 c) ∧ p < w.heap.size ∧ w.cell? ⟨p, 0, none⟩ = some (.int .u8 92) ∧ w.cell? ⟨p, 1, none⟩ = some (.int .u8 123)
  none : ∀ j, j < 256 → j ≠ 92 → j ≠ 123 → w.cell? ⟨R, j, none⟩ = some (.slice none 0 0)
theorem RepAt.below {w w' : World} {R : Nat} (h : RepAt w R) (hb : Below w.heap.size w w') : RepAt w' R := by
  obtain ⟨t, c, h1, h2, h3, h4⟩ := h.tr
  obtain ⟨p, pc, p1, p2, p3, p4⟩ := h.b92
  obtain ⟨q, qc, q1, q2, q3, q4⟩ := h.b123
  exact ⟨Nat.lt_of_lt_of_le h.lt hb.size, ⟨t, c, (below_cell hb h.lt).trans h1, Nat.lt_of_lt_of_le h2 hb.size, (below_cell hb h2).trans h3, (below_cell hb h2).trans h4⟩,
    ⟨p, pc, (below_cell hb h.lt).trans p1, Nat.lt_of_lt_of_le p2 hb.size, (below_cell hb p2).trans p3, (below_cell hb p2).trans p4⟩,
    ⟨q, qc, (below_cell hb h.lt).trans q1, Nat.lt_of_lt_of_le q2 hb.size, (below_cell hb q2).trans q3, (below_cell hb q2).trans q4⟩, fun j hj g1 g2 => (below_cell hb h.lt).trans (h.none j hj g1 g2)⟩
theorem RepI.at {wb w : World} {R : Nat} (h : RepI wb w R 2) : RepAt w R := by
  obtain ⟨C, v, hC, hsz, h0, h1, h2, h3, h4⟩ := h.cs
  obtain ⟨p, pc, p1, _, _, p4⟩ := h3 (by omega)
  obtain ⟨q, qc, q1, _, _, q4⟩ := h4 (by omega)
  refine ⟨hC.lt, ?_, ⟨p, pc, (hC.cell 92).trans p1, p4.lt, p4.cells.1, p4.cells.2⟩, ⟨q, qc, (hC.cell 123).trans q1, q4.lt, q4.cells.1, q4.cells.2⟩, fun j hj g1 g2 => (hC.cell j).trans (h0 j hj (fun _ => g1) (fun _ => g2))⟩
  rcases h2.2 with ⟨_, e⟩ | ⟨t, cap, cur, rfl, _, hg, _, _, _, _⟩
  · omega
  · refine ⟨t, cap, (hC.cell 256).trans h1, (Array.getElem?_eq_some_iff.1 hg).1, ?_, ?_⟩
    · have := h2.cells (g := t) rfl 0 (.string ⟨#[92]⟩) rfl
      simpa [Addr.add] using this
    · have := h2.cells (g := t) rfl 1 (.string ⟨#[123]⟩) rfl
      have e : (⟨t, 0, none⟩ : Addr).add 1 = ⟨t, 1, none⟩ := rfl
      rwa [e] at this
/-- the buffer: its first bytes are q -/
structure BufI (w0 w : World) (b N : Nat) (q : List UInt8) : Prop where
  ge : w0.heap.size ≤ b
  below : Below w0.heap.size w0 w
  buf : ∃ C, Has w b C 5 ∧ C.size = N ∧ ∀ (k : Nat) (x : UInt8), q[k]? = some x → C[k]? = some (.int .u8 x.toNat)
theorem byte_cells (n : Nat) : (madeCells #[.int .u8 0] n).size = n := by simp [madeCells]
theorem BufI.start (w : World) (N : Nat) : BufI w (w.alloc (.cells (madeCells #[.int .u8 0] N) 5)) w.heap.size N [] :=
  ⟨Nat.le_refl _, (Below.refl _ _).alloc (Nat.le_refl _) _, ⟨_, Has.new _ _ _, byte_cells N, fun k x h => by cases h⟩⟩
theorem BufI.one {w0 w : World} {b N : Nat} {q : List UInt8} (h : BufI w0 w b N q) (c : UInt8) (hN : q.length < N) : BufI w0 (w.setCell ⟨b, q.length, none⟩ (.int .u8 c.toNat)) b N (q ++ [c]) := by
  obtain ⟨C, hC, hs, hq⟩ := h.buf
  refine ⟨h.ge, h.below.setCell (p := ⟨b, q.length, none⟩) h.ge _, ⟨_, hC.set _ _, by simpa using hs, fun k x hk => ?_⟩⟩
  by_cases e : k = q.length
  · subst e
    rw [List.getElem?_append_right (Nat.le_refl _)] at hk
    obtain rfl : c = x := by simpa using hk
    exact Array.getElem?_setIfInBounds_self_of_lt (by omega)
  · have hlt : k < q.length := by
      have := (List.getElem?_eq_some_iff.1 hk).1
      rw [List.length_append] at this
      simp at this
      omega
    rw [List.getElem?_append_left hlt] at hk
    rw [Array.getElem?_setIfInBounds_ne (by omega)]
    exact hq k x hk
theorem BufI.two {w0 w : World} {b N : Nat} {q : List UInt8} (h : BufI w0 w b N q) {C : Array Value} (hC : Has w b C 5) (hs : C.size = N) (hq : ∀ (k : Nat) (x : UInt8), q[k]? = some x → C[k]? = some (.int .u8 x.toNat)) {x y : UInt8} (hN : q.length + 2 ≤ N) :
    BufI w0 (w.drew.setRow b (C.toList.take q.length ++ [Value.int .u8 x.toNat, Value.int .u8 y.toNat] ++ C.toList.drop (q.length + 2)).toArray) b N (q ++ [x, y]) := by
  have hl : (C.toList.take q.length).length = q.length := by
    rw [List.length_take, Array.length_toList (xs := C)]
    exact Nat.min_eq_left (by omega)
  refine ⟨h.ge, below_setRow h.below.drew h.ge _, ⟨_, setRow_heap _ _ C _ _ _ hC, ?_, fun k z hk => ?_⟩⟩
  · simp
    omega
  · rw [List.getElem?_toArray]
    have hk2 : k < q.length + 2 := by
      have := (List.getElem?_eq_some_iff.1 hk).1
      simpa using this
    rw [List.getElem?_append_left (by rw [List.length_append, hl]; exact hk2)]
    by_cases e : k < q.length
    · rw [List.getElem?_append_left (by omega), List.getElem?_take, if_pos e]
      rw [List.getElem?_append_left e] at hk
      simpa using hq k z hk
    · rw [List.getElem?_append_right (by omega), hl]
      rw [List.getElem?_append_right (by omega)] at hk
      obtain ⟨d, hd⟩ : ∃ d, k = q.length + d := ⟨k - q.length, by omega⟩
      subst hd
      rw [Nat.add_sub_cancel_left] at hk ⊢
      match d, hk with
      | 0, hk => obtain rfl : x = z := by simpa using hk
                 rfl
      | 1, hk => obtain rfl : y = z := by simpa using hk
                 rfl
theorem BufI.same {w0 w w' : World} {b N : Nat} {q q' : List UInt8} (h : BufI w0 w b N q) (e : q = q') (e2 : w = w') : BufI w0 w' b N q' := by subst e e2; exact h
theorem copy_two (W : World) (b : Nat) (C : Array Value) (j p c : Nat) (x y : Int) (hC : Has W b C 5) (hj : j + 2 ≤ C.size) (h0 : W.cell? ⟨p, 0, none⟩ = some (.int .u8 x)) (h1 : W.cell? ⟨p, 1, none⟩ = some (.int .u8 y)) (ty : TypeId) (d1 dc : Nat) (hd : 2 ≤ d1) :
    (Builtin.copy_ #[44, 44] ty #[.slice (some ⟨b, j, none⟩) d1 dc, .slice (some ⟨p, 0, none⟩) 2 c]).run Try.prog W = .ok (goInt ((2 : Nat) : Int)) (W.setRow b (C.toList.take j ++ [Value.int .u8 x, Value.int .u8 y] ++ C.toList.drop (j + 2)).toArray) :=
  run_copy_row (P := Try.prog) W 44 44 ty 5 b j d1 dc ⟨p, 0, none⟩ 2 c C _ [.int .u8 x, .int .u8 y] Try.underlying44 (by kernel_rfl) hC (Nat.min_eq_left hd).symm (fun k v hk => by
    match k, hk with
    | 0, hk => cases hk; exact h0
    | 1, hk => cases hk; exact h1) (by simpa using hj) (by simp [Value.oneCell'])
theorem make_bytes (w : World) (n : Nat) (hn : n ≤ 281474976710656) :
    (Instr.makeSlice 44 (.int .i64 (n : Int)) (.int .i64 (n : Int))).run Try.prog w = .ok (.slice (some ⟨w.heap.size, 0, none⟩) n n) (w.alloc (.cells (madeCells #[.int .u8 0] n) 5)) := by
  obtain ⟨i0, hi, hz0, hz1, hz2⟩ := info_parts (show (Try.prog.info? 5).map (fun i => (i.zero, i.size, i.bytes)) = some (some (.int .u8 0), 1, 1) by kernel_rfl)
  have h := run_make (P := Try.prog) w 44 5 i0 (.int .u8 0) Try.underlying44 hi hz0 .i64 .i64 (n : Int) (n : Int) (by omega) (by omega) (by rw [hz2]; omega) (by omega)
  rw [h, hz1, Nat.mul_one]
  rfl
/-! ### how far the quoted text has come -/
theorem data_get (s : ByteArray) {i : Nat} (h : i < s.size) : s.data.toList[i]'(by simpa using h) = s[i] := by simp; rfl
theorem quo_next {s : ByteArray} {i : Nat} (h : i < s.size) : quo (s.data.toList.take (i + 1)) = quo (s.data.toList.take i) ++ quoB s[i] := by
  rw [List.take_succ_eq_append_getElem (by simpa using h), quo_append, data_get s h]
  simp [quo]
theorem quo_take_le {s : ByteArray} {i : Nat} (h : i < s.size) : (quo (s.data.toList.take i)).length + (quoB s[i]).length ≤ (quo s.data.toList).length := by
  have e := quo_next h
  have e2 : quo s.data.toList = quo (s.data.toList.take (i + 1)) ++ quo (s.data.toList.drop (i + 1)) := by rw [← quo_append, List.take_append_drop]
  rw [e2, e, List.length_append, List.length_append]
  omega
theorem quo_ge (s : ByteArray) {i : Nat} (h : i ≤ s.size) : i ≤ (quo (s.data.toList.take i)).length := by
  rw [quo_length, List.length_take]
  have : s.data.toList.length = s.size := by simp
  omega
theorem quo_same {l : List UInt8} (h : (quo l).length = l.length) : quo l = l := by
  rw [quo_length] at h
  exact quo_plain l (by omega) (by omega)
theorem toNats (q : List UInt8) : strOfNums (q.map fun c => (c.toNat : Int)) = (⟨q.toArray⟩ : ByteArray) := by
  unfold strOfNums
  congr 2
  apply List.ext_getElem
  · simp
  · intro i h1 h2
    simp

set_option maxRecDepth 100000 in
set_option maxHeartbeats 8000000 in
theorem replace_any (R : Nat) (s : ByteArray) (w : World) (hR : RepAt w R) (hs : s.size ≤ 140737488351232) :
    Calls Try.prog 103 #[.pointer (some ⟨R, 0, none⟩), .string s] w fun e w' => e = .returned (.string ⟨(quo s.data.toList).toArray⟩) ∧ Below w.heap.size w w' := by
  have HR := Lib.hid hR
  have hsl : s.data.toList.length = s.size := by simp
  have hq := quo_length s.data.toList
  have hq2 := quo_le s.data.toList
  rw [hsl] at hq hq2
  obtain ⟨N, hN⟩ : ∃ N, N = (quo s.data.toList).length := ⟨_, rfl⟩
  obtain ⟨c92, h92⟩ : ∃ n, n = s.data.toList.count 92 := ⟨_, rfl⟩
  obtain ⟨c123, h123⟩ : ∃ n, n = s.data.toList.count 123 := ⟨_, rfl⟩
  rw [← hN, ← h92, ← h123] at hq
  rw [← hN] at hq2
  have HN := Lib.hid hN
  have H92 := Lib.hid h92
  have H123 := Lib.hid h123
  have HQ := Lib.hid hq
  have hNs : s.size ≤ N := by omega
  obtain ⟨tt, tc, htr, ht, ht0, ht1⟩ := hR.tr
  clear hN h92 h123 hR hq
  have hnil := fun (W : World) (a : Option Addr) (n c : Nat) => Lib.run_eql_slice_nil (P := Try.prog) W 44 5 a n c 0 0 Try.underlying44
  have l92 : ∀ h : 0 < (⟨#[92]⟩ : ByteArray).size, ((⟨#[92]⟩ : ByteArray)[0]'h).toNat = 92 := fun _ => rfl
  have l123 : ∀ h : 0 < (⟨#[123]⟩ : ByteArray).size, ((⟨#[123]⟩ : ByteArray)[0]'h).toNat = 123 := fun _ => rfl
  by_cases h16 : 16 ≤ s.size
  · have q16 : decide ((16 : Int) ≤ (s.size : Int)) = true := decide_eq_true (by omega)
    go_enter Try.func103, Try.ntmps103
    go_wp2_with fail
    go_loopw [5, 6, 32] (fun nv av iv wr => Below w.heap.size w wr ∧ ((iv = .int .i64 0 ∧ nv = .int .i64 (s.size : Int) ∧ av = .bool false) ∨ (iv = .int .i64 1 ∧ nv = .int .i64 ((s.size : Int) + (c92 : Int)) ∧ av = .bool (decide (c92 ≠ 0))) ∨ (iv = .int .i64 2 ∧ nv = .int .i64 (N : Int) ∧ av = .bool (decide (N ≠ s.size))))) (fun _ _ iv _ => (2 - intOf iv).toNat)
    case atStart => exact ⟨Below.refl _ _, .inl ⟨rfl, rfl, rfl⟩⟩
    case round =>
      obtain ⟨hbw, hrel⟩ := hrel
      have HBW := Lib.hid hbw
      have x0 := (below_cell hbw ht).trans ht0
      have x1 := (below_cell hbw ht).trans ht1
      have x2 := (below_cell hbw HR.out.lt).trans htr
      clear hbw
      rcases hrel with ⟨rfl, rfl, rfl⟩ | ⟨rfl, rfl, rfl⟩ | ⟨rfl, rfl, rfl⟩
      · go_wp2_with fail
        refine (Try.strings_Count_one s 92 wr).mono ?_
        rintro e w1 ⟨rfl, rfl⟩
        rw [show Lib.countByte s.data.toList 92 = c92 from H92.out.symm]
        have hq := HQ.out
        by_cases hz : c92 = 0
        · have qz : ((((c92 : Nat) : Int)) != 0) = false := by simp [hz]
          have qz2 : ((((c92 : Nat) : Int)) == 0) = true := by simp [hz]
          clear hq
          go_wp2_with fail
          go_roundw
          case rel =>
            have hq := HQ.out
            refine ⟨HBW.out, ?_⟩
            simp
            omega
          case measure => simp [intOf]
        · have qz : ((((c92 : Nat) : Int)) != 0) = true := by simpa using hz
          have qz2 : ((((c92 : Nat) : Int)) == 0) = false := by simpa using hz
          obtain ⟨pp, pc, hcell, _, _, _⟩ := HR.out.b92
          have k0 := (below_cell HBW.out HR.out.lt).trans hcell
          have wm : IntKind.i64.wrap ((c92 : Nat) : Int) = ((c92 : Nat) : Int) := by rw [IntWalk.i64_in _ (by omega)]
          have wa : IntKind.i64.wrap ((s.size : Int) + ((c92 : Nat) : Int)) = (s.size : Int) + (c92 : Int) := by rw [IntWalk.i64_in _ (by omega)]; (try omega)
          clear hq
          go_upto_region 9 with fail
          go_quiet (fail)
          have HBQ := Lib.hid (fun n => drewN_below HBW.out n)
          go_wp2_with fail
          go_roundw
          case rel =>
            have hq := HQ.out
            refine ⟨HBQ.out _, ?_⟩
            simp
            omega
          case measure => simp [intOf]
      · go_wp2_with fail
        refine (Try.strings_Count_one s 123 wr).mono ?_
        rintro e w1 ⟨rfl, rfl⟩
        rw [show Lib.countByte s.data.toList 123 = c123 from H123.out.symm]
        have hq := HQ.out
        by_cases hz : c123 = 0
        · have qz : ((((c123 : Nat) : Int)) != 0) = false := by simp [hz]
          have qz2 : ((((c123 : Nat) : Int)) == 0) = true := by simp [hz]
          clear hq
          go_wp2_with fail
          go_roundw
          case rel =>
            have hq := HQ.out
            refine ⟨HBW.out, ?_⟩
            simp
            omega
          case measure => simp [intOf]
        · have qz : ((((c123 : Nat) : Int)) != 0) = true := by simpa using hz
          have qz2 : ((((c123 : Nat) : Int)) == 0) = false := by simpa using hz
          obtain ⟨pp, pc, hcell, _, _, _⟩ := HR.out.b123
          have k0 := (below_cell HBW.out HR.out.lt).trans hcell
          have wm : IntKind.i64.wrap ((c123 : Nat) : Int) = ((c123 : Nat) : Int) := by rw [IntWalk.i64_in _ (by omega)]
          have wa : IntKind.i64.wrap (((s.size : Int) + (c92 : Int)) + ((c123 : Nat) : Int)) = (N : Int) := by rw [IntWalk.i64_in _ (by omega)]; (try omega)
          clear hq
          go_upto_region 9 with fail
          go_quiet (fail)
          have HBQ := Lib.hid (fun n => drewN_below HBW.out n)
          go_wp2_with fail
          go_roundw
          case rel =>
            have hq := HQ.out
            refine ⟨HBQ.out _, ?_⟩
            simp
            omega
          case measure => simp [intOf]
      · generalize hav : decide (N ≠ s.size) = av at *
        cases av with
        | false =>
          have hns : N = s.size := by simpa using hav
          have HE := Lib.hid (show (⟨(quo s.data.toList).toArray⟩ : ByteArray) = s from by
            rw [quo_same (by rw [← HN.out, hns]; simp)])
          clear hav hns
          go_wp2_with fail
          go_ret
          exact ⟨by rw [HE.out]; rfl, HBW.out⟩
        | true =>
          have hmk := make_bytes wr N (by omega)
          have HRR := Lib.hid (HR.out.below HBW.out)
          have HB0 := Lib.hid (BufI.start wr N)
          have hnn := fun (W : World) (a : Option Addr) (l c : Nat) => run_neq_slice_nil (P := Try.prog) W 44 5 a l c Try.underlying44
          clear hav
          go_upto_region 22 with fail
          generalize wr.alloc (.cells (madeCells #[.int .u8 0] N) 5) = w6 at *
          clear hmk
          go_wp2_with fail
          go_loopw [13, 14] (fun jv iv wx => ∃ i : Nat, iv = .int .i64 ((i : Nat) : Int) ∧ i ≤ s.size ∧ jv = .int .i64 (((quo (s.data.toList.take i)).length : Nat) : Int) ∧ BufI wr wx wr.heap.size N (quo (s.data.toList.take i))) (fun _ iv _ => s.size - (intOf iv).toNat)
          case atStart => exact ⟨0, rfl, Nat.zero_le _, rfl, HB0.out⟩
          case round =>
            rename World => wx
            obtain ⟨i, rfl, hi, rfl, hI⟩ := hrel
            have HI := Lib.hid hI
            clear hI HB0
            obtain ⟨j, hj⟩ : ∃ j, j = (quo (s.data.toList.take i)).length := ⟨_, rfl⟩
            rw [← hj]
            by_cases hlt : i < s.size
            · by_cases e : s[i] = 123
              · have HNX := Lib.hid (quo_next hlt)
                rw [e] at HNX
                have hle := quo_take_le (s := s) hlt
                rw [e, ← hj, ← HN.out] at hle
                have hj2 : j + 2 ≤ N := hle
                have he : s[i].toNat = 123 := by rw [e]; rfl
                obtain ⟨pp, pc, hcell, hplt, hp0, hp1⟩ := HRR.out.b123
                have k0 := (below_cell HI.out.below HRR.out.lt).trans hcell
                have hS0 : (fun W : World => W.cell? ⟨R, 123, none⟩ = some (.slice (some ⟨pp, 0, none⟩) 2 pc)) wx.drew := k0
                obtain ⟨C, hC, hCs, hCq⟩ := HI.out.buf
                have HBW := Lib.hid (show Has wx.drew wr.heap.size C 5 from hC)
                have HW := Lib.hid (show BufI wr (wx.drew.setRow wr.heap.size (C.toList.take j ++ [Value.int .u8 92, Value.int .u8 123] ++ C.toList.drop (j + 2)).toArray) wr.heap.size N (quo (s.data.toList.take (i + 1))) from by
                  rw [HNX.out, show quoB 123 = [92, 123] from rfl]
                  have h := BufI.two HI.out hC hCs hCq (x := 92) (y := 123) (by rw [← hj]; omega)
                  rw [← hj] at h
                  exact h)
                have HCP := Lib.hid (fun (W : World) (hW : Has W wr.heap.size C 5) (h0 : W.cell? ⟨pp, 0, none⟩ = some (.int .u8 92)) (h1 : W.cell? ⟨pp, 1, none⟩ = some (.int .u8 123)) => copy_two W wr.heap.size C j pp pc 92 123 hW (by omega) h0 h1)
                have HCP := Lib.hid (fun (W : World) (hW : Has W wr.heap.size C 5) => fun (hc : W = wx.drew) => HCP.out W hW (by rw [hc]; exact (below_cell HI.out.below hplt).trans hp0) (by rw [hc]; exact (below_cell HI.out.below hplt).trans hp1))
                have hS1 : (fun W : World => W.cell? ⟨R, 123, none⟩ = some (.slice (some ⟨pp, 0, none⟩) 2 pc)) (wx.drew.setRow wr.heap.size (C.toList.take j ++ [Value.int .u8 92, Value.int .u8 123] ++ C.toList.drop (j + 2)).toArray) := (cell_setRow_other _ _ _ ⟨R, 123, none⟩ (Nat.ne_of_lt HRR.out.lt)).trans k0
                have hqe : (quo (s.data.toList.take (i + 1))).length = j + 2 := by rw [HNX.out, List.length_append, hj]; rfl
                have hnj : ¬ N = j := by omega
                have hb1 : (0 : Int) ≤ (j : Int) := by omega
                have hb2 : (j : Int) ≤ (N : Int) := by omega
                have hd2 : 2 ≤ N - j := by omega
                have wj : IntKind.i64.wrap ((j : Int) + 2) = (j : Int) + 2 := IntWalk.i64_in _ (by omega)
                have HJ := Lib.hid hj
                clear hcell hp0 hp1 hC hCs hCq hj hle
                generalize (C.toList.take j ++ [Value.int .u8 92, Value.int .u8 123] ++ C.toList.drop (j + 2)).toArray = C2 at *
                go_upto_region 28 with fail
                refine anyT_start (S := fun W : World => W.cell? ⟨R, 123, none⟩ = some (.slice (some ⟨pp, 0, none⟩) 2 pc)) (t := 13) (by kernel_rfl) ?_
                refine takeS (i := 0) (v := ?_) rfl rfl (by kernel_rfl) (by kernel_rfl) (by kernel_rfl) (fun _ _ _ h => h) (by decide) (by kernel_rfl) ?_ hS0 ?_
                rotate_left
                · intro w hSw; (try dsimp only at hSw); go_simp; (try with_reducible rfl)
                simp only [List.setIfInBounds_toArray, List.set_cons_zero, List.set_cons_succ]
                refine takeS (i := 1) (v := ?_) rfl rfl (by kernel_rfl) (by kernel_rfl) (by kernel_rfl) (fun _ _ _ h => h) (by decide) (by kernel_rfl) ?_ hS0 ?_
                rotate_left
                · intro w hSw; (try dsimp only at hSw); go_simp; (try with_reducible rfl)
                simp only [List.setIfInBounds_toArray, List.set_cons_zero, List.set_cons_succ]
                refine takeS (i := 2) (v := ?_) rfl rfl (by kernel_rfl) (by kernel_rfl) (by kernel_rfl) (fun _ _ _ h => h) (by decide) (by kernel_rfl) ?_ hS0 ?_
                rotate_left
                · intro w hSw; (try dsimp only at hSw); go_simp; (try with_reducible rfl)
                simp only [List.setIfInBounds_toArray, List.set_cons_zero, List.set_cons_succ]
                refine takeS (i := 3) (v := ?_) rfl rfl (by kernel_rfl) (by kernel_rfl) (by kernel_rfl) (fun _ _ _ h => h) (by decide) (by kernel_rfl) ?_ hS0 ?_
                rotate_left
                · intro w hSw; (try dsimp only at hSw); go_simp; (try with_reducible rfl)
                simp only [List.setIfInBounds_toArray, List.set_cons_zero, List.set_cons_succ]
                refine takeS (i := 4) (v := ?_) rfl rfl (by kernel_rfl) (by kernel_rfl) (by kernel_rfl) (fun _ _ _ h => h) (by decide) (by kernel_rfl) ?_ hS0 ?_
                rotate_left
                · intro w hSw; (try dsimp only at hSw); go_simp; (try with_reducible rfl)
                simp only [List.setIfInBounds_toArray, List.set_cons_zero, List.set_cons_succ]
                refine takeS (i := 5) (v := ?_) rfl rfl (by kernel_rfl) (by kernel_rfl) (by kernel_rfl) (fun _ _ _ h => h) (by decide) (by kernel_rfl) ?_ hS0 ?_
                rotate_left
                · intro w hSw; (try dsimp only at hSw); go_simp; (try with_reducible rfl)
                simp only [List.setIfInBounds_toArray, List.set_cons_zero, List.set_cons_succ]
                refine takeS (i := 6) (v := ?_) rfl rfl (by kernel_rfl) (by kernel_rfl) (by kernel_rfl) (fun _ _ _ h => h) (by decide) (by kernel_rfl) ?_ hS0 ?_
                rotate_left
                · intro w hSw; (try dsimp only at hSw); go_simp; (try with_reducible rfl)
                simp only [List.setIfInBounds_toArray, List.set_cons_zero, List.set_cons_succ]
                refine takeS (i := 7) (v := ?_) rfl rfl (by kernel_rfl) (by kernel_rfl) (by kernel_rfl) (fun _ _ _ h => h) (by decide) (by kernel_rfl) ?_ hS0 ?_
                rotate_left
                · intro w hSw; (try dsimp only at hSw); go_simp; (try with_reducible rfl)
                simp only [List.setIfInBounds_toArray, List.set_cons_zero, List.set_cons_succ]
                refine takeS (i := 8) (v := ?_) rfl rfl (by kernel_rfl) (by kernel_rfl) (by kernel_rfl) (fun _ _ _ h => h) (by decide) (by kernel_rfl) ?_ hS0 ?_
                rotate_left
                · intro w hSw; (try dsimp only at hSw); go_simp; (try with_reducible rfl)
                simp only [List.setIfInBounds_toArray, List.set_cons_zero, List.set_cons_succ]
                refine takeS (i := 9) (v := ?_) rfl rfl (by kernel_rfl) (by kernel_rfl) (by kernel_rfl) (fun _ _ _ h => h) (by decide) (by kernel_rfl) ?_ hS0 ?_
                rotate_left
                · intro w hSw; (try dsimp only at hSw); go_simp; (try with_reducible rfl)
                simp only [List.setIfInBounds_toArray, List.set_cons_zero, List.set_cons_succ]
                refine oneT (i := 10) rfl (by kernel_rfl) (fun K hK => ?_)
                go_simp
                rw [HCP.out wx.drew HBW.out rfl _ _ _ (by omega)]
                go_simp
                refine hK.out _ _ (fun _ => hS1) ?_
                clear hK
                try simp only [List.setIfInBounds_toArray, List.set_cons_zero, List.set_cons_succ, Act.put]
                refine oneT (i := 11) rfl (by kernel_rfl) (fun K hK => ?_)
                go_simp
                refine hK.out _ _ (fun _ => hS1) ?_
                clear hK
                try simp only [List.setIfInBounds_toArray, List.set_cons_zero, List.set_cons_succ, Act.put]
                refine oneT (i := 12) rfl (by kernel_rfl) (fun K hK => ?_)
                go_simp
                refine hK.out _ _ (fun _ => hS1) ?_
                clear hK
                try simp only [List.setIfInBounds_toArray, List.set_cons_zero, List.set_cons_succ, Act.put]
                refine doneT (by kernel_rfl) ?_ _
                clear hS0 hS1
                go_wp2_with fail
                go_roundw
                case rel => exact ⟨i + 1, by go_num, hlt, by rw [hqe]; simp, HW.out⟩
                case measure => simp [intOf]; omega
              by_cases e2 : s[i] = 92
              · have e := e2
                have HNX := Lib.hid (quo_next hlt)
                rw [e] at HNX
                have hle := quo_take_le (s := s) hlt
                rw [e, ← hj, ← HN.out] at hle
                have hj2 : j + 2 ≤ N := hle
                have he : s[i].toNat = 92 := by rw [e]; rfl
                obtain ⟨pp, pc, hcell, hplt, hp0, hp1⟩ := HRR.out.b92
                have k0 := (below_cell HI.out.below HRR.out.lt).trans hcell
                have hS0 : (fun W : World => W.cell? ⟨R, 92, none⟩ = some (.slice (some ⟨pp, 0, none⟩) 2 pc)) wx.drew := k0
                obtain ⟨C, hC, hCs, hCq⟩ := HI.out.buf
                have HBW := Lib.hid (show Has wx.drew wr.heap.size C 5 from hC)
                have HW := Lib.hid (show BufI wr (wx.drew.setRow wr.heap.size (C.toList.take j ++ [Value.int .u8 92, Value.int .u8 92] ++ C.toList.drop (j + 2)).toArray) wr.heap.size N (quo (s.data.toList.take (i + 1))) from by
                  rw [HNX.out, show quoB 92 = [92, 92] from rfl]
                  have h := BufI.two HI.out hC hCs hCq (x := 92) (y := 92) (by rw [← hj]; omega)
                  rw [← hj] at h
                  exact h)
                have HCP := Lib.hid (fun (W : World) (hW : Has W wr.heap.size C 5) (h0 : W.cell? ⟨pp, 0, none⟩ = some (.int .u8 92)) (h1 : W.cell? ⟨pp, 1, none⟩ = some (.int .u8 92)) => copy_two W wr.heap.size C j pp pc 92 92 hW (by omega) h0 h1)
                have HCP := Lib.hid (fun (W : World) (hW : Has W wr.heap.size C 5) => fun (hc : W = wx.drew) => HCP.out W hW (by rw [hc]; exact (below_cell HI.out.below hplt).trans hp0) (by rw [hc]; exact (below_cell HI.out.below hplt).trans hp1))
                have hS1 : (fun W : World => W.cell? ⟨R, 92, none⟩ = some (.slice (some ⟨pp, 0, none⟩) 2 pc)) (wx.drew.setRow wr.heap.size (C.toList.take j ++ [Value.int .u8 92, Value.int .u8 92] ++ C.toList.drop (j + 2)).toArray) := (cell_setRow_other _ _ _ ⟨R, 92, none⟩ (Nat.ne_of_lt HRR.out.lt)).trans k0
                have hqe : (quo (s.data.toList.take (i + 1))).length = j + 2 := by rw [HNX.out, List.length_append, hj]; rfl
                have hnj : ¬ N = j := by omega
                have hb1 : (0 : Int) ≤ (j : Int) := by omega
                have hb2 : (j : Int) ≤ (N : Int) := by omega
                have hd2 : 2 ≤ N - j := by omega
                have wj : IntKind.i64.wrap ((j : Int) + 2) = (j : Int) + 2 := IntWalk.i64_in _ (by omega)
                have HJ := Lib.hid hj
                clear hcell hp0 hp1 hC hCs hCq hj hle
                generalize (C.toList.take j ++ [Value.int .u8 92, Value.int .u8 92] ++ C.toList.drop (j + 2)).toArray = C2 at *
                go_upto_region 28 with fail
                refine anyT_start (S := fun W : World => W.cell? ⟨R, 92, none⟩ = some (.slice (some ⟨pp, 0, none⟩) 2 pc)) (t := 13) (by kernel_rfl) ?_
                refine takeS (i := 0) (v := ?_) rfl rfl (by kernel_rfl) (by kernel_rfl) (by kernel_rfl) (fun _ _ _ h => h) (by decide) (by kernel_rfl) ?_ hS0 ?_
                rotate_left
                · intro w hSw; (try dsimp only at hSw); go_simp; (try with_reducible rfl)
                simp only [List.setIfInBounds_toArray, List.set_cons_zero, List.set_cons_succ]
                refine takeS (i := 1) (v := ?_) rfl rfl (by kernel_rfl) (by kernel_rfl) (by kernel_rfl) (fun _ _ _ h => h) (by decide) (by kernel_rfl) ?_ hS0 ?_
                rotate_left
                · intro w hSw; (try dsimp only at hSw); go_simp; (try with_reducible rfl)
                simp only [List.setIfInBounds_toArray, List.set_cons_zero, List.set_cons_succ]
                refine takeS (i := 2) (v := ?_) rfl rfl (by kernel_rfl) (by kernel_rfl) (by kernel_rfl) (fun _ _ _ h => h) (by decide) (by kernel_rfl) ?_ hS0 ?_
                rotate_left
                · intro w hSw; (try dsimp only at hSw); go_simp; (try with_reducible rfl)
                simp only [List.setIfInBounds_toArray, List.set_cons_zero, List.set_cons_succ]
                refine takeS (i := 3) (v := ?_) rfl rfl (by kernel_rfl) (by kernel_rfl) (by kernel_rfl) (fun _ _ _ h => h) (by decide) (by kernel_rfl) ?_ hS0 ?_
                rotate_left
                · intro w hSw; (try dsimp only at hSw); go_simp; (try with_reducible rfl)
                simp only [List.setIfInBounds_toArray, List.set_cons_zero, List.set_cons_succ]
                refine takeS (i := 4) (v := ?_) rfl rfl (by kernel_rfl) (by kernel_rfl) (by kernel_rfl) (fun _ _ _ h => h) (by decide) (by kernel_rfl) ?_ hS0 ?_
                rotate_left
                · intro w hSw; (try dsimp only at hSw); go_simp; (try with_reducible rfl)
                simp only [List.setIfInBounds_toArray, List.set_cons_zero, List.set_cons_succ]
                refine takeS (i := 5) (v := ?_) rfl rfl (by kernel_rfl) (by kernel_rfl) (by kernel_rfl) (fun _ _ _ h => h) (by decide) (by kernel_rfl) ?_ hS0 ?_
                rotate_left
                · intro w hSw; (try dsimp only at hSw); go_simp; (try with_reducible rfl)
                simp only [List.setIfInBounds_toArray, List.set_cons_zero, List.set_cons_succ]
                refine takeS (i := 6) (v := ?_) rfl rfl (by kernel_rfl) (by kernel_rfl) (by kernel_rfl) (fun _ _ _ h => h) (by decide) (by kernel_rfl) ?_ hS0 ?_
                rotate_left
                · intro w hSw; (try dsimp only at hSw); go_simp; (try with_reducible rfl)
                simp only [List.setIfInBounds_toArray, List.set_cons_zero, List.set_cons_succ]
                refine takeS (i := 7) (v := ?_) rfl rfl (by kernel_rfl) (by kernel_rfl) (by kernel_rfl) (fun _ _ _ h => h) (by decide) (by kernel_rfl) ?_ hS0 ?_
                rotate_left
                · intro w hSw; (try dsimp only at hSw); go_simp; (try with_reducible rfl)
                simp only [List.setIfInBounds_toArray, List.set_cons_zero, List.set_cons_succ]
                refine takeS (i := 8) (v := ?_) rfl rfl (by kernel_rfl) (by kernel_rfl) (by kernel_rfl) (fun _ _ _ h => h) (by decide) (by kernel_rfl) ?_ hS0 ?_
                rotate_left
                · intro w hSw; (try dsimp only at hSw); go_simp; (try with_reducible rfl)
                simp only [List.setIfInBounds_toArray, List.set_cons_zero, List.set_cons_succ]
                refine takeS (i := 9) (v := ?_) rfl rfl (by kernel_rfl) (by kernel_rfl) (by kernel_rfl) (fun _ _ _ h => h) (by decide) (by kernel_rfl) ?_ hS0 ?_
                rotate_left
                · intro w hSw; (try dsimp only at hSw); go_simp; (try with_reducible rfl)
                simp only [List.setIfInBounds_toArray, List.set_cons_zero, List.set_cons_succ]
                refine oneT (i := 10) rfl (by kernel_rfl) (fun K hK => ?_)
                go_simp
                rw [HCP.out wx.drew HBW.out rfl _ _ _ (by omega)]
                go_simp
                refine hK.out _ _ (fun _ => hS1) ?_
                clear hK
                try simp only [List.setIfInBounds_toArray, List.set_cons_zero, List.set_cons_succ, Act.put]
                refine oneT (i := 11) rfl (by kernel_rfl) (fun K hK => ?_)
                go_simp
                refine hK.out _ _ (fun _ => hS1) ?_
                clear hK
                try simp only [List.setIfInBounds_toArray, List.set_cons_zero, List.set_cons_succ, Act.put]
                refine oneT (i := 12) rfl (by kernel_rfl) (fun K hK => ?_)
                go_simp
                refine hK.out _ _ (fun _ => hS1) ?_
                clear hK
                try simp only [List.setIfInBounds_toArray, List.set_cons_zero, List.set_cons_succ, Act.put]
                refine doneT (by kernel_rfl) ?_ _
                clear hS0 hS1
                go_wp2_with fail
                go_roundw
                case rel => exact ⟨i + 1, by go_num, hlt, by rw [hqe]; simp, HW.out⟩
                case measure => simp [intOf]; omega
              · have hbq : quoB s[i] = [s[i]] := by unfold quoB; rw [if_neg e, if_neg e2]
                have HNX := Lib.hid (quo_next hlt)
                rw [hbq] at HNX
                have hle := quo_take_le (s := s) hlt
                rw [hbq, ← hj, ← HN.out] at hle
                have hj1 : j < N := hle
                have g1 : s[i].toNat ≠ 123 := fun g => e (UInt8.toNat_inj.1 g)
                have g2 : s[i].toNat ≠ 92 := fun g => e2 (UInt8.toNat_inj.1 g)
                have k0 := (below_cell HI.out.below HRR.out.lt).trans (HRR.out.none s[i].toNat (UInt8.toNat_lt _) g2 g1)
                obtain ⟨C, hC, hCs, _⟩ := HI.out.buf
                obtain ⟨u0, hu0⟩ : ∃ u, C[j]? = some u := ⟨_, Array.getElem?_eq_getElem (by omega)⟩
                have z0 := (hC.cell j).trans hu0
                have f0 := hC.fz j
                have HW := Lib.hid (show BufI wr (wx.setCell ⟨wr.heap.size, j, none⟩ (.int .u8 s[i].toNat)) wr.heap.size N (quo (s.data.toList.take (i + 1))) from by
                  rw [HNX.out]
                  have h := BufI.one HI.out s[i] (by rw [← hj]; exact hj1)
                  rw [← hj] at h
                  exact h)
                have hqe : (quo (s.data.toList.take (i + 1))).length = j + 1 := by rw [HNX.out, List.length_append, hj]; rfl
                have wj : IntKind.i64.wrap ((j : Int) + 1) = (j : Int) + 1 := IntWalk.i64_in _ (by omega)
                have hb1 : (0 : Int) ≤ (j : Int) := by omega
                have hu : s[i].toNat < 256 := UInt8.toNat_lt _
                clear hC hCs hu0 hj hle hbq e e2
                go_wp2_with fail
                go_roundw
                case rel => exact ⟨i + 1, by go_num, hlt, by rw [hqe]; simp, HW.out⟩
                case measure => simp [intOf]; omega
            · obtain rfl : i = s.size := by omega
              have HF := Lib.hid HI.out
              rw [show s.data.toList.take s.size = s.data.toList from List.take_of_length_le (by simp)] at HF
              obtain ⟨C, hC, hCs, hCq⟩ := HF.out.buf
              have hcs := run_convert_bytes_arg (P := Try.prog) (w := wx) 44 5 Try.underlying44 Try.underlying5 wr.heap.size 0 N N ((quo s.data.toList).map fun c => (c.toNat : Int)) (by rw [List.length_map]; exact HN.out.symm) (fun k hk => by
                rw [Nat.zero_add, hC.cell k]
                have hk' : k < (quo s.data.toList).length := by rw [← HN.out]; exact hk
                rw [hCq k _ (List.getElem?_eq_getElem hk')]
                simp [List.getD, hk']) 9 Try.underlying9
              rw [toNats] at hcs
              have HBX := Lib.hid (below_up HBW.out HI.out.below HBW.out.size)
              clear hC hCs hCq hj HF
              go_wp2_with fail
              go_ret
              exact ⟨rfl, HBX.out⟩
  · have q16 : decide ((16 : Int) ≤ (s.size : Int)) = false := decide_eq_false (by omega)
    have hnn0 := fun (W : World) (a : Option Addr) (l c : Nat) => run_neq_slice_nil (P := Try.prog) W 44 5 a l c Try.underlying44
    go_enter Try.func103, Try.ntmps103
    go_wp2_with fail
    go_loopw [5, 6, 10] (fun nv av iv wr => wr = w ∧ ∃ i j : Nat, iv = .int .i64 ((i : Nat) : Int) ∧ i ≤ s.size ∧ j = (quo (s.data.toList.take i)).length ∧ nv = .int .i64 ((s.size : Int) + (j : Int) - (i : Int)) ∧ av = .bool (decide (j ≠ i))) (fun _ _ iv _ => s.size - (intOf iv).toNat)
    case atStart => exact ⟨rfl, 0, 0, rfl, Nat.zero_le _, rfl, by simp, by simp⟩
    case round =>
      obtain ⟨rfl, i, j, rfl, hi, hj, rfl, rfl⟩ := hrel
      by_cases hlt : i < s.size
      · have hji : i ≤ j := by rw [hj]; exact quo_ge s hi
        have hle := quo_take_le (s := s) hlt
        rw [← hj, ← HN.out] at hle
        have HNX := Lib.hid (quo_next hlt)
        have HJ := Lib.hid hj
        clear hj
        by_cases e : s[i] = 123
        · have hbq : (quoB s[i]).length = 2 := by rw [e]; rfl
          have he : s[i].toNat = 123 := by rw [e]; rfl
          obtain ⟨pp, pc, hcell, _, _, _⟩ := HR.out.b123
          have hqe : (quo (s.data.toList.take (i + 1))).length = j + 2 := by rw [HNX.out, List.length_append, HJ.out, hbq]
          have wa : IntKind.i64.wrap ((s.size : Int) + (j : Int) - (i : Int) + 1) = (s.size : Int) + (j : Int) - (i : Int) + 1 := IntWalk.i64_in _ (by omega)
          clear hle hbq
          go_wp2_with fail
          go_roundw
          case rel => exact ⟨trivial, i + 1, j + 2, by go_num, hlt, hqe.symm, by congr 1; omega, by simp; omega⟩
          case measure => simp [intOf]; omega
        by_cases e2 : s[i] = 92
        · have e := e2
          have hbq : (quoB s[i]).length = 2 := by rw [e]; rfl
          have he : s[i].toNat = 92 := by rw [e]; rfl
          obtain ⟨pp, pc, hcell, _, _, _⟩ := HR.out.b92
          have hqe : (quo (s.data.toList.take (i + 1))).length = j + 2 := by rw [HNX.out, List.length_append, HJ.out, hbq]
          have wa : IntKind.i64.wrap ((s.size : Int) + (j : Int) - (i : Int) + 1) = (s.size : Int) + (j : Int) - (i : Int) + 1 := IntWalk.i64_in _ (by omega)
          clear hle hbq
          go_wp2_with fail
          go_roundw
          case rel => exact ⟨trivial, i + 1, j + 2, by go_num, hlt, hqe.symm, by congr 1; omega, by simp; omega⟩
          case measure => simp [intOf]; omega
        · have hbq : quoB s[i] = [s[i]] := by unfold quoB; rw [if_neg e, if_neg e2]
          have g1 : s[i].toNat ≠ 123 := fun g => e (UInt8.toNat_inj.1 g)
          have g2 : s[i].toNat ≠ 92 := fun g => e2 (UInt8.toNat_inj.1 g)
          have k0 := HR.out.none s[i].toNat (UInt8.toNat_lt _) g2 g1
          have hqe : (quo (s.data.toList.take (i + 1))).length = j + 1 := by rw [HNX.out, List.length_append, HJ.out, hbq]; rfl
          have hu : s[i].toNat < 256 := UInt8.toNat_lt _
          clear hle hbq e e2
          go_wp2_with fail
          go_roundw
          case rel => exact ⟨trivial, i + 1, j + 1, by go_num, hlt, hqe.symm, by congr 1; omega, by simp⟩
          case measure => simp [intOf]; omega
      · obtain rfl : i = s.size := by omega
        rw [show s.data.toList.take s.size = s.data.toList from List.take_of_length_le (by simp), ← HN.out] at hj
        obtain rfl : N = j := hj.symm
        clear hj
        have hsum : (s.size : Int) + (N : Int) - (s.size : Int) = (N : Int) := by omega
        rw [hsum]
        have HBW := Lib.hid (Below.refl wr.heap.size wr)
        clear hsum
        generalize hav : decide (N ≠ s.size) = av at *
        cases av with
        | false =>
          have hns : N = s.size := by simpa using hav
          have HE := Lib.hid (show (⟨(quo s.data.toList).toArray⟩ : ByteArray) = s from by
            rw [quo_same (by rw [← HN.out, hns]; simp)])
          clear hav hns
          go_wp2_with fail
          go_ret
          exact ⟨by rw [HE.out]; rfl, HBW.out⟩
        | true =>
          have hmk := make_bytes wr N (by omega)
          have HRR := Lib.hid (HR.out.below HBW.out)
          have HB0 := Lib.hid (BufI.start wr N)
          have hnn := fun (W : World) (a : Option Addr) (l c : Nat) => run_neq_slice_nil (P := Try.prog) W 44 5 a l c Try.underlying44
          clear hav
          go_upto_region 22 with fail
          generalize wr.alloc (.cells (madeCells #[.int .u8 0] N) 5) = w6 at *
          clear hmk
          go_wp2_with fail
          go_loopw [13, 14] (fun jv iv wx => ∃ i : Nat, iv = .int .i64 ((i : Nat) : Int) ∧ i ≤ s.size ∧ jv = .int .i64 (((quo (s.data.toList.take i)).length : Nat) : Int) ∧ BufI wr wx wr.heap.size N (quo (s.data.toList.take i))) (fun _ iv _ => s.size - (intOf iv).toNat)
          case atStart => exact ⟨0, rfl, Nat.zero_le _, rfl, HB0.out⟩
          case round =>
            rename World => wx
            obtain ⟨i, rfl, hi, rfl, hI⟩ := hrel
            have HI := Lib.hid hI
            clear hI HB0
            obtain ⟨j, hj⟩ : ∃ j, j = (quo (s.data.toList.take i)).length := ⟨_, rfl⟩
            rw [← hj]
            by_cases hlt : i < s.size
            · by_cases e : s[i] = 123
              · have HNX := Lib.hid (quo_next hlt)
                rw [e] at HNX
                have hle := quo_take_le (s := s) hlt
                rw [e, ← hj, ← HN.out] at hle
                have hj2 : j + 2 ≤ N := hle
                have he : s[i].toNat = 123 := by rw [e]; rfl
                obtain ⟨pp, pc, hcell, hplt, hp0, hp1⟩ := HRR.out.b123
                have k0 := (below_cell HI.out.below HRR.out.lt).trans hcell
                have hS0 : (fun W : World => W.cell? ⟨R, 123, none⟩ = some (.slice (some ⟨pp, 0, none⟩) 2 pc)) wx.drew := k0
                obtain ⟨C, hC, hCs, hCq⟩ := HI.out.buf
                have HBW := Lib.hid (show Has wx.drew wr.heap.size C 5 from hC)
                have HW := Lib.hid (show BufI wr (wx.drew.setRow wr.heap.size (C.toList.take j ++ [Value.int .u8 92, Value.int .u8 123] ++ C.toList.drop (j + 2)).toArray) wr.heap.size N (quo (s.data.toList.take (i + 1))) from by
                  rw [HNX.out, show quoB 123 = [92, 123] from rfl]
                  have h := BufI.two HI.out hC hCs hCq (x := 92) (y := 123) (by rw [← hj]; omega)
                  rw [← hj] at h
                  exact h)
                have HCP := Lib.hid (fun (W : World) (hW : Has W wr.heap.size C 5) (h0 : W.cell? ⟨pp, 0, none⟩ = some (.int .u8 92)) (h1 : W.cell? ⟨pp, 1, none⟩ = some (.int .u8 123)) => copy_two W wr.heap.size C j pp pc 92 123 hW (by omega) h0 h1)
                have HCP := Lib.hid (fun (W : World) (hW : Has W wr.heap.size C 5) => fun (hc : W = wx.drew) => HCP.out W hW (by rw [hc]; exact (below_cell HI.out.below hplt).trans hp0) (by rw [hc]; exact (below_cell HI.out.below hplt).trans hp1))
                have hS1 : (fun W : World => W.cell? ⟨R, 123, none⟩ = some (.slice (some ⟨pp, 0, none⟩) 2 pc)) (wx.drew.setRow wr.heap.size (C.toList.take j ++ [Value.int .u8 92, Value.int .u8 123] ++ C.toList.drop (j + 2)).toArray) := (cell_setRow_other _ _ _ ⟨R, 123, none⟩ (Nat.ne_of_lt HRR.out.lt)).trans k0
                have hqe : (quo (s.data.toList.take (i + 1))).length = j + 2 := by rw [HNX.out, List.length_append, hj]; rfl
                have hnj : ¬ N = j := by omega
                have hb1 : (0 : Int) ≤ (j : Int) := by omega
                have hb2 : (j : Int) ≤ (N : Int) := by omega
                have hd2 : 2 ≤ N - j := by omega
                have wj : IntKind.i64.wrap ((j : Int) + 2) = (j : Int) + 2 := IntWalk.i64_in _ (by omega)
                have HJ := Lib.hid hj
                clear hcell hp0 hp1 hC hCs hCq hj hle
                generalize (C.toList.take j ++ [Value.int .u8 92, Value.int .u8 123] ++ C.toList.drop (j + 2)).toArray = C2 at *
                go_upto_region 28 with fail
                refine anyT_start (S := fun W : World => W.cell? ⟨R, 123, none⟩ = some (.slice (some ⟨pp, 0, none⟩) 2 pc)) (t := 13) (by kernel_rfl) ?_
                refine takeS (i := 0) (v := ?_) rfl rfl (by kernel_rfl) (by kernel_rfl) (by kernel_rfl) (fun _ _ _ h => h) (by decide) (by kernel_rfl) ?_ hS0 ?_
                rotate_left
                · intro w hSw; (try dsimp only at hSw); go_simp; (try with_reducible rfl)
                simp only [List.setIfInBounds_toArray, List.set_cons_zero, List.set_cons_succ]
                refine takeS (i := 1) (v := ?_) rfl rfl (by kernel_rfl) (by kernel_rfl) (by kernel_rfl) (fun _ _ _ h => h) (by decide) (by kernel_rfl) ?_ hS0 ?_
                rotate_left
                · intro w hSw; (try dsimp only at hSw); go_simp; (try with_reducible rfl)
                simp only [List.setIfInBounds_toArray, List.set_cons_zero, List.set_cons_succ]
                refine takeS (i := 2) (v := ?_) rfl rfl (by kernel_rfl) (by kernel_rfl) (by kernel_rfl) (fun _ _ _ h => h) (by decide) (by kernel_rfl) ?_ hS0 ?_
                rotate_left
                · intro w hSw; (try dsimp only at hSw); go_simp; (try with_reducible rfl)
                simp only [List.setIfInBounds_toArray, List.set_cons_zero, List.set_cons_succ]
                refine takeS (i := 3) (v := ?_) rfl rfl (by kernel_rfl) (by kernel_rfl) (by kernel_rfl) (fun _ _ _ h => h) (by decide) (by kernel_rfl) ?_ hS0 ?_
                rotate_left
                · intro w hSw; (try dsimp only at hSw); go_simp; (try with_reducible rfl)
                simp only [List.setIfInBounds_toArray, List.set_cons_zero, List.set_cons_succ]
                refine takeS (i := 4) (v := ?_) rfl rfl (by kernel_rfl) (by kernel_rfl) (by kernel_rfl) (fun _ _ _ h => h) (by decide) (by kernel_rfl) ?_ hS0 ?_
                rotate_left
                · intro w hSw; (try dsimp only at hSw); go_simp; (try with_reducible rfl)
                simp only [List.setIfInBounds_toArray, List.set_cons_zero, List.set_cons_succ]
                refine takeS (i := 5) (v := ?_) rfl rfl (by kernel_rfl) (by kernel_rfl) (by kernel_rfl) (fun _ _ _ h => h) (by decide) (by kernel_rfl) ?_ hS0 ?_
                rotate_left
                · intro w hSw; (try dsimp only at hSw); go_simp; (try with_reducible rfl)
                simp only [List.setIfInBounds_toArray, List.set_cons_zero, List.set_cons_succ]
                refine takeS (i := 6) (v := ?_) rfl rfl (by kernel_rfl) (by kernel_rfl) (by kernel_rfl) (fun _ _ _ h => h) (by decide) (by kernel_rfl) ?_ hS0 ?_
                rotate_left
                · intro w hSw; (try dsimp only at hSw); go_simp; (try with_reducible rfl)
                simp only [List.setIfInBounds_toArray, List.set_cons_zero, List.set_cons_succ]
                refine takeS (i := 7) (v := ?_) rfl rfl (by kernel_rfl) (by kernel_rfl) (by kernel_rfl) (fun _ _ _ h => h) (by decide) (by kernel_rfl) ?_ hS0 ?_
                rotate_left
                · intro w hSw; (try dsimp only at hSw); go_simp; (try with_reducible rfl)
                simp only [List.setIfInBounds_toArray, List.set_cons_zero, List.set_cons_succ]
                refine takeS (i := 8) (v := ?_) rfl rfl (by kernel_rfl) (by kernel_rfl) (by kernel_rfl) (fun _ _ _ h => h) (by decide) (by kernel_rfl) ?_ hS0 ?_
                rotate_left
                · intro w hSw; (try dsimp only at hSw); go_simp; (try with_reducible rfl)
                simp only [List.setIfInBounds_toArray, List.set_cons_zero, List.set_cons_succ]
                refine takeS (i := 9) (v := ?_) rfl rfl (by kernel_rfl) (by kernel_rfl) (by kernel_rfl) (fun _ _ _ h => h) (by decide) (by kernel_rfl) ?_ hS0 ?_
                rotate_left
                · intro w hSw; (try dsimp only at hSw); go_simp; (try with_reducible rfl)
                simp only [List.setIfInBounds_toArray, List.set_cons_zero, List.set_cons_succ]
                refine oneT (i := 10) rfl (by kernel_rfl) (fun K hK => ?_)
                go_simp
                rw [HCP.out wx.drew HBW.out rfl _ _ _ (by omega)]
                go_simp
                refine hK.out _ _ (fun _ => hS1) ?_
                clear hK
                try simp only [List.setIfInBounds_toArray, List.set_cons_zero, List.set_cons_succ, Act.put]
                refine oneT (i := 11) rfl (by kernel_rfl) (fun K hK => ?_)
                go_simp
                refine hK.out _ _ (fun _ => hS1) ?_
                clear hK
                try simp only [List.setIfInBounds_toArray, List.set_cons_zero, List.set_cons_succ, Act.put]
                refine oneT (i := 12) rfl (by kernel_rfl) (fun K hK => ?_)
                go_simp
                refine hK.out _ _ (fun _ => hS1) ?_
                clear hK
                try simp only [List.setIfInBounds_toArray, List.set_cons_zero, List.set_cons_succ, Act.put]
                refine doneT (by kernel_rfl) ?_ _
                clear hS0 hS1
                go_wp2_with fail
                go_roundw
                case rel => exact ⟨i + 1, by go_num, hlt, by rw [hqe]; simp, HW.out⟩
                case measure => simp [intOf]; omega
              by_cases e2 : s[i] = 92
              · have e := e2
                have HNX := Lib.hid (quo_next hlt)
                rw [e] at HNX
                have hle := quo_take_le (s := s) hlt
                rw [e, ← hj, ← HN.out] at hle
                have hj2 : j + 2 ≤ N := hle
                have he : s[i].toNat = 92 := by rw [e]; rfl
                obtain ⟨pp, pc, hcell, hplt, hp0, hp1⟩ := HRR.out.b92
                have k0 := (below_cell HI.out.below HRR.out.lt).trans hcell
                have hS0 : (fun W : World => W.cell? ⟨R, 92, none⟩ = some (.slice (some ⟨pp, 0, none⟩) 2 pc)) wx.drew := k0
                obtain ⟨C, hC, hCs, hCq⟩ := HI.out.buf
                have HBW := Lib.hid (show Has wx.drew wr.heap.size C 5 from hC)
                have HW := Lib.hid (show BufI wr (wx.drew.setRow wr.heap.size (C.toList.take j ++ [Value.int .u8 92, Value.int .u8 92] ++ C.toList.drop (j + 2)).toArray) wr.heap.size N (quo (s.data.toList.take (i + 1))) from by
                  rw [HNX.out, show quoB 92 = [92, 92] from rfl]
                  have h := BufI.two HI.out hC hCs hCq (x := 92) (y := 92) (by rw [← hj]; omega)
                  rw [← hj] at h
                  exact h)
                have HCP := Lib.hid (fun (W : World) (hW : Has W wr.heap.size C 5) (h0 : W.cell? ⟨pp, 0, none⟩ = some (.int .u8 92)) (h1 : W.cell? ⟨pp, 1, none⟩ = some (.int .u8 92)) => copy_two W wr.heap.size C j pp pc 92 92 hW (by omega) h0 h1)
                have HCP := Lib.hid (fun (W : World) (hW : Has W wr.heap.size C 5) => fun (hc : W = wx.drew) => HCP.out W hW (by rw [hc]; exact (below_cell HI.out.below hplt).trans hp0) (by rw [hc]; exact (below_cell HI.out.below hplt).trans hp1))
                have hS1 : (fun W : World => W.cell? ⟨R, 92, none⟩ = some (.slice (some ⟨pp, 0, none⟩) 2 pc)) (wx.drew.setRow wr.heap.size (C.toList.take j ++ [Value.int .u8 92, Value.int .u8 92] ++ C.toList.drop (j + 2)).toArray) := (cell_setRow_other _ _ _ ⟨R, 92, none⟩ (Nat.ne_of_lt HRR.out.lt)).trans k0
                have hqe : (quo (s.data.toList.take (i + 1))).length = j + 2 := by rw [HNX.out, List.length_append, hj]; rfl
                have hnj : ¬ N = j := by omega
                have hb1 : (0 : Int) ≤ (j : Int) := by omega
                have hb2 : (j : Int) ≤ (N : Int) := by omega
                have hd2 : 2 ≤ N - j := by omega
                have wj : IntKind.i64.wrap ((j : Int) + 2) = (j : Int) + 2 := IntWalk.i64_in _ (by omega)
                have HJ := Lib.hid hj
                clear hcell hp0 hp1 hC hCs hCq hj hle
                generalize (C.toList.take j ++ [Value.int .u8 92, Value.int .u8 92] ++ C.toList.drop (j + 2)).toArray = C2 at *
                go_upto_region 28 with fail
                refine anyT_start (S := fun W : World => W.cell? ⟨R, 92, none⟩ = some (.slice (some ⟨pp, 0, none⟩) 2 pc)) (t := 13) (by kernel_rfl) ?_
                refine takeS (i := 0) (v := ?_) rfl rfl (by kernel_rfl) (by kernel_rfl) (by kernel_rfl) (fun _ _ _ h => h) (by decide) (by kernel_rfl) ?_ hS0 ?_
                rotate_left
                · intro w hSw; (try dsimp only at hSw); go_simp; (try with_reducible rfl)
                simp only [List.setIfInBounds_toArray, List.set_cons_zero, List.set_cons_succ]
                refine takeS (i := 1) (v := ?_) rfl rfl (by kernel_rfl) (by kernel_rfl) (by kernel_rfl) (fun _ _ _ h => h) (by decide) (by kernel_rfl) ?_ hS0 ?_
                rotate_left
                · intro w hSw; (try dsimp only at hSw); go_simp; (try with_reducible rfl)
                simp only [List.setIfInBounds_toArray, List.set_cons_zero, List.set_cons_succ]
                refine takeS (i := 2) (v := ?_) rfl rfl (by kernel_rfl) (by kernel_rfl) (by kernel_rfl) (fun _ _ _ h => h) (by decide) (by kernel_rfl) ?_ hS0 ?_
                rotate_left
                · intro w hSw; (try dsimp only at hSw); go_simp; (try with_reducible rfl)
                simp only [List.setIfInBounds_toArray, List.set_cons_zero, List.set_cons_succ]
                refine takeS (i := 3) (v := ?_) rfl rfl (by kernel_rfl) (by kernel_rfl) (by kernel_rfl) (fun _ _ _ h => h) (by decide) (by kernel_rfl) ?_ hS0 ?_
                rotate_left
                · intro w hSw; (try dsimp only at hSw); go_simp; (try with_reducible rfl)
                simp only [List.setIfInBounds_toArray, List.set_cons_zero, List.set_cons_succ]
                refine takeS (i := 4) (v := ?_) rfl rfl (by kernel_rfl) (by kernel_rfl) (by kernel_rfl) (fun _ _ _ h => h) (by decide) (by kernel_rfl) ?_ hS0 ?_
                rotate_left
                · intro w hSw; (try dsimp only at hSw); go_simp; (try with_reducible rfl)
                simp only [List.setIfInBounds_toArray, List.set_cons_zero, List.set_cons_succ]
                refine takeS (i := 5) (v := ?_) rfl rfl (by kernel_rfl) (by kernel_rfl) (by kernel_rfl) (fun _ _ _ h => h) (by decide) (by kernel_rfl) ?_ hS0 ?_
                rotate_left
                · intro w hSw; (try dsimp only at hSw); go_simp; (try with_reducible rfl)
                simp only [List.setIfInBounds_toArray, List.set_cons_zero, List.set_cons_succ]
                refine takeS (i := 6) (v := ?_) rfl rfl (by kernel_rfl) (by kernel_rfl) (by kernel_rfl) (fun _ _ _ h => h) (by decide) (by kernel_rfl) ?_ hS0 ?_
                rotate_left
                · intro w hSw; (try dsimp only at hSw); go_simp; (try with_reducible rfl)
                simp only [List.setIfInBounds_toArray, List.set_cons_zero, List.set_cons_succ]
                refine takeS (i := 7) (v := ?_) rfl rfl (by kernel_rfl) (by kernel_rfl) (by kernel_rfl) (fun _ _ _ h => h) (by decide) (by kernel_rfl) ?_ hS0 ?_
                rotate_left
                · intro w hSw; (try dsimp only at hSw); go_simp; (try with_reducible rfl)
                simp only [List.setIfInBounds_toArray, List.set_cons_zero, List.set_cons_succ]
                refine takeS (i := 8) (v := ?_) rfl rfl (by kernel_rfl) (by kernel_rfl) (by kernel_rfl) (fun _ _ _ h => h) (by decide) (by kernel_rfl) ?_ hS0 ?_
                rotate_left
                · intro w hSw; (try dsimp only at hSw); go_simp; (try with_reducible rfl)
                simp only [List.setIfInBounds_toArray, List.set_cons_zero, List.set_cons_succ]
                refine takeS (i := 9) (v := ?_) rfl rfl (by kernel_rfl) (by kernel_rfl) (by kernel_rfl) (fun _ _ _ h => h) (by decide) (by kernel_rfl) ?_ hS0 ?_
                rotate_left
                · intro w hSw; (try dsimp only at hSw); go_simp; (try with_reducible rfl)
                simp only [List.setIfInBounds_toArray, List.set_cons_zero, List.set_cons_succ]
                refine oneT (i := 10) rfl (by kernel_rfl) (fun K hK => ?_)
                go_simp
                rw [HCP.out wx.drew HBW.out rfl _ _ _ (by omega)]
                go_simp
                refine hK.out _ _ (fun _ => hS1) ?_
                clear hK
                try simp only [List.setIfInBounds_toArray, List.set_cons_zero, List.set_cons_succ, Act.put]
                refine oneT (i := 11) rfl (by kernel_rfl) (fun K hK => ?_)
                go_simp
                refine hK.out _ _ (fun _ => hS1) ?_
                clear hK
                try simp only [List.setIfInBounds_toArray, List.set_cons_zero, List.set_cons_succ, Act.put]
                refine oneT (i := 12) rfl (by kernel_rfl) (fun K hK => ?_)
                go_simp
                refine hK.out _ _ (fun _ => hS1) ?_
                clear hK
                try simp only [List.setIfInBounds_toArray, List.set_cons_zero, List.set_cons_succ, Act.put]
                refine doneT (by kernel_rfl) ?_ _
                clear hS0 hS1
                go_wp2_with fail
                go_roundw
                case rel => exact ⟨i + 1, by go_num, hlt, by rw [hqe]; simp, HW.out⟩
                case measure => simp [intOf]; omega
              · have hbq : quoB s[i] = [s[i]] := by unfold quoB; rw [if_neg e, if_neg e2]
                have HNX := Lib.hid (quo_next hlt)
                rw [hbq] at HNX
                have hle := quo_take_le (s := s) hlt
                rw [hbq, ← hj, ← HN.out] at hle
                have hj1 : j < N := hle
                have g1 : s[i].toNat ≠ 123 := fun g => e (UInt8.toNat_inj.1 g)
                have g2 : s[i].toNat ≠ 92 := fun g => e2 (UInt8.toNat_inj.1 g)
                have k0 := (below_cell HI.out.below HRR.out.lt).trans (HRR.out.none s[i].toNat (UInt8.toNat_lt _) g2 g1)
                obtain ⟨C, hC, hCs, _⟩ := HI.out.buf
                obtain ⟨u0, hu0⟩ : ∃ u, C[j]? = some u := ⟨_, Array.getElem?_eq_getElem (by omega)⟩
                have z0 := (hC.cell j).trans hu0
                have f0 := hC.fz j
                have HW := Lib.hid (show BufI wr (wx.setCell ⟨wr.heap.size, j, none⟩ (.int .u8 s[i].toNat)) wr.heap.size N (quo (s.data.toList.take (i + 1))) from by
                  rw [HNX.out]
                  have h := BufI.one HI.out s[i] (by rw [← hj]; exact hj1)
                  rw [← hj] at h
                  exact h)
                have hqe : (quo (s.data.toList.take (i + 1))).length = j + 1 := by rw [HNX.out, List.length_append, hj]; rfl
                have wj : IntKind.i64.wrap ((j : Int) + 1) = (j : Int) + 1 := IntWalk.i64_in _ (by omega)
                have hb1 : (0 : Int) ≤ (j : Int) := by omega
                have hu : s[i].toNat < 256 := UInt8.toNat_lt _
                clear hC hCs hu0 hj hle hbq e e2
                go_wp2_with fail
                go_roundw
                case rel => exact ⟨i + 1, by go_num, hlt, by rw [hqe]; simp, HW.out⟩
                case measure => simp [intOf]; omega
            · obtain rfl : i = s.size := by omega
              have HF := Lib.hid HI.out
              rw [show s.data.toList.take s.size = s.data.toList from List.take_of_length_le (by simp)] at HF
              obtain ⟨C, hC, hCs, hCq⟩ := HF.out.buf
              have hcs := run_convert_bytes_arg (P := Try.prog) (w := wx) 44 5 Try.underlying44 Try.underlying5 wr.heap.size 0 N N ((quo s.data.toList).map fun c => (c.toNat : Int)) (by rw [List.length_map]; exact HN.out.symm) (fun k hk => by
                rw [Nat.zero_add, hC.cell k]
                have hk' : k < (quo s.data.toList).length := by rw [← HN.out]; exact hk
                rw [hCq k _ (List.getElem?_eq_getElem hk')]
                simp [List.getD, hk']) 9 Try.underlying9
              rw [toNats] at hcs
              have HBX := Lib.hid (below_up HBW.out HI.out.below HBW.out.size)
              clear hC hCs hCq hj HF
              go_wp2_with fail
              go_ret
              exact ⟨rfl, HBX.out⟩
end Go.Proofs.Ytfohehldkchnjaa
