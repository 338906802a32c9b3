/- slices.DeleteFunc at entries of which one goes. -/
import Derived.Test.YtfjcbclakgidkaaIaIdx
import Derived.Test.YtfjcbclakgidkaaIaWith
namespace Go.Proofs.Ytfjcbclakgidkaa
open Go.RowKit

def delRow (L : List EnM) (k m : Nat) : List EnM := (List.range L.length).map fun p => L.getD (if k ≤ p ∧ p < m then p + 1 else p) (0, ⟨#[]⟩, ⟨#[]⟩)
theorem delRow_len (L : List EnM) (k m : Nat) : (delRow L k m).length = L.length := by simp [delRow]
theorem delRow_start (L : List EnM) (k : Nat) : delRow L k k = L := by
  apply List.ext_getElem
  · exact delRow_len _ _ _
  · intro p h1 h2
    simp only [delRow, List.getElem_map, List.getElem_range]
    rw [if_neg (by omega), List.getD_eq_getElem?_getD, List.getElem?_eq_getElem h2]
    rfl
theorem delRow_at (L : List EnM) {k m p : Nat} (hp : p < L.length) (hm : m ≤ p) : (delRow L k m)[p]'(by rw [delRow_len]; exact hp) = L[p] := by
  simp only [delRow, List.getElem_map, List.getElem_range]
  rw [if_neg (by omega), List.getD_eq_getElem?_getD, List.getElem?_eq_getElem hp]
  rfl
theorem delRow_next (L : List EnM) {k m : Nat} (hk : k ≤ m) (hm : m + 1 < L.length) : (delRow L k m).set m L[m + 1] = delRow L k (m + 1) := by
  apply List.ext_getElem
  · rw [List.length_set, delRow_len, delRow_len]
  · intro p h1 h2
    rw [delRow_len] at h2
    by_cases e : p = m
    · subst e
      rw [List.getElem_set_self]
      simp only [delRow, List.getElem_map, List.getElem_range]
      rw [if_pos (by omega), List.getD_eq_getElem?_getD, List.getElem?_eq_getElem hm]
      rfl
    · rw [List.getElem_set_ne (fun g => e g.symm)]
      simp only [delRow, List.getElem_map, List.getElem_range]
      by_cases g : k ≤ p ∧ p < m
      · rw [if_pos g, if_pos (by omega)]
      · rw [if_neg g, if_neg (by omega)]
theorem delRow_end (L : List EnM) {k : Nat} (hk : k < L.length) : (delRow L k (L.length - 1)).take (L.length - 1) = L.take k ++ L.drop (k + 1) := by
  apply List.ext_getElem
  · rw [List.length_take, delRow_len, List.length_append, List.length_take, List.length_drop]
    omega
  · intro p h1 h2
    rw [List.length_take, delRow_len] at h1
    rw [List.getElem_take]
    simp only [delRow, List.getElem_map, List.getElem_range]
    by_cases g : p < k
    · rw [if_neg (by omega), List.getElem_append_left (by rw [List.length_take]; omega), List.getElem_take, List.getD_eq_getElem?_getD, List.getElem?_eq_getElem (by omega)]
      rfl
    · rw [if_pos (by omega), List.getElem_append_right (by rw [List.length_take]; omega), List.getElem_drop, List.getD_eq_getElem?_getD, List.getElem?_eq_getElem (by omega)]
      simp only [List.length_take, Option.getD_some]
      congr 1
      omega
theorem encE_set (R : List EnM) (m : Nat) (e : EnM) : (((R.flatMap encE).set (m * 3) (.int .i64 e.1)).set (m * 3 + 1) (.string e.2.1)).set (m * 3 + 2) (.string e.2.2) = (R.set m e).flatMap encE := by
  induction R generalizing m with
  | nil => simp
  | cons a R ih =>
    cases m with
    | zero => simp [encE]
    | succ m =>
      have := ih m
      rw [List.set_cons_succ, List.flatMap_cons, List.flatMap_cons, ← this]
      have hl : (encE a).length = 3 := rfl
      rw [show (m + 1) * 3 = (encE a).length + m * 3 by rw [hl]; omega, Nat.add_assoc, Nat.add_assoc, List.set_append_right _ _ (by omega), List.set_append_right _ _ (by omega), List.set_append_right _ _ (by omega)]
      simp only [Nat.add_sub_cancel_left]
/-- clear of one element -/
theorem run_clear1 {P : Program} (w : World) (t e ty : TypeId) (z : Value) (ht : P.underlying t = some (.slice e)) (hv : ∀ w, (zeroValue e).run P w = .ok z w) (g o c : Nat) (cur : Array Value) (t' : TypeId) (hg : w.heap[g]? = some (.cells cur t' (0, 0))) (hfit : o + z.cells.size ≤ cur.size) (h1 : ∀ v ∈ z.cells.toList, v.oneCell' = true) :
    (Builtin.clear_ #[t] ty #[.slice (some ⟨g, o, none⟩) 1 c]).run P w = .ok (.tuple #[]) (w.setRow g (cur.toList.take o ++ z.cells.toList ++ cur.toList.drop (o + z.cells.toList.length)).toArray) := by
  have hst := run_storeCells_at P g o t' z.cells.toList 0 cur w hg (by simpa using hfit) h1
  have hzc : (Builtin.zeroCells z.cells 1).toList = z.cells.toList := by
    congr 1
    apply Array.ext
    · simp [Builtin.zeroCells]
    · intro i h1 h2
      simp [Builtin.zeroCells, Nat.mod_eq_of_lt h2, h2]
  rw [Nat.add_zero] at hst
  simp [Builtin.clear_, run_underlying ht, hv, hzc, hst]
theorem zeroEn (w : World) : (zeroValue 24).run Try.prog w = .ok (.agg #[.int .i64 0, .string ⟨#[]⟩, .string ⟨#[]⟩]) w := by kernel_rfl
theorem encE_take (R : List EnM) (m : Nat) (hm : m ≤ R.length) : (R.flatMap encE).take (m * 3) = (R.take m).flatMap encE := by
  have e : R.flatMap encE = (R.take m).flatMap encE ++ (R.drop m).flatMap encE := by rw [← List.flatMap_append, List.take_append_drop]
  have hl : ((R.take m).flatMap encE).length = m * 3 := by rw [encE_len, List.length_take, Nat.min_eq_left hm]
  rw [e, ← hl, List.take_left]
/-- the last element is cleared; what stands ahead of it -/
theorem clear_last {w : World} {B g c n m : Nat} {R : List EnM} (h : w.ownsRow B 24 3 (.slice (some ⟨g, 0, none⟩) n c) n (R.flatMap encE)) (hR : R.length = n) (hn : n = m + 1) :
    ∃ cur' : Array Value, (∀ ty c', (Builtin.clear_ #[22] ty #[.slice (some ⟨g, m * 3, none⟩) 1 c']).run Try.prog w = .ok (.tuple #[]) (w.setRow g cur')) ∧ (w.setRow g cur').ownsRow B 24 3 (.slice (some ⟨g, 0, none⟩) m c) m ((R.take m).flatMap encE) := by
  rcases h.2 with ⟨q, _⟩ | ⟨g', cap, cur, hv, h1, h2, h3, h4, h5, h6⟩
  · cases q
  cases hv
  refine ⟨_, fun ty c' => run_clear1 w 22 24 ty _ Try.underlying22 zeroEn g (m * 3) c' cur _ h2 (by show m * 3 + 3 ≤ cur.size; omega) (by intro v hv; simp [Value.cells] at hv; rcases hv with rfl | rfl <;> rfl), ?_⟩
  have hz : (Value.agg #[Value.int .i64 0, Value.string ⟨#[]⟩, Value.string ⟨#[]⟩]).cells.toList.length = 3 := rfl
  have hcl : cur.toList.length = c * 3 := by rw [Array.length_toList]; exact h5
  refine ⟨by rw [encE_len, List.length_take]; omega, .inr ⟨g, c, _, rfl, h1, setRow_heap _ _ cur _ _ _ h2, by omega, h4, ?_, ?_⟩⟩
  · simp only [List.size_toArray, List.length_append, List.length_take, List.length_drop, hz, hcl]
    omega
  · rw [List.append_assoc, List.take_append_of_le_length (by rw [List.length_take]; omega), List.take_take, Nat.min_self]
    rw [← encE_take R m (by omega), ← h6, List.take_take, Nat.min_eq_left (by omega)]
structure DlInv (w wr : World) (B g c : Nat) (L : List EnM) (k m : Nat) : Prop where
  own : wr.ownsRow B 24 3 (.slice (some ⟨g, 0, none⟩) L.length c) L.length ((delRow L k m).flatMap encE)
  below : Below B w wr
set_option maxRecDepth 100000 in
set_option maxHeartbeats 8000000 in
theorem DeleteFunc_any (B g c V : Nat) (id : Int) (L : List EnM) (k : Nat) (w : World) (ho : w.ownsRow B 24 3 (.slice (some ⟨g, 0, none⟩) L.length c) L.length (L.flatMap encE)) (hV : w.cell? ⟨V, 0, none⟩ = some (.int .i64 id)) (hVB : V < B) (hB : B ≤ w.heap.size)
    (hk : k < L.length) (hkid : L[k].1 = id) (huni : ∀ j (hj : j < L.length), j ≠ k → L[j].1 ≠ id) (hl : L.length ≤ 1000) :
    Calls Try.prog 13 #[.slice (some ⟨g, 0, none⟩) L.length c, .func (.func 14) #[] #[.pointer (some ⟨V, 0, none⟩)]] w fun e w' => (∃ v', e = .returned v' ∧ EntsAt w' v' (L.take k ++ L.drop (k + 1))) ∧ Below B w w' := by
  have HO := Lib.hid ho
  have HV := Lib.hid hV
  have HKID := Lib.hid hkid
  have HU := Lib.hid huni
  have hcap : L.length ≤ c ∧ c ≤ maxLen := by
    rcases ho.2 with ⟨q, _⟩ | ⟨g', cap, cur, hv, h1, h2, h3, h4, h5, h6⟩
    · cases q
    · cases hv
      exact ⟨h3, h4⟩
  have hc63 : c ≤ 9223372036854775807 := by have := hcap.2; unfold maxLen at this; omega
  have hcL := hcap.1
  have hBg : B ≤ g := (ho.lt g rfl).1
  clear ho hV hkid huni hcap
  go_enter Try.func13, Try.ntmps13
  go_wp2_with fail
  refine (IndexEq_any (.slice (some ⟨g, 0, none⟩) L.length c) L id V w (EntsAt.of_own HO.out) HV.out (by omega) (by omega)).mono ?_
  rintro e w1 ⟨⟨kk, rfl, hkk⟩, hb1⟩
  obtain rfl : kk = (k : Int) := by
    rcases hkk with ⟨_, h2⟩ | ⟨n, hn, rfl, h2, h3⟩
    · have h4 := h2 L[k] (List.getElem_mem _)
      rw [HKID.out] at h4
      simp at h4
    · by_cases g2 : n = k
      · rw [g2]
      · have h4 : L[n].1 = id := by simpa using h2
        exact absurd h4 (HU.out n hn g2)
  have HI0 := Lib.hid (show DlInv w w1 B g c L k k from ⟨by rw [delRow_start]; exact owns_below HO.out hb1, hb1.mono hB⟩)
  have qk : ((k : Int) == -1) = false := beq_eq_false_iff_ne.2 (by omega)
  clear hkk hb1
  go_wp2_with fail
  clear qk
  go_loopw [5, 6] (fun iv jv wr => ∃ m : Nat, iv = .int .i64 ((m : Nat) : Int) ∧ jv = .int .i64 (((m + 1 : Nat)) : Int) ∧ k ≤ m ∧ m + 1 ≤ L.length ∧ DlInv w wr B g c L k m) (fun _ jv _ => L.length - (intOf jv).toNat)
  case atStart => exact ⟨k, rfl, by go_num, Nat.le_refl _, by omega, HI0.out⟩
  case round =>
    clear HI0
    obtain ⟨m, rfl, rfl, hkm, hm, hI⟩ := hrel
    have HI := Lib.hid hI
    have hBr : B ≤ wr.heap.size := Nat.le_trans hB hI.below.size
    clear hI
    by_cases hlt : m + 1 < L.length
    · have hlen := delRow_len L k m
      have hfl := encE_len (delRow L k m)
      rw [hlen] at hfl
      obtain ⟨en, hen⟩ : ∃ en, en = L[m + 1] := ⟨_, rfl⟩
      have hat := delRow_at L (k := k) (m := m) (p := m + 1) hlt (by omega)
      rw [← hen] at hat
      obtain ⟨ei, et, eb⟩ := en
      have key : ∀ j (hj : j < 3), wr.cell? ⟨g, (m + 1) * 3 + j, none⟩ = some ((encE (ei, et, eb))[j]'hj) := fun j hj => by
        have h1 := (owns_at HI.out.own (j := (m + 1) * 3 + j) (by rw [hfl]; omega)).1
        have h2 := flatMap_at encE 3 (delRow L k m) (fun _ _ => rfl) (m + 1) j (by rw [hlen]; exact hlt) hj
        rw [hat, List.getElem?_eq_getElem (by rw [hfl]; omega), List.getElem?_eq_getElem (show j < (encE (ei, et, eb)).length from hj)] at h2
        rw [h1, h2]
        rfl
      have e0 : wr.cell? ⟨g, (m + 1) * 3, none⟩ = some (.int .i64 ei) := key 0 (by decide)
      have e1 : wr.cell? ⟨g, (m + 1) * 3 + 1, none⟩ = some (.string et) := key 1 (by decide)
      have e2 : wr.cell? ⟨g, (m + 1) * 3 + 2, none⟩ = some (.string eb) := key 2 (by decide)
      have hid := HU.out (m + 1) hlt (by omega)
      rw [← hen] at hid
      have hid : ei ≠ id := hid
      have HEN := Lib.hid hen
      have HID := Lib.hid hid
      have hbn : Below wr.heap.size wr (wr.alloc (.cells #[.int .i64 ei, .string et, .string eb] 24)) := (Below.refl _ _).alloc (Nat.le_refl _) _
      have k0 := Has.new wr #[.int .i64 ei, .string et, .string eb] 24
      have HBN := Lib.hid hbn
      clear hlen hfl hen hat key hid hbn
      go_upto_region 8 with fail
      obtain ⟨Eb, hEb⟩ : ∃ Eb, Eb = wr.heap.size := ⟨_, rfl⟩
      rw [← hEb] at k0 ⊢
      have hEr : wr.heap.size ≤ Eb := by omega
      clear hEb e0 e1 e2
      generalize wr.alloc (.cells #[.int .i64 ei, .string et, .string eb] 24) = w3 at *
      have x0 := k0.cell 0
      have x1 := k0.cell 1
      have x2 := k0.cell 2
      have HK0 := Lib.hid k0
      have hVr : V < wr.heap.size := by omega
      have HC := Lib.hid (eq_any ei id et eb V w3 ((below_cell HBN.out hVr).trans ((below_cell HI.out.below hVB).trans HV.out)) (Nat.lt_of_lt_of_le hVr HBN.out.size))
      clear k0
      go_wp2_with fail
      refine HC.out.mono ?_
      rintro e w4 ⟨rfl, hb4⟩
      have qn : (ei == id) = false := beq_eq_false_iff_ne.2 HID.out
      rw [qn]
      have HO4 := Lib.hid (owns_below (owns_below HI.out.own HBN.out) hb4)
      have HB4 := Lib.hid ((HI.out.below.trans (HBN.out.mono hBr)).trans (hb4.mono (Nat.le_trans hBr HBN.out.size)))
      replace x0 := (below_cell hb4 HK0.out.lt).trans x0
      replace x1 := (below_cell hb4 HK0.out.lt).trans x1
      replace x2 := (below_cell hb4 HK0.out.lt).trans x2
      have hfl2 : ((delRow L k m).flatMap encE).length = L.length * 3 := by rw [encE_len, delRow_len]
      obtain ⟨y0, z0⟩ := owns_at HO4.out (j := m * 3) (by rw [hfl2]; omega)
      obtain ⟨y1, z1⟩ := owns_at HO4.out (j := m * 3 + 1) (by rw [hfl2]; omega)
      obtain ⟨y2, z2⟩ := owns_at HO4.out (j := m * 3 + 2) (by rw [hfl2]; omega)
      clear hb4 qn
      go_wp2_with fail
      go_roundw
      case rel =>
        have h1 := owns_setAt (owns_setAt (owns_setAt HO4.out (m * 3) (.int .i64 ei)) (m * 3 + 1) (.string et)) (m * 3 + 2) (.string eb)
        have h2 := encE_set (delRow L k m) m (ei, et, eb)
        have h3 : (delRow L k m).set m (ei, et, eb) = delRow L k (m + 1) := by rw [HEN.out]; exact delRow_next L hkm hlt
        simp only at h2
        rw [h2, h3] at h1
        exact ⟨m + 1, by go_num, by go_num, by omega, hlt, h1, ((HB4.out.setCell (p := ⟨g, m * 3, none⟩) hBg _).setCell (p := ⟨g, m * 3 + 1, none⟩) hBg _).setCell (p := ⟨g, m * 3 + 2, none⟩) hBg _⟩
      case measure => simp [intOf]; omega
    · have hmn : L.length = m + 1 := by omega
      have hmc : ¬ (c = m) := by omega
      obtain ⟨cur', hcl, hown⟩ := clear_last HI.out.own (delRow_len L k m) hmn
      have HOWN := Lib.hid hown
      have HMN := Lib.hid hmn
      have hcl0 := hcl 0 (c - m)
      clear hown hcl
      go_wp2_with fail
      go_ret
      have he := EntsAt.of_own (L := (delRow L k m).take m) (by rw [List.length_take, delRow_len, Nat.min_eq_left (by have := HMN.out; omega)]; exact HOWN.out)
      have hend := delRow_end L hk
      rw [HMN.out, Nat.add_sub_cancel] at hend
      rw [hend] at he
      exact ⟨⟨_, rfl, he⟩, setRow_below HI.out.below hBg⟩
end Go.Proofs.Ytfjcbclakgidkaa
