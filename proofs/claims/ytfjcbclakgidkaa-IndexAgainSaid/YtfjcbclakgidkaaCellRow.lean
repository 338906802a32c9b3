/- Rows of cells: a slice's elements as lists of cells, and 'append(out, l...)' of such. -/
import Derived.Test.YtfjcbclakgidkaaStrs
import Derived.OwnWalk
namespace Go.Proofs.Ytfjcbclakgidkaa
open Go.RowKit

def rowR (_ : World) (cs x : List Value) : Prop := cs = x
theorem rowR_stable : Stable rowR := fun _ _ _ _ h _ => h
/-- a slice that reads as these rows of so many cells -/
def RowsAt (sz : Nat) (w : World) (v : Value) (L : List (List Value)) : Prop := SliceAt sz rowR w v L
theorem RowsAt.below {sz : Nat} {w w' : World} {v : Value} {L : List (List Value)} (h : RowsAt sz w v L) (hb : Below w.heap.size w w') : RowsAt sz w' v L := SliceAt.stable rowR_stable h hb
theorem RowsAt.row {sz : Nat} {w : World} {v : Value} {L : List (List Value)} (h : RowsAt sz w v L) (r : List Value) (hr : r ∈ L) : r.length = sz := by
  obtain ⟨i, hi, rfl⟩ := List.mem_iff_getElem.1 hr
  obtain ⟨b, off, cap, _, _, _, hel⟩ := SliceAt.at h (by omega)
  obtain ⟨cs, ⟨hl, _⟩, he⟩ := hel i hi
  rw [← he]
  exact hl
theorem RowsAt.cell {sz : Nat} {w : World} {b off c n : Nat} {L : List (List Value)} (h : ∀ i (h : i < L.length), ∃ cs, ElemAt w b off sz i cs ∧ rowR w cs L[i]) (h0 : 0 < sz) (j : Nat) (u : Value) (hj : (L.flatMap id)[j]? = some u) :
    w.cell? ((⟨b, off, none⟩ : Addr).add j) = some u := by
  have hlen : ∀ r ∈ L, (id r).length = sz := by
    intro r hr
    obtain ⟨i, hi, rfl⟩ := List.mem_iff_getElem.1 hr
    obtain ⟨cs, ⟨hl, _⟩, he⟩ := h i hi
    show L[i].length = sz
    rw [← he]
    exact hl
  have htot : (L.flatMap id).length = L.length * sz := by
    clear hj h
    induction L with
    | nil => simp
    | cons r l ih =>
      rw [List.flatMap_cons, List.length_append, ih (fun x hx => hlen x (List.mem_cons_of_mem _ hx)), hlen r List.mem_cons_self, List.length_cons, Nat.succ_mul]
      omega
  have hlt : j < (L.flatMap id).length := (List.getElem?_eq_some_iff.1 hj).1
  rw [htot] at hlt
  have hi : j / sz < L.length := Nat.div_lt_of_lt_mul (by rw [Nat.mul_comm]; exact hlt)
  have hr : j % sz < sz := Nat.mod_lt _ h0
  obtain ⟨cs, ⟨hl, hc⟩, he⟩ := h (j / sz) hi
  have e1 := flatMap_at id sz L hlen (j / sz) (j % sz) hi hr
  have e2 : j / sz * sz + j % sz = j := by rw [Nat.mul_comm]; exact Nat.div_add_mod j sz
  rw [e2, hj] at e1
  have h4 := hc (j % sz) (by omega)
  have e5 : (⟨b, off, none⟩ : Addr).add j = ⟨b, off + j / sz * sz + j % sz, none⟩ := by
    unfold Addr.add
    split
    · simp only [Addr.mk.injEq, true_and, and_true]; omega
    · simp only [Addr.mk.injEq, true_and, and_true]; omega
  rw [e5, h4]
  have he : cs = L[j / sz] := he
  subst he
  have e6 : (id L[j / sz])[j % sz]? = some (L[j / sz][j % sz]'(by omega)) := List.getElem?_eq_getElem (by show j % sz < L[j / sz].length; omega)
  rw [e6] at e1
  exact e1.symm
/-- 'append(out, l...)' of elements that lie in memory -/
theorem append_all {P : Program} {ops : Array Oper} {rest : List Oper} {o : Oper} {a : Act} {Q : Exit → Act → World → Prop} (hgd : o.guard = none) (s x : Operand) (t : TypeId)
    (ho : o.op = .call { callee := .builtin .append, args := #[s, x], argTypes := #[t, t] })
    (B : Nat) (e : TypeId) (z : Value) (size bytes : Nat) (ht : P.underlying t = some (.slice e)) (hi : (P.info? e).map (fun i => (i.zero, i.size, i.bytes)) = some (some z, size, bytes))
    (hzs : z.cells.size = size) (hsz : 0 < size)
    (W w : World) (v : Value) (n : Nat) (xs : List Value) (hs : a.eval s = v) (hown : w.ownsRow B e size v n xs)
    (xa : Option Addr) (c : Nat) (L : List (List Value)) (hx : a.eval x = .slice xa L.length c) (hL : RowsAt size w (.slice xa L.length c) L) (h1 : ∀ r ∈ L, ∀ u ∈ r, u.oneCell' = true)
    (hbytes : (n + L.length) * bytes ≤ 140737488355328) (hn : n + L.length < 140737488355328) (hB : B ≤ w.heap.size) (hbel : Below B W w)
    (h : ∀ v' w', w'.ownsRow B e size v' (n + L.length) (xs ++ L.flatMap id) → Below B W w' → wpList P ops Q rest (a.put o.dst v') w') :
    wpList P ops Q (o :: rest) a w := by
  obtain ⟨i0, hi0, hz0, hz1, hz2⟩ := info_parts hi
  by_cases h0 : L.length = 0
  · obtain rfl : L = [] := List.eq_nil_of_length_eq_zero h0
    have hrun := append_zero (P := P) B t o.type e i0 size ht hi0 v n xs hown xa c
    refine Lib.wpList_append_run _ hgd _ _ _ _ ho _ _ hs hx _ _ hrun (h _ _ ?_ hbel)
    simpa using hown
  · obtain ⟨b, off, c', hv', hcc, hb, hel⟩ := SliceAt.at hL (by omega)
    simp only [Value.slice.injEq] at hv'
    obtain ⟨rfl, _, rfl⟩ := hv'
    have hlen : (L.flatMap id).length = L.length * size := by
      have hr := hL.row
      clear hel hcc hb hL hx h h1 hbytes hn h0
      induction L with
      | nil => simp
      | cons r l ih =>
        rw [List.flatMap_cons, List.length_append, ih (fun x hx => hr x (List.mem_cons_of_mem _ hx)), show (id r).length = size from hr r List.mem_cons_self, List.length_cons, Nat.succ_mul]
        omega
    refine wpList_append_own _ hgd s x t ho B e i0 z size bytes ht hi0 hz0 hz1 hz2 hzs hsz v n xs hs hown ⟨b, off, none⟩ L.length c (L.flatMap id) hx hlen (RowsAt.cell (c := 0) (n := 0) hel hsz) (fun u hu => by
      obtain ⟨r, hr, hu⟩ := List.mem_flatMap.1 hu
      exact h1 r hr u hu) (by unfold maxLen; omega) hbytes hB ?_
    intro v' w' h2 hg _
    exact h v' w' h2 (hbel.grown hg hB (fun k hk => (hown.lt k hk).1))
theorem RowsAt.cons {sz : Nat} {w : World} {v : Value} {x : List Value} {l : List (List Value)} (h : RowsAt sz w v (x :: l)) :
    ∃ b off cap, v = .slice (some ⟨b, off, none⟩) (l.length + 1) cap ∧ l.length + 1 ≤ cap ∧ b < w.heap.size ∧ (∀ j (hj : j < x.length), w.cell? ⟨b, off + j, none⟩ = some x[j]) ∧ RowsAt sz w (.slice (some ⟨b, off + sz, none⟩) l.length (cap - 1)) l := by
  obtain ⟨b, off, cap, hv, hc, hb, hel⟩ := SliceAt.at h (by simp)
  refine ⟨b, off, cap, hv, by simpa using hc, hb, fun j hj => ?_, ?_⟩
  · obtain ⟨cs, ⟨_, h2⟩, h3⟩ := hel 0 (by simp)
    have h3 : cs = x := h3
    subst h3
    have := h2 j hj
    simpa using this
  · by_cases h0 : l = []
    · subst h0
      exact .inl ⟨_, _, rfl, rfl⟩
    · refine .inr ⟨b, off + sz, cap - 1, rfl, by simp at hc; omega, hb, fun i hi => ?_⟩
      obtain ⟨cs, ⟨h1, h2⟩, h3⟩ := hel (i + 1) (by simp; omega)
      refine ⟨cs, ⟨h1, fun j hj => ?_⟩, h3⟩
      have := h2 j hj
      rw [show off + sz + i * sz + j = off + (i + 1) * sz + j by rw [Nat.succ_mul]; omega]
      exact this
theorem RowsAt.stay {sz : Nat} {w : World} {a : Option Addr} {n c : Nat} {L : List (List Value)} (hl : L.length = n) (h0 : n = 0) : RowsAt sz w (.slice a n c) L := by
  subst h0
  exact .inl ⟨a, c, rfl, List.eq_nil_of_length_eq_zero hl⟩
end Go.Proofs.Ytfjcbclakgidkaa
