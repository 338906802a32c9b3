/- Slices of strings: a part of one, and append of all of one to a row of the call's own. -/
import Derived.Test.YtfohehldkchnjaaTools
import Derived.Lib.AppendZeros
namespace Go.Proofs.Ytfohehldkchnjaa
open Go.RowKit

theorem infoStrT : (Try.prog.info? 9).map (fun i => (i.zero, i.size, i.bytes)) = some (some (.string ⟨#[]⟩), 1, 16) := by kernel_rfl
theorem append_zero {P : Program} {w : World} (base : Nat) (t ty e : TypeId) (i : TypeInfo) (size : Nat) (ht : P.underlying t = some (.slice e)) (hi : P.info? e = some i)
    (v : Value) (n : Nat) (xs : List Value) (hown : w.ownsRow base e size v n xs) (a : Option Addr) (c : Nat) :
    (Builtin.append_ #[t, t] ty #[v, .slice a 0 c]).run P w = .ok v w := by
  have h0 : (Builtin.firstCells i.size 0 (.slice a 0 c)).run P w = .ok #[] w := by
    cases a <;> simp [Builtin.firstCells, loadCells, loadCellsFrom]
  rcases hown.2 with ⟨rfl, rfl⟩ | ⟨g, cap, cur, rfl, _, _, hnc, _⟩
  · simp [Builtin.append_, run_underlying ht, sizeOf, typeInfo, hi, Builtin.lenOf, h0]
  · simp [Builtin.append_, run_underlying ht, sizeOf, typeInfo, hi, Builtin.lenOf, h0, hnc, storeCells]

/-- a part of a slice of strings -/
theorem strs_sub {w : World} {b off cap : Nat} {l : List ByteArray} (h : ∀ i (h : i < l.length), ∃ cs, ElemAt w b off 1 i cs ∧ strR w cs l[i]) (hb : b < w.heap.size) (hc : l.length ≤ cap) {i j : Nat} (hij : i ≤ j) (hj : j ≤ l.length) :
    SliceAt 1 strR w (.slice (some ⟨b, off + i, none⟩) (j - i) (cap - i)) ((l.drop i).take (j - i)) := by
  have hl : ((l.drop i).take (j - i)).length = j - i := by simp; omega
  refine .inr ⟨b, off + i, cap - i, by rw [hl], by rw [hl]; omega, hb, fun k hk => ?_⟩
  rw [hl] at hk
  obtain ⟨cs, ⟨h1, h2⟩, h3⟩ := h (i + k) (by omega)
  refine ⟨cs, ⟨h1, fun t ht => ?_⟩, ?_⟩
  · have := h2 t ht
    rw [show off + i + k * 1 + t = off + (i + k) * 1 + t by omega]
    exact this
  · simpa using h3

/-- the same as the walk writes it -/
theorem strs_cut {w : World} {b cap : Nat} {l : List ByteArray} (h : SliceAt 1 strR w (.slice (some ⟨b, 0, none⟩) l.length cap) l) (_hb : b < w.heap.size) (hc : l.length ≤ cap) {i j : Nat} (hij : i ≤ j) (hj : j ≤ l.length) :
    SliceAt 1 strR w (.slice (if cap = i then some ⟨b, 0, none⟩ else some ⟨b, i, none⟩) (j - i) (cap - i)) ((l.drop i).take (j - i)) := by
  by_cases e : cap = i
  · have e0 : j - i = 0 := by omega
    rw [if_pos e, e0, List.take_zero]
    exact .inl ⟨_, _, rfl, rfl⟩
  · rw [if_neg e]
    by_cases e1 : l.length = 0
    · have e0 : j - i = 0 := by omega
      rw [e0, List.take_zero]
      exact .inl ⟨_, _, rfl, rfl⟩
    · obtain ⟨b', off, cap', hv, hcap, hbb, hel⟩ := h.at (by omega)
      cases hv
      have := strs_sub hel hbb hcap hij hj
      rwa [Nat.zero_add] at this

/-- 'append(v, l...)' of strings -/
theorem append_strs {ops : Array Oper} {rest : List Oper} {o : Oper} {a : Act} {Q : Exit → Act → World → Prop} (hgd : o.guard = none) (s x : Operand)
    (ho : o.op = .call { callee := .builtin .append, args := #[s, x], argTypes := #[22, 22] })
    (B : Nat) (W wr : World) (v : Value) (n : Nat) (xs : List Value) (hs : a.eval s = v) (hv : wr.ownsRow B 9 1 v n xs) (xa : Option Addr) (xc m : Nat) (l : List ByteArray) (hm : l.length = m) (hx : a.eval x = .slice xa m xc)
    (hl : SliceAt 1 strR wr (.slice xa m xc) l) (hfit : n + m ≤ 1000000) (hB : B ≤ wr.heap.size) (hbel : Below B W wr)
    (h : ∀ v' w', w'.ownsRow B 9 1 v' (n + m) (xs ++ l.map Value.string) → Below B W w' → wr.grownBy w' v.ownBlock → wpList Try.prog ops Q rest (a.put o.dst v') w') : wpList Try.prog ops Q (o :: rest) a wr := by
  subst hm
  obtain ⟨i0, hi0, hz0, hz1, hz2⟩ := info_parts infoStrT
  by_cases h0 : l.length = 0
  · obtain rfl : l = [] := List.eq_nil_of_length_eq_zero h0
    have hrun := append_zero (P := Try.prog) B 22 o.type 9 i0 1 Try.underlying22 hi0 v n xs hv xa xc
    refine Lib.wpList_append_run _ hgd _ _ _ _ ho _ _ hs hx _ _ hrun (h _ _ ?_ hbel (grownBy_refl _ _))
    simpa using hv
  · obtain ⟨b, off, c', hv', hcc, hb, hel⟩ := SliceAt.at hl (by omega)
    simp only [Value.slice.injEq] at hv'
    obtain ⟨rfl, _, rfl⟩ := hv'
    refine wpList_append_own wr hgd s x 22 ho B 9 i0 (.string ⟨#[]⟩) 1 16 Try.underlying22 hi0 hz0 hz1 hz2 rfl (by decide) v n xs hs hv ⟨b, off, none⟩ l.length xc (l.map Value.string) hx (by simp) ?_ ?_ (by unfold maxLen; omega) (by omega) hB ?_
    · intro j u hj
      rw [List.getElem?_map] at hj
      obtain ⟨y, hy, rfl⟩ := Option.map_eq_some_iff.1 hj
      have e : (⟨b, off, none⟩ : Addr).add j = ⟨b, off + j, none⟩ := by unfold Addr.add; split <;> simp_all
      rw [e]
      exact strs_cell hel j y hy
    · intro u hu
      obtain ⟨y, _, rfl⟩ := List.mem_map.1 hu
      rfl
    · intro v' w' h2 hg _
      exact h v' w' h2 (hbel.grown hg hB (fun k hk => (hv.lt k hk).1)) hg

end Go.Proofs.Ytfohehldkchnjaa
