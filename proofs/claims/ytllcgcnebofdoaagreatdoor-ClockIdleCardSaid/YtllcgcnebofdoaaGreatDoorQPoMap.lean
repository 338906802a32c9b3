/- A map of names that a call makes: what it knows. -/
import Derived.Test.YtllcgcnebofdoaaGreatDoorQCalChk
import Derived.Maps.Own
import Derived.Maps.Views
import Derived.StringKeys
namespace Go.Proofs.YtllcgcnebofdoaaGreatDoor
open Go.RowKit Go.Maps Go.WideMaps

theorem zeroBool (w : World) : (zeroValue 4).run Tryz.prog w = .ok (.bool false) w := by kernel_rfl
theorem key_inj {s u : ByteArray} (h : (Lit.string s.data.toList) = Lit.string u.data.toList) : s = u := by
  injection h with h
  cases s; cases u
  simp only [Array.toList_inj] at h
  rw [h]
/-- a name among names -/
def hasN (S : List ByteArray) (s : ByteArray) : Bool := S.any fun x => x.data.toList == s.data.toList
theorem hasN_iff (S : List ByteArray) (s : ByteArray) : hasN S s = true ↔ s ∈ S := by
  unfold hasN
  rw [List.any_eq_true]
  constructor
  · rintro ⟨x, hx, he⟩
    have : x = s := key_inj (congrArg Lit.string (beq_iff_eq.1 he))
    rw [← this]
    exact hx
  · exact fun h => ⟨s, h, beq_self_eq_true _⟩
/-- block b is a map of at most n names that holds just these -/
def NMap (w : World) (b n : Nat) (S : List ByteArray) : Prop :=
  ∃ D : DataW Unit, w.ownsMap Tryz.prog 9 (plainElem Tryz.prog 4) b n D ∧ ∀ s : ByteArray, D.atKey (.string s.data.toList) (.lit (.bool false)) = .lit (.bool (hasN S s))
theorem NMap.made (w : World) : NMap (w.alloc (.map #[] 0)) w.heap.size 0 [] := ⟨_, World.ownsMap_made _ _ _ _, fun s => rfl⟩
theorem NMap.lt {w : World} {b n : Nat} {S : List ByteArray} (h : NMap w b n S) : b < w.heap.size := by
  obtain ⟨D, ho, _⟩ := h
  exact ho.lt
theorem NMap.below {w w' : World} {b n B : Nat} {S : List ByteArray} (h : NMap w b n S) (hb : Below B w w') (hB : b < B) : NMap w' b n S := by
  obtain ⟨D, ⟨es, clock, g1, g2⟩, hd⟩ := h
  exact ⟨D, ⟨es, clock, (hb.block b hB).trans g1, g2⟩, hd⟩
set_option maxRecDepth 100000 in
theorem NMap.look {w : World} {b n : Nat} {S : List ByteArray} (h : NMap w b n S) {s : ByteArray} (hs : s.size ≤ 9223372036854775807) :
    (Instr.lookup 102 (.map (some b)) (.string s) false).run Tryz.prog w = .ok (.bool (hasN S s)) w := by
  obtain ⟨D, ho, hd⟩ := h
  obtain ⟨v, ps, hrun, hv⟩ := ho.lookup (string_keyed Tryz.underlying9) Tryz.underlying102 (zeroBool w) (plainElem_bool Tryz.underlying4 false) (keyOf_string_mk Tryz.underlying9 (show s.size ≤ maxLen by unfold maxLen; omega))
  rw [hd s] at hv
  rw [hrun]
  unfold plainElem at hv
  rw [Tryz.underlying4] at hv
  cases v <;> simp at hv
  rw [hv.1]
theorem NMap.put {w : World} {b n : Nat} {S : List ByteArray} (h : NMap w b n S) {s : ByteArray} (hs : s.size ≤ 9223372036854775807) (hn : n < 1000) :
    ∃ w', (Instr.mapUpdate 102 (.map (some b)) (.string s) (.bool true)).run Tryz.prog w = .ok () w' ∧ NMap w' b (n + 1) (s :: S) ∧ w.grownBy w' (some b) := by
  obtain ⟨D, ho, hd⟩ := h
  have hk := keyOf_string_mk (P := Tryz.prog) Tryz.underlying9 (show s.size ≤ maxLen by unfold maxLen; omega)
  obtain ⟨w', hrun, ho', hg⟩ := ho.update (string_keyed Tryz.underlying9) Tryz.underlying102 (show n < maxLen by unfold maxLen; omega) hk (plainElem_bool (H := Unit) Tryz.underlying4 true)
  have hm : IsMap D := by
    obtain ⟨es, _, _, _, _, rfl⟩ := ho
    exact ⟨_, rfl⟩
  refine ⟨w', hrun, ⟨_, ho', fun u => ?_⟩, hg⟩
  by_cases e : u = s
  · subst e
    rw [atKey_put_same hm ((string_keyed Tryz.underlying9).one.key ⟨_, hk⟩), (hasN_iff _ _).2 List.mem_cons_self]
  · rw [atKey_put_other (fun q => e (key_inj q)), hd u]
    have : hasN (s :: S) u = hasN S u := by
      rw [Bool.eq_iff_iff, hasN_iff, hasN_iff, List.mem_cons]
      exact ⟨fun g => g.resolve_left e, .inr⟩
    rw [this]
end Go.Proofs.YtllcgcnebofdoaaGreatDoor
