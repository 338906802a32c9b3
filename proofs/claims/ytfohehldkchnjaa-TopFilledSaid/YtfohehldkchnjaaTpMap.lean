/- A map of strings that a call makes: what it holds. -/
import Derived.Test.YtfohehldkchnjaaTpNam
import Derived.Maps.OwnSet
import Derived.Maps.StringElems
import Derived.StringKeys
namespace Go.Proofs.Ytfohehldkchnjaa
open Go.RowKit Go.Maps Go.WideMaps

theorem zeroStr (w : World) : (zeroValue 9).run Try.prog w = .ok (.string ⟨#[]⟩) w := by kernel_rfl
def lookL : List (List UInt8 × List UInt8) → List UInt8 → Option (List UInt8)
  | [], _ => none
  | (k, v) :: r, x => if k = x then some v else lookL r x
/-- block b is a map of at most n entries that holds just these -/
def SMap (w : World) (b n : Nat) (L : List (List UInt8 × List UInt8)) : Prop :=
  ∃ D : DataW Unit, w.ownsMap Try.prog 9 (plainElem Try.prog 9) b n D ∧ (∀ x, Maps.has D (.string x) = (lookL L x).isSome) ∧ ∀ x, D.atKey (.string x) (.lit (.string [])) = .lit (.string ((lookL L x).getD []))
theorem SMap.made (w : World) : SMap (w.alloc (.map #[] 0)) w.heap.size 0 [] := ⟨_, World.ownsMap_made _ _ _ _, fun s => rfl, fun s => rfl⟩
theorem SMap.lt {w : World} {b n : Nat} {L : List (List UInt8 × List UInt8)} (h : SMap w b n L) : b < w.heap.size := by
  obtain ⟨D, ho, _⟩ := h
  exact ho.lt
theorem SMap.below {w w' : World} {b n B : Nat} {L : List (List UInt8 × List UInt8)} (h : SMap w b n L) (hb : Below B w w') (hB : b < B) : SMap w' b n L := by
  obtain ⟨D, ⟨es, clock, g1, g2⟩, hd⟩ := h
  exact ⟨D, ⟨es, clock, (hb.block b hB).trans g1, g2⟩, hd⟩
theorem keyS {x : List UInt8} (h : x.length ≤ 100000) : keyOf Try.prog 9 (.string (bs x)) = some (.string x) :=
  keyOf_string_mk Try.underlying9 (s := bs x) (show (bs x).size ≤ maxLen by rw [bs_size]; unfold maxLen; omega)
set_option maxRecDepth 100000 in
theorem SMap.look {w : World} {b n : Nat} {L : List (List UInt8 × List UInt8)} (h : SMap w b n L) {x : List UInt8} (hx : x.length ≤ 100000) :
    (Instr.lookup 40 (.map (some b)) (.string (bs x)) true).run Try.prog w = .ok (.tuple #[.string (bs ((lookL L x).getD [])), .bool (lookL L x).isSome]) w := by
  obtain ⟨D, ho, hd1, hd2⟩ := h
  obtain ⟨v, ps, hrun, hv⟩ := ho.look_ok (string_keyed Try.underlying9) Try.underlying40 (zeroStr w) (plainElem_string Try.underlying9 (s := ⟨#[]⟩) (by unfold maxLen; decide)) (keyS hx)
  rw [show (Lit.string (⟨#[]⟩ : ByteArray).data.toList) = Lit.string [] from rfl, hd2 x] at hv
  rw [hrun, hd1 x]
  obtain ⟨s, rfl, hz, _⟩ := plainElem_string_inv Try.underlying9 hv
  have e : s.data.toList = (lookL L x).getD [] := by
    have := congrArg Prod.fst hz
    simp at this
    exact this.symm
  rw [← e]
  simp [bs]
set_option maxRecDepth 100000 in
theorem SMap.put {w : World} {b n : Nat} {L : List (List UInt8 × List UInt8)} (h : SMap w b n L) {x v : List UInt8} (hx : x.length ≤ 100000) (hv : v.length ≤ 100000) (hn : n < 1000) :
    ∃ w', (Instr.mapUpdate 40 (.map (some b)) (.string (bs x)) (.string (bs v))).run Try.prog w = .ok () w' ∧ SMap w' b (n + 1) ((x, v) :: L) ∧ w.grownBy w' (some b) := by
  obtain ⟨D, ho, hd1, hd2⟩ := h
  have hk := keyS hx
  obtain ⟨w', hrun, ho', hg⟩ := ho.update (string_keyed Try.underlying9) Try.underlying40 (show n < maxLen by unfold maxLen; omega) hk (plainElem_string (H := Unit) Try.underlying9 (s := bs v) (by rw [bs_size]; unfold maxLen; omega))
  have hm : IsMap D := ho.isMap
  refine ⟨w', hrun, ⟨_, ho', fun u => ?_, fun u => ?_⟩, hg⟩
  · by_cases e : x = u
    · subst e
      rw [has_put_same hm ((string_keyed Try.underlying9).one.key ⟨_, hk⟩)]
      simp [lookL]
    · rw [has_put_other (fun q => e (by injection q with q; exact q.symm)), hd1 u]
      simp [lookL, e]
  · by_cases e : x = u
    · subst e
      rw [atKey_put_same hm ((string_keyed Try.underlying9).one.key ⟨_, hk⟩)]
      simp [lookL, bs]
    · rw [atKey_put_other (fun q => e (by injection q with q; exact q.symm)), hd2 u]
      simp [lookL, e]
end Go.Proofs.Ytfohehldkchnjaa
