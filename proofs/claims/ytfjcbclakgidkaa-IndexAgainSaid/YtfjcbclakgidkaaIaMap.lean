/- A map from strings to blocks (pointers) that a call makes: what it holds. -/
import Derived.Test.YtfjcbclakgidkaaMNum
import Derived.Test.YtfjcbclakgidkaaTools
import Derived.Maps.Own
import Derived.Maps.Views
import Derived.Maps.OwnSet
import Derived.Maps.StringElems
import Derived.StringKeys
namespace Go.Proofs.Ytfjcbclakgidkaa
open Go.RowKit Go.Maps Go.WideMaps

/-- a pointer to a block's start -/
def ptrV : Option Nat → Value
  | none => .pointer none
  | some b => .pointer (some ⟨b, 0, none⟩)
def ptrC : Option Nat → Int
  | none => 0
  | some b => (b : Int) + 1
def ptrElem : Value → Option (DataW Unit × List MemPlace)
  | .pointer none => some (.lit (.int .i64 0), [])
  | .pointer (some ⟨b, 0, none⟩) => some (.lit (.int .i64 ((b : Int) + 1)), [])
  | _ => none
theorem ptrElem_of (o : Option Nat) : ptrElem (ptrV o) = some (.lit (.int .i64 (ptrC o)), []) := by cases o <;> rfl
theorem ptrC_inj {a b : Option Nat} (h : ptrC a = ptrC b) : a = b := by
  cases a <;> cases b <;> simp only [ptrC] at h <;> first | rfl | omega | (congr 1; omega)
theorem ptrElem_inv {v : Value} {o : Option Nat} {ps : List MemPlace} (h : ptrElem v = some (.lit (.int .i64 (ptrC o)), ps)) : v = ptrV o := by
  unfold ptrElem at h
  split at h
  · simp only [Option.some.injEq, Prod.mk.injEq, DataW.lit.injEq, Lit.int.injEq, true_and] at h
    have : o = none := ptrC_inj h.1.symm
    rw [this]; rfl
  · rename_i b
    simp only [Option.some.injEq, Prod.mk.injEq, DataW.lit.injEq, Lit.int.injEq, true_and] at h
    have : o = some b := ptrC_inj (a := o) (b := some b) h.1.symm
    rw [this]; rfl
  · cases h
theorem zeroPtr (w : World) : (zeroValue 84).run Try.prog w = .ok (.pointer none) w := by kernel_rfl
/-- block b is a map of at most n entries: what is found at x is f x -/
def PMap (w : World) (b n : Nat) (f : List UInt8 → Option Nat) : Prop :=
  ∃ D : DataW Unit, w.ownsMap Try.prog 9 ptrElem b n D ∧ ∀ x, D.atKey (.string x) (.lit (.int .i64 0)) = .lit (.int .i64 (ptrC (f x)))
theorem PMap.made (w : World) : PMap (w.alloc (.map #[] 0)) w.heap.size 0 (fun _ => none) := ⟨_, World.ownsMap_made _ _ _ _, fun _ => rfl⟩
theorem PMap.lt {w : World} {b n : Nat} {f : List UInt8 → Option Nat} (h : PMap w b n f) : b < w.heap.size := by
  obtain ⟨D, ho, _⟩ := h
  exact ho.lt
theorem PMap.kept {w w' : World} {b n : Nat} {f : List UInt8 → Option Nat} {row : Option Nat} (h : PMap w b n f) (hg : w.grownBy w' row) (hne : some b ≠ row) : PMap w' b n f := by
  obtain ⟨D, ho, hd⟩ := h
  exact ⟨D, ho.kept hg hne, hd⟩
theorem PMap.below {w w' : World} {b n : Nat} {f : List UInt8 → Option Nat} (h : PMap w b n f) (hb : Below w.heap.size w w') : PMap w' b n f :=
  h.kept (row := none) (grownBy_of_below hb _) (by simp)
/-- a map's block is no block of cells -/
theorem PMap.ne_has {w : World} {b n : Nat} {f : List UInt8 → Option Nat} (h : PMap w b n f) {c : Nat} {cs : Array Value} {t : TypeId} (hc : Has w c cs t) : b ≠ c := by
  obtain ⟨D, ⟨es, clock, hb, _⟩, _⟩ := h
  rintro rfl
  unfold Has at hc
  rw [hc] at hb
  cases hb
theorem PMap.ne_own {w : World} {b n : Nat} {f : List UInt8 → Option Nat} (h : PMap w b n f) {B : Nat} {e : TypeId} {sz : Nat} {v : Value} {m : Nat} {xs : List Value} (ho : w.ownsRow B e sz v m xs) : some b ≠ v.ownBlock := by
  obtain ⟨D, ⟨es, clock, hb, _⟩, _⟩ := h
  rcases ho.2 with ⟨rfl, _⟩ | ⟨g, cap, cur, rfl, _, hg, _⟩
  · simp [Value.ownBlock]
  · intro e1
    have e2 : b = g := by simpa [Value.ownBlock] using e1
    subst e2
    rw [hb] at hg
    cases hg
theorem keyP {x : List UInt8} (h : x.length ≤ 1048576) : keyOf Try.prog 9 (.string (bs x)) = some (.string x) :=
  keyOf_string_mk Try.underlying9 (s := bs x) (show (bs x).size ≤ maxLen by rw [bs_size]; unfold maxLen; omega)
set_option maxRecDepth 100000 in
theorem PMap.look {w : World} {b n : Nat} {f : List UInt8 → Option Nat} (h : PMap w b n f) {x : List UInt8} (hx : x.length ≤ 1048576) :
    (Instr.lookup 82 (.map (some b)) (.string (bs x)) false).run Try.prog w = .ok (ptrV (f x)) w := by
  obtain ⟨D, ho, hd⟩ := h
  obtain ⟨v, ps, hrun, hv⟩ := ho.lookup (string_keyed Try.underlying9) Try.underlying82 (zeroPtr w) (ptrElem_of none) (keyP hx)
  rw [show (Lit.int .i64 (ptrC none)) = Lit.int .i64 0 from rfl, hd x] at hv
  rw [hrun, ptrElem_inv hv]
def updF (f : List UInt8 → Option Nat) (x : List UInt8) (k : Nat) : List UInt8 → Option Nat := fun y => if y = x then some k else f y
set_option maxRecDepth 100000 in
theorem PMap.put {w : World} {b n : Nat} {f : List UInt8 → Option Nat} (h : PMap w b n f) {x : List UInt8} (hx : x.length ≤ 1048576) (k : Nat) (hn : n < 1048576) :
    ∃ w', (Instr.mapUpdate 82 (.map (some b)) (.string (bs x)) (.pointer (some ⟨k, 0, none⟩))).run Try.prog w = .ok () w' ∧ PMap w' b (n + 1) (updF f x k) ∧ w.grownBy w' (some b) := by
  obtain ⟨D, ho, hd⟩ := h
  have hk := keyP hx
  obtain ⟨w', hrun, ho', hg⟩ := ho.update (string_keyed Try.underlying9) Try.underlying82 (show n < maxLen by unfold maxLen; omega) hk (ptrElem_of (some k))
  have hm : IsMap D := ho.isMap
  refine ⟨w', hrun, ⟨_, ho', fun u => ?_⟩, hg⟩
  by_cases e : u = x
  · subst e
    rw [atKey_put_same hm ((string_keyed Try.underlying9).one.key ⟨_, hk⟩), updF, if_pos rfl]
  · rw [atKey_put_other (fun q => e (by injection q with q)), hd u, updF, if_neg e]
end Go.Proofs.Ytfjcbclakgidkaa
