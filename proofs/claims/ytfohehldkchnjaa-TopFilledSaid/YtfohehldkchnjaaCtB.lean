/- A builder that holds bytes, as cal's texts use it. -/
import Derived.Test.YtfohehldkchnjaaBuildK
import Derived.Test.YtfohehldkchnjaaMNum
namespace Go.Proofs.Ytfohehldkchnjaa
open Go.RowKit

def BuildsAt (w : World) (B : Nat) (l : List UInt8) : Prop := Lib.IsBuilder 46 5 B B (Lib.byteCells l) w
theorem BuildsAt.below {w w' : World} {B : Nat} {l : List UInt8} (h : BuildsAt w B l) (hb : Below w.heap.size w w') : BuildsAt w' B l := by
  have key : ∀ p, Lib.BuilderAt 46 5 B B p (Lib.byteCells l) w → Lib.BuilderAt 46 5 B B p (Lib.byteCells l) w' := by
    rintro p h2
    have hlt := h2.lt
    obtain ⟨hB, v, hbk, hown, hne⟩ := h2
    exact ⟨hB, v, (hb.block B hlt).trans hbk, owns_below hown hb, hne⟩
  exact h.imp (key _) (key _)
theorem BuildsAt.lt {w : World} {B : Nat} {l : List UInt8} (h : BuildsAt w B l) : B < w.heap.size := by
  rcases h with h | h
  · exact h.lt
  · exact h.lt
theorem BuildsAt.new (w : World) : BuildsAt (w.alloc (.cells #[.pointer none, .slice none 0 0] 46)) w.heap.size [] :=
  .inl ⟨Nat.le_refl _, .slice none 0 0, heap_alloc_new _ _, World.ownsRow_nil _ _ _ _, by simp [Value.ownBlock]⟩
theorem BuildsAt.ne {w : World} {B X : Nat} {l : List UInt8} {cs : Array Value} {t : TypeId} {fr : Nat × Nat} (h : BuildsAt w B l) (hx : w.heap[X]? = some (.cells cs t fr)) (ht : t ≠ 46) : X ≠ B := by
  rintro rfl
  rcases h with ⟨_, v, hb, _⟩ | ⟨_, v, hb, _⟩
  · rw [hx] at hb; cases hb; exact ht rfl
  · rw [hx] at hb; cases hb; exact ht rfl
theorem write_any (B : Nat) (l s : List UInt8) (w : World) (h : BuildsAt w B l) (hlen : l.length + s.length ≤ 100000000) :
    Calls Try.prog 13 #[.pointer (some ⟨B, 0, none⟩), .string (bs s)] w fun e w' => e = .returned (.tuple #[.int .i64 (s.length : Nat), .nilIface]) ∧ BuildsAt w' B (l ++ s) ∧ Below B w w' ∧ KeepsU B w w' := by
  refine (writeString_any B B (Lib.byteCells l) (bs s) w h (by rw [Lib.byteCells_length, bs_size]; omega) (Nat.le_of_lt h.lt)).mono ?_
  rintro e w' ⟨rfl, h1, h2, h3⟩
  refine ⟨by rw [bs_size], .inr ?_, h2, h3⟩
  have e : Lib.byteCells l ++ Lib.strCells (bs s) = Lib.byteCells (l ++ s) := by rw [Lib.byteCells_append]; rfl
  rw [e] at h1
  exact h1

/-- a slice of ints in a block of its own type -/
def NumsAt (w : World) (v : Value) (ns : List Int) : Prop := ∃ X c cells fr, v = .slice (some ⟨X, 0, none⟩) ns.length c ∧ w.heap[X]? = some (.cells cells 3 fr) ∧ ∀ i (h : i < ns.length), cells[i]? = some (.int .i64 ns[i])
theorem NumsAt.keepsU {w w' : World} {B : Nat} {v : Value} {ns : List Int} {l : List UInt8} (h : NumsAt w v ns) (hb : BuildsAt w B l) (hk : KeepsU B w w') : NumsAt w' v ns := by
  obtain ⟨X, c, cells, fr, hv, hx, hc⟩ := h
  exact ⟨X, c, cells, fr, hv, hk.same X cells _ fr hx (by decide) (hb.ne hx (by decide)), hc⟩
theorem NumsAt.cell {w : World} {X c : Nat} {ns : List Int} (h : NumsAt w (.slice (some ⟨X, 0, none⟩) ns.length c) ns) (i : Nat) (hi : i < ns.length) : w.cell? ⟨X, i, none⟩ = some (.int .i64 ns[i]) := by
  obtain ⟨X', c', cells, fr, hv, hx, hc⟩ := h
  cases hv
  simp [World.cell?, hx, hc i hi]

end Go.Proofs.Ytfohehldkchnjaa
