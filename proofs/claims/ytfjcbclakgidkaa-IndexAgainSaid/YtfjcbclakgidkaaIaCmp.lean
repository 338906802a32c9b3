/- The walks of know.byId and know.byWord: how postings and terms are compared. -/
import Derived.Test.YtfjcbclakgidkaaIaLaw2
import Derived.Test.YtfjcbclakgidkaaMNum
import Derived.Test.YtfjcbclakgidkaaShelf
namespace Go.Proofs.Ytfjcbclakgidkaa
open Go.RowKit

set_option maxRecDepth 100000 in
set_option maxHeartbeats 1000000 in
theorem byId_any (i j : Int) (a b c d : Value) (w : World) :
    Calls Try.prog 35 #[.agg #[.int .i64 i, a, b], .agg #[.int .i64 j, c, d]] w fun e w' => e = .returned (.int .i64 (Lib.compareInt i j)) ∧ Below w.heap.size w w' := by
  have hb1 := (Below.refl w.heap.size w).alloc (Nat.le_refl _) (.cells #[.int .i64 i, a, b] 57)
  have hb2 := hb1.alloc hb1.size (.cells #[.int .i64 j, c, d] 57)
  have HB := Lib.hid hb2
  have h1 := Has.new w #[.int .i64 i, a, b] 57
  have h2 := Has.new (w.alloc (.cells #[.int .i64 i, a, b] 57)) #[.int .i64 j, c, d] 57
  have h3 := Has.alloc h1 (.cells #[.int .i64 j, c, d] 57)
  have x0 := h3.cell 0
  have y0 := h2.cell 0
  clear hb1 hb2 h1 h2 h3
  go_enter Try.func35, Try.ntmps35
  go_wp2_with fail
  refine (Try.cmp_Compare_int i j _).mono ?_
  rintro e w2 ⟨rfl, rfl⟩
  go_wp2_with fail
  go_ret
  exact ⟨rfl, HB.out⟩
set_option maxRecDepth 100000 in
set_option maxHeartbeats 1000000 in
theorem byWord_any (s t : ByteArray) (a b : Value) (w : World) :
    Calls Try.prog 33 #[.agg #[.string s, a], .agg #[.string t, b]] w fun e w' => e = .returned (.int .i64 (Lib.compareBytes s.data.toList t.data.toList)) ∧ Below w.heap.size w w' := by
  have hb1 := (Below.refl w.heap.size w).alloc (Nat.le_refl _) (.cells #[.string s, a] 54)
  have hb2 := hb1.alloc hb1.size (.cells #[.string t, b] 54)
  have HB := Lib.hid hb2
  have h1 := Has.new w #[.string s, a] 54
  have h2 := Has.new (w.alloc (.cells #[.string s, a] 54)) #[.string t, b] 54
  have h3 := Has.alloc h1 (.cells #[.string t, b] 54)
  have x0 := h3.cell 0
  have y0 := h2.cell 0
  clear hb1 hb2 h1 h2 h3
  go_enter Try.func33, Try.ntmps33
  go_wp2_with fail
  refine (Try.strings_Compare s t _).mono ?_
  rintro e w2 ⟨rfl, rfl⟩
  go_wp2_with fail
  go_ret
  exact ⟨rfl, HB.out⟩
/-- how the two comparisons answer -/
theorem cmpInt_spec (i j : Int) : (Lib.compareInt i j < 0 ↔ i < j) ∧ (Lib.compareInt i j = 0 ↔ i = j) ∧ -1 ≤ Lib.compareInt i j ∧ Lib.compareInt i j ≤ 1 := by
  unfold Lib.compareInt
  split
  · refine ⟨⟨fun _ => by assumption, fun _ => by decide⟩, ⟨fun h => absurd h (by decide), fun h => by omega⟩, by decide, by decide⟩
  · split
    · refine ⟨⟨fun h => absurd h (by decide), fun h => by omega⟩, ⟨fun h => absurd h (by decide), fun h => by omega⟩, by decide, by decide⟩
    · refine ⟨⟨fun h => absurd h (by decide), fun h => by omega⟩, ⟨fun _ => by omega, fun _ => rfl⟩, by decide, by decide⟩
theorem cmpBytes_spec : ∀ a b : List UInt8, (Lib.compareBytes a b < 0 ↔ a < b) ∧ (Lib.compareBytes a b = 0 ↔ a = b) ∧ -1 ≤ Lib.compareBytes a b ∧ Lib.compareBytes a b ≤ 1
  | [], [] => ⟨⟨fun h => absurd h (by decide), fun h => absurd h (List.lt_irrefl _)⟩, ⟨fun _ => rfl, fun _ => rfl⟩, by decide, by decide⟩
  | [], x :: l => by
    rw [show Lib.compareBytes [] (x :: l) = -1 from rfl]
    exact ⟨⟨fun _ => List.nil_lt_cons _ _, fun _ => by decide⟩, ⟨fun h => absurd h (by decide), fun h => by cases h⟩, by decide, by decide⟩
  | x :: l, [] => by
    rw [show Lib.compareBytes (x :: l) [] = 1 from rfl]
    exact ⟨⟨fun h => absurd h (by decide), fun h => absurd h (List.not_lt_nil _)⟩, ⟨fun h => absurd h (by decide), fun h => by cases h⟩, by decide, by decide⟩
  | x :: l, y :: r => by
    have ih := cmpBytes_spec l r
    rw [Lib.compareBytes]
    split
    · rename_i h
      have hne : x ≠ y := fun e => by rw [e] at h; exact absurd h (UInt8.lt_irrefl _)
      refine ⟨⟨fun _ => List.cons_lt_cons_iff.2 (.inl h), fun _ => by decide⟩, ⟨fun q => absurd q (by decide), fun q => absurd (List.cons.inj q).1 hne⟩, by decide, by decide⟩
    · rename_i h
      split
      · rename_i g
        have hne : x ≠ y := fun e => by rw [e] at g; exact absurd g (UInt8.lt_irrefl _)
        refine ⟨⟨fun q => absurd q (by decide), fun q => ?_⟩, ⟨fun q => absurd q (by decide), fun q => absurd (List.cons.inj q).1 hne⟩, by decide, by decide⟩
        rcases List.cons_lt_cons_iff.1 q with q | ⟨q, _⟩
        · exact absurd q h
        · exact absurd q hne
      · rename_i g
        have e : x = y := by
          have h1 := UInt8.not_lt.1 h
          have h2 := UInt8.not_lt.1 g
          exact UInt8.le_antisymm h2 h1
        subst e
        refine ⟨⟨fun q => List.cons_lt_cons_iff.2 (.inr ⟨rfl, ih.1.1 q⟩), fun q => ?_⟩, ⟨fun q => by rw [ih.2.1.1 q], fun q => ih.2.1.2 (List.cons.inj q).2⟩, ih.2.2⟩
        rcases List.cons_lt_cons_iff.1 q with q | ⟨_, q⟩
        · exact absurd q (UInt8.lt_irrefl _)
        · exact ih.1.2 q
end Go.Proofs.Ytfjcbclakgidkaa
