/- The walks of know.lines and know.checkBody. -/
import Derived.Test.YtogfekjopelfbaaDoorTools
import Derived.Test.YtogfekjopelfbaaDoorKmLaw
import Derived.Test.YtogfekjopelfbaaDoorShelf
namespace Go.Proofs.YtogfekjopelfbaaDoor
open Go.RowKit

/-- what the library's own variable holds -/
def EnvM (w : World) : Prop := ∃ m, w.cell? ⟨0, 0, none⟩ = some (.int .i64 m)
theorem EnvM.below {w w' : World} (h : EnvM w) (hb : Below w.heap.size w w') : EnvM w' := by
  obtain ⟨m, hm⟩ := h
  exact ⟨m, (below_cell hb (World.block_lt_of_cell? w _ hm)).trans hm⟩

theorem has_strs {w : World} {b : Nat} {l : List ByteArray} (h : Has w b (l.map Value.string).toArray 9) {n cap : Nat} (hn : n ≤ l.length) (hc : n ≤ cap) : SliceAt 1 strR w (.slice (some ⟨b, 0, none⟩) n cap) (l.take n) := by
  have hl : (l.take n).length = n := by rw [List.length_take]; omega
  refine .inr ⟨b, 0, cap, by rw [hl], by rw [hl]; exact hc, h.lt, fun i hi => ⟨[.string (l.take n)[i]], ⟨rfl, fun j hj => ?_⟩, rfl⟩⟩
  have hj0 : j = 0 := by simpa using hj
  subst hj0
  have := h.cell i
  have hi' : i < l.length := by rw [hl] at hi; omega
  simpa [hi'] using this

set_option maxRecDepth 100000 in
theorem splitAfter_any (s : ByteArray) (w : World) (hs : s.size ≤ 1048576) (hE : EnvM w) :
    Calls Tryd.prog 19 #[.string s, .string nlB] w fun e w' => e = .returned (.slice (some ⟨w.heap.size, 0, none⟩) (piecesB s).length (piecesB s).length) ∧ w' = w.alloc (.cells ((piecesB s).map Value.string).toArray 9) := by
  obtain ⟨m, hm⟩ := hE
  have hle := Lib.countB_le nlB (by decide) s.size s (Nat.le_refl _)
  have hlen := Lib.splitB_all nlB (by decide) 1 _ s rfl
  have c := Tryd.strings_genSplit s nlB 1 (-1) (Lib.countB s nlB + 1) m w (by omega) hm (by decide) (by decide) (by decide) (by decide) (by rw [if_pos (by decide)]; omega)
  have e2 : Lib.cellsOf (Lib.splitB nlB 1 (Lib.countB s nlB) s) (Lib.countB s nlB + 1) = ((Lib.splitB nlB 1 (Lib.countB s nlB) s).map Value.string).toArray := by rw [← hlen]; exact Lib.cellsOf_full _
  rw [Nat.add_sub_cancel, e2] at c
  have hp : (piecesB s).length = Lib.countB s nlB + 1 := hlen
  rw [← hp] at c
  have HC := Lib.hid (show Calls _ _ _ _ (fun e w' => e = .returned (.slice (some ⟨w.heap.size, 0, none⟩) (piecesB s).length (piecesB s).length) ∧ w' = w.alloc (.cells ((piecesB s).map Value.string).toArray 9)) from c)
  have hsz : nlB.size = 1 := rfl
  clear c e2 hp hlen hle hm
  generalize piecesB s = P at *
  generalize nlB = nb at *
  go_enter Tryd.func19, Tryd.ntmps19
  go_wp2_with fail
  refine HC.out.mono ?_
  rintro e w' ⟨rfl, hw⟩
  have HW := Lib.hid hw
  clear hw
  go_wp2
  go_ret
  exact ⟨rfl, HW.out⟩

def LinesPost (s : ByteArray) (w : World) (e : Ending) (w' : World) : Prop :=
  ∃ b c, e = .returned (.slice (some ⟨b, 0, none⟩) (linesB s).length c) ∧ SliceAt 1 strR w' (.slice (some ⟨b, 0, none⟩) (linesB s).length c) (linesB s) ∧ Below w.heap.size w w' ∧ b < w'.heap.size ∧ (linesB s).length ≤ c

set_option maxRecDepth 100000 in
theorem lines_any (s : ByteArray) (w : World) (hs : s.size ≤ 1048576) (hE : EnvM w) :
    Calls Tryd.prog 10 #[.string s] w (LinesPost s w) := by
  obtain ⟨ps, z, he, _, _, _⟩ := pieces_spec s
  have hsp := splitAfter_any s w hs hE
  have hb : Below w.heap.size w (w.alloc (.cells ((piecesB s).map Value.string).toArray 9)) := (Below.refl _ _).alloc (Nat.le_refl _) _
  have hx : Has (w.alloc (.cells ((piecesB s).map Value.string).toArray 9)) w.heap.size ((piecesB s).map Value.string).toArray 9 := Has.new _ _ _
  have hlen : ps.length + 1 = (piecesB s).length := by rw [he]; simp
  have hcl := Lib.countB_le nlB (by decide) s.size s (Nat.le_refl _)
  have hpl : (piecesB s).length = Lib.countB s nlB + 1 := Lib.splitB_all nlB (by decide) 1 _ s rfl
  have hn : ps.length ≤ 1048576 := by omega
  have hL : linesB s = if z.size = 0 then (piecesB s).take ps.length else piecesB s := by
    unfold linesB
    rw [he]
    simp
  have hc := hx.cell ps.length
  rw [show ((piecesB s).map Value.string).toArray[ps.length]? = some (.string z) by rw [he]; simp] at hc
  rw [← hlen] at hsp
  have hs1 : SliceAt 1 strR (w.alloc (.cells ((piecesB s).map Value.string).toArray 9)) (.slice (some ⟨w.heap.size, 0, none⟩) ps.length (ps.length + 1)) ((piecesB s).take ps.length) := has_strs hx (by omega) (by omega)
  have hs2 : SliceAt 1 strR (w.alloc (.cells ((piecesB s).map Value.string).toArray 9)) (.slice (some ⟨w.heap.size, 0, none⟩) (ps.length + 1) (ps.length + 1)) (piecesB s) := by
    have := has_strs hx (n := ps.length + 1) (cap := ps.length + 1) (by omega) (Nat.le_refl _)
    rwa [List.take_of_length_le (by omega)] at this
  have HL := Lib.hid hL
  have HSP := Lib.hid hsp
  have HB := Lib.hid hb
  have HS1 := Lib.hid hs1
  have HS2 := Lib.hid hs2
  have HN := Lib.hid hlen
  have hlt := hx.lt
  clear hL hsp hb hs1 hs2 hlen he hx hcl hpl hE
  generalize w.alloc (.cells ((piecesB s).map Value.string).toArray 9) = w1 at *
  generalize piecesB s = P at *
  generalize hN : ps.length = n at *
  clear hN
  have s1 : IntKind.i64.wrap ((n : Int) + 1 - 1) = (n : Int) := by rw [IntWalk.i64_in _ (by omega)]; omega
  go_enter Tryd.func10, Tryd.ntmps10
  go_wp2_with fail
  refine HSP.out.mono ?_
  rintro e w' ⟨rfl, rfl⟩
  by_cases hz : z.size = 0
  · have hz1 : z.toList = [] := by
      rw [Lib.toList_data]
      exact List.eq_nil_of_length_eq_zero hz
    have hz2 : z.toList.isEmpty = true := by rw [hz1]; rfl
    have hL := HL.out
    rw [if_pos hz] at hL
    have HL2 := Lib.hid hL
    clear hL hz
    go_wp2_with fail
    go_ret
    have e : (linesB s).length = n := by rw [HL2.out, List.length_take, ← HN.out]; omega
    rw [HL2.out] at e
    exact ⟨w.heap.size, n + 1, by rw [HL2.out, e]; rfl, by rw [HL2.out, e]; exact HS1.out, HB.out, hlt, by rw [HL2.out, e]; omega⟩
  · have hz1 : ¬ z.toList = [] := by
      rw [Lib.toList_data]
      intro q
      exact hz (show z.data.toList.length = 0 by rw [q]; rfl)
    have hz2 : z.toList.isEmpty = false := by
      rw [List.isEmpty_eq_false_iff]; exact hz1
    have hL := HL.out
    rw [if_neg hz] at hL
    have HL2 := Lib.hid hL
    clear hL hz
    go_wp2_with fail
    go_ret
    have e : P.length = n + 1 := HN.out.symm
    exact ⟨w.heap.size, n + 1, by rw [HL2.out, e]; rfl, by rw [HL2.out, e]; exact HS2.out, HB.out, hlt, by rw [HL2.out, e]; omega⟩

/-- what checkBody finds -/
def bodyE (s : ByteArray) : Int := if s.size ≤ 20000 then (if (linesB s).length ≤ 2000 then 0 else 4) else 4
theorem bodyE_ok {s : ByteArray} (h : bodyE s = 0) : s.size ≤ 20000 ∧ (linesB s).length ≤ 2000 := by
  unfold bodyE at h
  split at h
  · split at h
    · exact ⟨by assumption, by assumption⟩
    · cases h
  · cases h

set_option maxRecDepth 100000 in
theorem checkBody_any (s : ByteArray) (w : World) (hE : EnvM w) :
    Calls Tryd.prog 9 #[.string s] w fun e w' => e = .returned (.int .i64 (bodyE s)) ∧ Below w.heap.size w w' := by
  by_cases h1 : s.size ≤ 20000
  · have hl := lines_any s w (by omega) hE
    have hlen := (linesB_ok s).len
    have hb : bodyE s = if (linesB s).length ≤ 2000 then 0 else 4 := by unfold bodyE; rw [if_pos h1]
    have HL := Lib.hid hl
    have HB := Lib.hid hb
    have q1 : decide ((20000 : Int) < (s.size : Int)) = false := by simp; omega
    clear hl hb
    unfold LinesPost at HL
    generalize linesB s = L at *
    by_cases h2 : L.length ≤ 2000
    · have q2 : decide ((2000 : Int) < (L.length : Int)) = false := by simp; omega
      go_enter Tryd.func9, Tryd.ntmps9
      go_wp2_with fail
      refine HL.out.mono ?_
      rintro e w' ⟨a, c, rfl, _, hbl, _⟩
      go_wp2_with fail
      go_ret
      exact ⟨by rw [HB.out, if_pos h2]; rfl, hbl⟩
    · have q2 : decide ((2000 : Int) < (L.length : Int)) = true := by simp; omega
      go_enter Tryd.func9, Tryd.ntmps9
      go_wp2_with fail
      refine HL.out.mono ?_
      rintro e w' ⟨a, c, rfl, _, hbl, _⟩
      go_wp2_with fail
      go_ret
      exact ⟨by rw [HB.out, if_neg h2]; rfl, hbl⟩
  · have q1 : decide ((20000 : Int) < (s.size : Int)) = true := by simp; omega
    have hb : bodyE s = 4 := by unfold bodyE; rw [if_neg h1]
    have HB := Lib.hid hb
    clear hb hE
    go_enter Tryd.func9, Tryd.ntmps9
    go_wp2_with fail
    go_ret
    exact ⟨by rw [HB.out]; rfl, Below.refl _ _⟩

end Go.Proofs.YtogfekjopelfbaaDoor
