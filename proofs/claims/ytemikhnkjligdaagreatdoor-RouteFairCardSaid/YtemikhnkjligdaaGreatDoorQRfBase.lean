/- Tools for the walks of RouteFair: blocks of bools, a map of numbers, calendars in memory. -/
import Derived.Test.YtemikhnkjligdaaGreatDoorQPpChk2
import Derived.Test.YtemikhnkjligdaaGreatDoorQCalChk
import Derived.Maps.Own
import Derived.Maps.Views
import Derived.Maps.Keyed
namespace Go.Proofs.YtemikhnkjligdaaGreatDoor
open Go.RowKit Go.Maps Go.WideMaps

/-- a block of bools -/
def BoolsB (w : World) (b : Nat) (os : List Bool) : Prop := Has w b (os.map Value.bool).toArray 4
theorem BoolsB.cells {w : World} {b : Nat} {os : List Bool} (h : BoolsB w b os) (j : Nat) (hj : j < os.length) : w.cell? ⟨b, j, none⟩ = some (.bool os[j]) ∧ w.frozen? ⟨b, j, none⟩ = false := by
  refine ⟨?_, h.fz j⟩
  rw [h.cell j]
  simp [hj]
theorem BoolsB.set {w : World} {b : Nat} {os : List Bool} (h : BoolsB w b os) (j : Nat) (n : Bool) : BoolsB (w.setCell ⟨b, j, none⟩ (.bool n)) b (os.set j n) := by
  have := Has.set h j (.bool n)
  unfold BoolsB
  rw [List.map_set, ← List.setIfInBounds_toArray]
  exact this
theorem madeBools (w : World) (n : Nat) : BoolsB (w.alloc (.cells (madeCells #[.bool false] n) 4)) w.heap.size (List.replicate n false) := by
  have : (madeCells #[.bool false] n) = ((List.replicate n false).map Value.bool).toArray := by
    apply Array.ext
    · simp [madeCells]
    · intro i h1 h2
      simp [madeCells, Nat.mod_one]
  unfold BoolsB
  rw [← this]
  exact Has.new _ _ _
theorem infoBool : (Tryz.prog.info? 4).map (fun i => (i.zero, i.size, i.bytes)) = some (some (.bool false), 1, 1) := by kernel_rfl
theorem make_bools (w : World) (n : Nat) (hn : n ≤ 1000000) :
    (Instr.makeSlice 54 (.int .i64 (n : Int)) (.int .i64 (n : Int))).run Tryz.prog w = .ok (.slice (some ⟨w.heap.size, 0, none⟩) n n) (w.alloc (.cells (madeCells #[.bool false] n) 4)) := by
  obtain ⟨i0, hi, hz0, hz1, hz2⟩ := info_parts infoBool
  have h := run_make (P := Tryz.prog) w 54 4 i0 (.bool false) Tryz.underlying54 hi hz0 .i64 .i64 (n : Int) (n : Int) (by omega) (by omega) (by rw [hz2]; omega) (by omega)
  rw [h, hz1, Nat.mul_one]
  rfl

theorem zeroBoo (w : World) : (zeroValue 4).run Tryz.prog w = .ok (.bool false) w := by kernel_rfl
/-- block b is a map of at most n numbers that holds just these -/
def TMap (w : World) (b n : Nat) (S : List Int) : Prop :=
  ∃ D : DataW Unit, w.ownsMap Tryz.prog 3 (plainElem Tryz.prog 4) b n D ∧ ∀ s : Int, D.atKey (.int .i64 s) (.lit (.bool false)) = .lit (.bool (decide (s ∈ S)))
theorem TMap.made (w : World) : TMap (w.alloc (.map #[] 0)) w.heap.size 0 [] := ⟨_, World.ownsMap_made _ _ _ _, fun s => by simp; rfl⟩
theorem TMap.lt {w : World} {b n : Nat} {S : List Int} (h : TMap w b n S) : b < w.heap.size := by
  obtain ⟨D, ho, _⟩ := h
  exact ho.lt
theorem TMap.below {w w' : World} {b n B : Nat} {S : List Int} (h : TMap w b n S) (hb : Below B w w') (hB : b < B) : TMap w' b n S := by
  obtain ⟨D, ⟨es, clock, g1, g2⟩, hd⟩ := h
  exact ⟨D, ⟨es, clock, (hb.block b hB).trans g1, g2⟩, hd⟩
theorem keyT {s : Int} (h : 0 ≤ s ∧ s ≤ 100000) : keyOf Tryz.prog 3 (.int .i64 s) = some (.int .i64 s) :=
  keyOf_int_mk Tryz.underlying3 (by simp [Lit.wf, IntKind.min, IntKind.max, IntKind.bits, IntKind.signed]; omega)
set_option maxRecDepth 100000 in
theorem TMap.look {w : World} {b n : Nat} {S : List Int} (h : TMap w b n S) {s : Int} (hs : 0 ≤ s ∧ s ≤ 100000) :
    (Instr.lookup 35 (.map (some b)) (.int .i64 s) false).run Tryz.prog w = .ok (.bool (decide (s ∈ S))) w := by
  obtain ⟨D, ho, hd⟩ := h
  obtain ⟨v, ps, hrun, hv⟩ := ho.lookup (int_keyed Tryz.underlying3) Tryz.underlying35 (zeroBoo w) (plainElem_bool Tryz.underlying4 false) (keyT hs)
  rw [hd s] at hv
  rw [hrun]
  unfold plainElem at hv
  rw [Tryz.underlying4] at hv
  cases v <;> simp at hv
  rw [hv.1]
theorem TMap.put {w : World} {b n : Nat} {S : List Int} (h : TMap w b n S) {s : Int} (hs : 0 ≤ s ∧ s ≤ 100000) (hn : n < 100000) :
    ∃ w', (Instr.mapUpdate 35 (.map (some b)) (.int .i64 s) (.bool true)).run Tryz.prog w = .ok () w' ∧ TMap w' b (n + 1) (s :: S) ∧ w.grownBy w' (some b) := by
  obtain ⟨D, ho, hd⟩ := h
  have hk := keyT hs
  obtain ⟨w', hrun, ho', hg⟩ := ho.update (int_keyed Tryz.underlying3) Tryz.underlying35 (show n < maxLen by unfold maxLen; omega) hk (plainElem_bool (H := Unit) Tryz.underlying4 true)
  have hm : IsMap D := by
    obtain ⟨es, _, _, _, _, rfl⟩ := ho
    exact ⟨_, rfl⟩
  refine ⟨w', hrun, ⟨_, ho', fun u => ?_⟩, hg⟩
  by_cases e : u = s
  · subst e
    rw [atKey_put_same hm ((int_keyed Tryz.underlying3).one.key ⟨_, hk⟩)]
    simp
  · rw [atKey_put_other (fun q => e (by injection q)), hd u]
    simp [e]

def calsR (w : World) (cs : List Value) (c : CalD) : Prop := ∃ vcs vwk vsp, cs = [.int .i64 c.off, vcs, vwk, vsp] ∧ CalAt w vcs vwk vsp c
theorem calsR_stable : Stable calsR := fun _ _ _ _ ⟨a, b, c, h1, h2⟩ hb => ⟨a, b, c, h1, h2.below hb⟩
def Clds (w : World) (v : Value) (l : List CalD) : Prop := SliceAt 4 calsR w v l
theorem Clds.below {w w' : World} {v : Value} {l : List CalD} (h : Clds w v l) (hb : Below w.heap.size w w') : Clds w' v l := SliceAt.stable calsR_stable h hb
theorem Clds.at {w : World} {v : Value} {l : List CalD} (h : Clds w v l) (hl : 0 < l.length) : ∃ b off cap, v = .slice (some ⟨b, off, none⟩) l.length cap ∧ b < w.heap.size ∧
    ∀ i (hi : i < l.length), ∃ vcs vwk vsp, w.cell? ⟨b, off + i * 4, none⟩ = some (.int .i64 l[i].off) ∧ w.cell? ⟨b, off + i * 4 + 1, none⟩ = some vcs ∧ w.cell? ⟨b, off + i * 4 + 2, none⟩ = some vwk ∧ w.cell? ⟨b, off + i * 4 + 3, none⟩ = some vsp ∧ CalAt w vcs vwk vsp l[i] := by
  obtain ⟨b, off, cap, hv, hc, hb, hel⟩ := SliceAt.at h hl
  refine ⟨b, off, cap, hv, hb, fun i hi => ?_⟩
  obtain ⟨cs, ⟨_, h2⟩, a1, a2, a3, hr, hs⟩ := hel i hi
  cases hr
  exact ⟨a1, a2, a3, h2 0 (by simp), h2 1 (by simp), h2 2 (by simp), h2 3 (by simp), hs⟩
end Go.Proofs.YtemikhnkjligdaaGreatDoor
