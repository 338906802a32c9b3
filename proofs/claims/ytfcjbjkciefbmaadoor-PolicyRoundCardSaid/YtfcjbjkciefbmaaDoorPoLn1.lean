/- The walk of level's reader of one line, (*Policy).line: the line of the pauses. -/
import Derived.Test.YtfcjbjkciefbmaaDoorPoLn0
import Derived.Test.YtfcjbjkciefbmaaDoorSplW
namespace Go.Proofs.YtfcjbjkciefbmaaDoor
open Go.RowKit

def LinePost (B C : Nat) (s : RdS) (w : World) (e : Ending) (w' : World) : Prop :=
  e = .returned (.bool true) ∧ Below B w w' ∧ ∃ U ld lc vp vl, RdM w' B C U s ld lc vp vl
set_option maxRecDepth 100000 in
set_option maxHeartbeats 4000000 in
theorem line_pau (l : List Int) (B C U : Nat) (s : RdS) (ld : List LRec) (lc : Option LRec) (vp vl : Value) (w : World) (h : RdM w B C U s ld lc vp vl) (hx : (It.pau l).Ok) (hE : Env w) (hB : B ≤ w.heap.size) :
    Calls Tryd.prog 16 #[.pointer (some ⟨C, 0, none⟩), .string (bs (lineU l)), .bool true] w (LinePost B C (s.push (.pau l)) w) := by
  have H := Lib.hid h
  have HE := Lib.hid hE
  obtain ⟨hl4, hone⟩ := hx.pau l rfl
  have hls := line_short2 hx
  have hsp := split_words pauseW (l.map Lib.itoa) (wordsU_clean l 32 (.inr rfl)) (by have : (Lib.join (pauseW :: l.map Lib.itoa) [32]).length ≤ 240 := hls; omega) w hE
  rw [List.length_map] at hsp
  have HSP := Lib.hid (show Calls Tryd.prog 23 #[.string (bs (lineU l)), .string ⟨#[32]⟩] w _ from hsp)
  have HNM := Lib.hid (fun v W hW hs => numbers_lev l 17 (by decide) (fun n hn => small18 (by have := hone n hn; unfold PauOne at this; omega)) (by omega) v W hW hs)
  rw [show ((17 + 1 : Nat) : Int) = 18 from rfl] at HNM
  clear h hx hE hls hsp
  generalize bs (lineU l) = L at *
  go_enter Tryd.func16, Tryd.ntmps16
  go_wp2_with fail
  refine HSP.out.mono ?_
  rintro e w2 ⟨rfl, hb2, hw2⟩
  have HR2 := Lib.hid (H.out.below hb2)
  have HB2 := Lib.hid hb2
  have c0 : w2.cell? ⟨w.heap.size, 0, none⟩ = some (.string ⟨#[112, 97, 117, 115, 101]⟩) := hw2.cell 0 (by simp)
  have hcut := words_cut hw2 rfl
  rw [List.length_map, List.map_map] at hcut
  have HCUT := Lib.hid hcut
  clear hb2 hw2 hcut H HSP
  go_upto_region 5 with fail
  go_cut [8, 9] (fun v bv wx => bv = .bool true ∧ Below w.heap.size w wx ∧ RdM wx B C U s ld lc vp vl ∧ wx.ownsRow B 3 1 v l.length (l.map (Value.int .i64)))
  case first =>
    have hB2z := HB2.out.size
    by_cases h0 : l.length = 0
    · obtain rfl := List.eq_nil_of_length_eq_zero h0
      have hs : SliceAt 1 strR w2 (.slice (some ⟨w.heap.size, 0, none⟩) 0 0) (([] : List Int).map fun n => bs (Lib.itoa n)) := .inl ⟨_, _, rfl, rfl⟩
      have HNN := Lib.hid (HNM.out _ _ (HE.out.below HB2.out) hs)
      clear HNM HCUT hs c0
      go_wp2_with fail
      refine HNN.out.mono ?_
      rintro e w3 ⟨⟨v, rfl, hown⟩, hb3⟩
      have H3 := Lib.hid (And.intro (below_up HB2.out hb3 HB2.out.size) (And.intro (HR2.out.below hb3) (owns_base hown (Nat.le_trans hB HB2.out.size))))
      clear hb3 hown
      go_wp2_with fail
      go_meet
      exact ⟨rfl, H3.out.1, H3.out.2.1, H3.out.2.2⟩
    · have hs := HCUT.out
      rw [if_neg (by omega)] at hs
      have HNN := Lib.hid (HNM.out _ _ (HE.out.below HB2.out) hs)
      clear HNM HCUT hs c0
      go_wp2_with fail
      refine HNN.out.mono ?_
      rintro e w3 ⟨⟨v, rfl, hown⟩, hb3⟩
      have H3 := Lib.hid (And.intro (below_up HB2.out hb3 HB2.out.size) (And.intro (HR2.out.below hb3) (owns_base hown (Nat.le_trans hB HB2.out.size))))
      clear hb3 hown
      go_wp2_with fail
      go_meet
      exact ⟨rfl, H3.out.1, H3.out.2.1, H3.out.2.2⟩
  case rest =>
    obtain ⟨rfl, hbw, hR, hown⟩ := hcut
    have k0 := hR.box.cell 0
    have f0 := hR.box.fz 0
    obtain ⟨va, vc, rfl⟩ := owns_slice hown
    have HP := Lib.hid (show LinePost B C (s.push (.pau l)) w (.returned (.bool true)) (wc.setCell ⟨C, 0, none⟩ (.slice va l.length vc)) from ⟨rfl, (hbw.mono hB).setCell (p := ⟨C, 0, none⟩) hR.bc _, _, _, _, _, _, hR.setPau hown⟩)
    clear hbw hR hown HCUT HNM HR2
    go_wp2_with fail
    go_ret
    exact HP.out
end Go.Proofs.YtfcjbjkciefbmaaDoor
