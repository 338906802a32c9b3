/- The walks of the reader of queries: is, blanks, part. -/
import Derived.Test.YtogfekjopelfbaaWords
import Derived.BigQuiet
import Derived.Deep.QuietTactic
import Derived.Deep.RegionWith
import Derived.Deep.LoopGhost
namespace Go.Proofs.Ytogfekjopelfbaa
open Go.RowKit

/-- the reader: its text, its place -/
def Reader (w : World) (b : Nat) (s : ByteArray) (p : Nat) : Prop := Has w b #[.string s, .int .i64 (p : Nat)] 66

def nextIs (s : ByteArray) (p : Nat) (c : Int) : Bool := match s.data.toList[p]? with | some x => decide ((x.toNat : Int) = c) | none => false

theorem Reader.cells {w : World} {b : Nat} {s : ByteArray} {p : Nat} (h : Reader w b s p) :
    w.cell? ⟨b, 0, none⟩ = some (.string s) ∧ w.cell? ⟨b, 1, none⟩ = some (.int .i64 (p : Nat)) ∧ w.frozen? ⟨b, 1, none⟩ = false :=
  ⟨h.cell 0, h.cell 1, h.fz 1⟩
theorem Reader.to {w : World} {b : Nat} {s : ByteArray} {p : Nat} (h : Reader w b s p) (n : Int) (q : Nat) (hn : n = q) : Reader (w.setCell ⟨b, 1, none⟩ (.int .i64 n)) b s q := by
  subst hn
  exact Has.set h 1 _

/-- the reader's place and nothing else has turned -/
structure Moved (b : Nat) (s : ByteArray) (q : Nat) (w w' : World) : Prop where
  reader : Reader w' b s q
  grown : w.grownBy w' (some b)
theorem Moved.trans {b : Nat} {s : ByteArray} {q r : Nat} {w w1 w2 : World} (h : Moved b s q w w1) (k : Moved b s r w1 w2) : Moved b s r w w2 := ⟨k.reader, grownBy_trans h.grown k.grown⟩

def IsPost (b : Nat) (s : ByteArray) (p : Nat) (c : Int) (w : World) (e : Ending) (w' : World) : Prop :=
  e = .returned (.bool (nextIs s p c)) ∧ Moved b s (if nextIs s p c then p + 1 else p) w w'

set_option maxRecDepth 100000 in
set_option maxHeartbeats 400000 in
theorem is_any (b : Nat) (s : ByteArray) (p : Nat) (c : Int) (w : World) (hR : Reader w b s p) (hp : p ≤ s.size) (hs : s.size ≤ 1048576) :
    Calls Try.prog 28 #[.pointer (some ⟨b, 0, none⟩), .int .u8 c] w (IsPost b s p c w) := by
  obtain ⟨c0, c1, f1⟩ := hR.cells
  have HR := Lib.hid hR
  clear hR
  by_cases hlt : p < s.size
  · have hd : decide ((p : Int) < (s.size : Int)) = true := by simp; omega
    cases hc : ((s[p].toNat : Int) == c) with
    | true =>
      have HN : Hid (nextIs s p c = true) := by simp only [Hid, nextIs, data_at s p hlt]; simpa using hc
      go_enter Try.func28, Try.ntmps28
      go_wp2
      go_quiet (fail)
      go_wp2
      go_ret
      exact ⟨by rw [HN.out]; rfl, by rw [HN.out]; exact (HR.out.to _ (p + 1) (by omega)).drewN nq, grownBy_drewN (grownBy_set _ _ _ _) nq⟩
    | false =>
      have HN : Hid (nextIs s p c = false) := by simp only [Hid, nextIs, data_at s p hlt]; simpa using hc
      go_enter Try.func28, Try.ntmps28
      go_wp2
      go_quiet (fail)
      go_wp2
      go_ret
      exact ⟨by rw [HN.out]; rfl, by rw [HN.out]; exact HR.out.drewN nq, grownBy_drewN (grownBy_refl _ _) nq⟩
  · have hd : decide ((p : Int) < (s.size : Int)) = false := by simp; omega
    have HN : Hid (nextIs s p c = false) := by simp only [Hid, nextIs]; rw [List.getElem?_eq_none (by simp; exact Nat.le_of_not_lt hlt)]
    go_enter Try.func28, Try.ntmps28
    go_wp2
    go_quiet (fail)
    go_wp2
    go_ret
    exact ⟨by rw [HN.out]; rfl, by rw [HN.out]; exact HR.out.drewN nq, grownBy_drewN (grownBy_refl _ _) nq⟩

/-- how many blanks stand from p on -/
def blankRun (s : ByteArray) (p : Nat) : Nat := ((s.data.toList.drop p).takeWhile (fun x => decide (x = 32))).length

theorem nextIs_blank {s : ByteArray} {p : Nat} (h : nextIs s p 32 = true) : p < s.size ∧ p + blankRun s p = p + 1 + blankRun s (p + 1) := by
  unfold nextIs at h
  split at h
  · rename_i x hx
    have hlt : p < s.size := by
      rcases Nat.lt_or_ge p s.size with h' | h'
      · exact h'
      · rw [List.getElem?_eq_none (by simpa using h')] at hx; cases hx
    refine ⟨hlt, ?_⟩
    have hx32 : x = 32 := by
      have : (x.toNat : Int) = 32 := by simpa using h
      exact UInt8.toNat_inj.1 (by simpa using (show x.toNat = 32 by omega))
    have e : s.data.toList.drop p = x :: s.data.toList.drop (p + 1) := by
      obtain ⟨hp', rfl⟩ := List.getElem?_eq_some_iff.1 hx
      exact List.drop_eq_getElem_cons hp'
    unfold blankRun
    rw [e, List.takeWhile_cons, if_pos (by simpa using hx32), List.length_cons]
    omega
  · cases h
theorem nextIs_noBlank {s : ByteArray} {p : Nat} (h : nextIs s p 32 = false) : blankRun s p = 0 := by
  unfold nextIs at h
  unfold blankRun
  split at h
  · rename_i x hx
    have hx32 : x ≠ 32 := by
      rintro rfl
      simp at h
    have e : s.data.toList.drop p = x :: s.data.toList.drop (p + 1) := by
      obtain ⟨hp', rfl⟩ := List.getElem?_eq_some_iff.1 hx
      exact List.drop_eq_getElem_cons hp'
    rw [e, List.takeWhile_cons, if_neg (by simpa using hx32), List.length_nil]
  · rename_i hx
    rw [List.drop_eq_nil_of_le (by simpa using hx)]
    rfl
theorem blankRun_le (s : ByteArray) (p : Nat) : p ≤ s.size → p + blankRun s p ≤ s.size := by
  intro h
  unfold blankRun
  have := (List.takeWhile_sublist (l := s.data.toList.drop p) (fun x => decide (x = 32))).length_le
  rw [List.length_drop] at this
  have e : s.data.toList.length = s.size := by simp
  omega

def BlanksPost (b : Nat) (s : ByteArray) (p : Nat) (w : World) (e : Ending) (w' : World) : Prop :=
  e = .returned (.tuple #[]) ∧ Moved b s (p + blankRun s p) w w'
/-- at the head of a round of 'blanks' -/
def BlanksInv (b : Nat) (s : ByteArray) (p q : Nat) (w wr : World) : Prop := Moved b s q w wr ∧ q + blankRun s q = p + blankRun s p ∧ q ≤ s.size

set_option maxRecDepth 100000 in
set_option maxHeartbeats 400000 in
theorem blanks_any (b : Nat) (s : ByteArray) (p : Nat) (w : World) (hR : Reader w b s p) (hp : p ≤ s.size) (hs : s.size ≤ 1048576) :
    Calls Try.prog 26 #[.pointer (some ⟨b, 0, none⟩)] w (BlanksPost b s p w) := by
  have HR := Lib.hid hR
  clear hR
  go_enter Try.func26, Try.ntmps26
  go_wp2_with fail
  go_loopg [] (s.size - p) (fun n wr => ∃ q, n = s.size - q ∧ BlanksInv b s p q w wr)
  case atStart => exact ⟨p, rfl, ⟨HR.out, grownBy_refl _ _⟩, rfl, hp⟩
  case round =>
    obtain ⟨q, rfl, hm, he, hq⟩ := hrel
    have HM := Lib.hid hm
    have HE := Lib.hid he
    clear hm he HR
    cases hn : nextIs s q 32 with
    | true =>
      have hb := Lib.hid (nextIs_blank hn)
      go_wp2_with (go_at_call 28; refine (is_any b s q 32 _ HM.out.reader hq hs).mono ?_; rintro e w' ⟨rfl, hm⟩)
      rw [if_pos hn] at hm
      have hb1 := hb.out
      go_roundg (s.size - (q + 1))
      case measure => omega
      case rel => exact ⟨q + 1, rfl, HM.out.trans hm, by have := HE.out; omega, by omega⟩
    | false =>
      have hb := Lib.hid (nextIs_noBlank hn)
      go_wp2_with (go_at_call 28; refine (is_any b s q 32 _ HM.out.reader hq hs).mono ?_; rintro e w' ⟨rfl, hm⟩)
      rw [if_neg (by simp [hn])] at hm
      go_end0
      refine ⟨rfl, ?_⟩
      rw [← HE.out, hb.out]
      exact HM.out.trans hm

end Go.Proofs.Ytogfekjopelfbaa
