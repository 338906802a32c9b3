/- The walk of the reader's choice: what stands in a field, up to one of some bytes. -/
import Derived.Test.YtfohehldkchnjaaTpRead
namespace Go.Proofs.Ytfohehldkchnjaa
open Go.RowKit

structure ChI (r : Nat) (s : ByteArray) (p : Nat) (t : List UInt8) (w wr : World) (a b : List UInt8) : Prop where
  split : t = a ++ b
  mov : TMov r s (p + a.length) w wr
  bld : BuildsAt wr w.heap.size a
def outB (ends : ByteArray) (c : UInt8) : Bool := decide (Lib.indexByte ends.data.toList c < 0)
set_option maxRecDepth 100000 in
set_option maxHeartbeats 4000000 in
theorem choice_any (ends : ByteArray) (r : Nat) (s : ByteArray) (p : Nat) (t l : List UInt8) (y : UInt8) (w : World) (hR : TR w r s p) (hp : p ≤ s.size) (hd : s.data.toList.drop p = t ++ y :: l) (hs : s.size ≤ 90000000)
    (hy : outB ends y = false) (ht : ∀ c ∈ t, outB ends c = true ∧ selfB c = true) :
    Calls Try.prog 46 #[.pointer (some ⟨r, 0, none⟩), .string ends] w fun e w' => e = .returned (.string (bs t)) ∧ TMov r s (p + t.length) w w' := by
  have hr := hR.lt
  have htl : t.length ≤ 90000000 := by have := le_drop hp _ _ hd; omega
  have HI0 := Lib.hid (show ChI r s p t w (w.alloc (.cells #[.pointer none, .slice none 0 0] 46)) [] t from
    ⟨rfl, ⟨Has.alloc hR _, grownBy_alloc' (grownBy_refl _ _) _⟩, BuildsAt.new w⟩)
  have HD := Lib.hid hd
  have HY := Lib.hid hy
  have HT := Lib.hid ht
  clear hR hd hy ht
  go_enter Try.func46, Try.ntmps46
  go_wp2_with fail
  go_loopg [] t.length (fun n wr => ∃ a b, n = b.length ∧ ChI r s p t w wr a b)
  case atStart => exact ⟨[], t, rfl, HI0.out⟩
  case round =>
    obtain ⟨a, b, rfl, hI⟩ := hrel
    have HI := Lib.hid hI
    clear hI HI0
    obtain ⟨q, hq⟩ : ∃ q, q = p + a.length := ⟨_, rfl⟩
    have hspl := HI.out.split
    have hdr : s.data.toList.drop q = b ++ y :: l := by
      have h := HD.out
      rw [hspl, List.append_assoc] at h
      rw [hq]
      exact more_drop _ _ h
    have hTR : TR wr r s q := by rw [hq]; exact HI.out.mov.rd
    obtain ⟨c0, c1, c2, f1⟩ := hTR.cells
    have HTR := Lib.hid hTR
    have HTRd := Lib.hid (show TR wr.drew r s q from hTR)
    have HSP := Lib.hid hspl
    have HQ := Lib.hid hq
    obtain ⟨c, hc⟩ : ∃ c, (b ++ y :: l).head? = some c := by cases b <;> exact ⟨_, rfl⟩
    have hdc : ∃ m, s.data.toList.drop q = c :: m := by
      rw [hdr]
      cases hb : b ++ y :: l with
      | nil => rw [hb] at hc; cases hc
      | cons z m => rw [hb] at hc; cases hc; exact ⟨m, rfl⟩
    obtain ⟨m, hdm⟩ := hdc
    obtain ⟨⟨hlt, hx⟩, _⟩ := at_drop hdm
    have hlt1 : decide ((q : Int) < (s.size : Int)) = true := decide_eq_true (by omega)
    have HX := Lib.hid hx
    have HIX := Lib.hid (show ∀ W, Calls Try.prog 54 #[.string ends, .int .u8 s[q].toNat] W fun e w' => e = .returned (.int .i64 (Lib.indexByte ends.data.toList c)) ∧ w' = W from fun W => by
      have h := Try.strings_IndexByte ends (s[q].toNat : Int) W
      rw [hx] at h ⊢
      have e : (c.toNat : Int).toNat.toUInt8 = c := by simp
      rw [e] at h
      exact h)
    obtain ⟨ov, hov⟩ : ∃ ov, ov = outB ends c := ⟨_, rfl⟩
    have HOV := Lib.hid hov
    have hov' : decide (Lib.indexByte ends.data.toList c < 0) = ov := hov.symm
    clear hq hspl hTR hdm hx hov
    go_upto_region 2 with fail
    go_cut [37] (fun v wx => v = .bool ov ∧ TR wx r s q ∧ BuildsAt wx w.heap.size a ∧ w.grownBy wx (some r))
    case first =>
      go_region_held3 (fun W => W.cell? ⟨r, 0, none⟩ = some (.string s) ∧ W.cell? ⟨r, 1, none⟩ = some (.int .i64 (q : Int)) ∧ W.cell? ⟨r, 2, none⟩ = some (.bool false))
        (first | exact ⟨HTR.out.cells.1, HTR.out.cells.2.1, HTR.out.cells.2.2.1⟩ | fail)
        ((go_at_call 54; refine (HIX.out _).mono ?_; rintro e w' ⟨rfl, rfl⟩))
      go_wp2
      go_meet
      exact ⟨by rw [← hov'], HTRd.out, HI.out.bld.below (Below.refl _ _).drew, grownBy_drew' HI.out.mov.grown⟩
    case rest =>
      obtain ⟨rfl, ht2, hb2, hg2⟩ := hcut
      have HT2 := Lib.hid ht2
      have HB2 := Lib.hid hb2
      have HG2 := Lib.hid hg2
      clear ht2 hb2 hg2 c0 c1 c2 f1 hov' HIX
      generalize wc = w2 at *
      cases b with
      | nil =>
        obtain rfl : c = y := by simpa using hc.symm
        obtain rfl : ov = false := HOV.out.trans HY.out
        have e : t = a := by rw [HSP.out]; simp
        have HF := Lib.hid (show TMov r s (p + t.length) w w2 from ⟨by rw [e, ← HQ.out]; exact HT2.out, HG2.out⟩)
        have HBT := Lib.hid (show BuildsAt w2 w.heap.size t from by rw [e]; exact HB2.out)
        clear e hc hdr
        go_wp2_with fail
        refine (Try.Builder_String_any w.heap.size w.heap.size t w2 HBT.out (Nat.le_of_lt HBT.out.lt)).mono ?_
        rintro e w9 ⟨rfl, hb9⟩
        have HZ := Lib.hid (show TMov r s (p + t.length) w w9 from ⟨HF.out.rd.below hb9 hr, grownBy_below HF.out.grown hb9 (Nat.le_refl _)⟩)
        clear hb9
        go_wp2_with fail
        go_ret
        exact ⟨rfl, HZ.out⟩
      | cons z b' =>
        obtain rfl : z = c := by simpa using hc
        obtain ⟨ho, hself⟩ := HT.out z (by rw [HSP.out]; simp)
        obtain rfl : ov = true := HOV.out.trans ho
        have HSP2 := Lib.hid (show t = (a ++ [z]) ++ b' by rw [HSP.out]; simp)
        have hal : a.length + 1 ≤ 90000000 := by
          have h := congrArg List.length HSP2.out
          simp at h
          omega
        simp only [selfB, Bool.and_eq_true, bne_iff_ne, ne_eq] at hself
        obtain ⟨⟨⟨⟨s1, s2⟩, s3⟩, s4⟩, s5⟩ := hself
        have x1 : s[q].toNat ≠ 92 := by rw [HX.out]; exact fun g => s1 (UInt8.toNat_inj.1 g)
        have x2 : s[q].toNat ≠ 123 := by rw [HX.out]; exact fun g => s2 (UInt8.toNat_inj.1 g)
        have x3 : s[q].toNat ≠ 125 := by rw [HX.out]; exact fun g => s3 (UInt8.toNat_inj.1 g)
        have x4 : s[q].toNat ≠ 10 := by rw [HX.out]; exact fun g => s4 (UInt8.toNat_inj.1 g)
        have y1 : ((s[q].toNat : Int) == 92) = false := by simp; omega
        have y2 : ((s[q].toNat : Int) == 123) = false := by simp; omega
        have y3 : ((s[q].toNat : Int) == 125) = false := by simp; omega
        have y4 : ((s[q].toNat : Int) == 10) = false := by simp; omega
        obtain ⟨q1, hq1⟩ : ∃ n, n = q + 1 := ⟨_, rfl⟩
        have w1 : IntKind.i64.wrap ((q : Int) + 1) = (q1 : Int) := by rw [IntWalk.i64_in _ (by omega)]; omega
        have HQ1 := Lib.hid (show q1 = p + (a ++ [z]).length by rw [hq1, HQ.out]; simp; omega)
        have HWR := Lib.hid (fun (W : World) (hW : BuildsAt W w.heap.size a) => writeByte_any w.heap.size a z (s[q].toNat : Int) (by rw [HX.out]) W hW (by omega))
        clear s1 s2 s3 s4 s5 hc hdr hq1 ho
        obtain ⟨c0, c1, c2, f1⟩ := HT2.out.cells
        go_upto_region 3 with fail
        go_quiet (fail)
        have HT3 := Lib.hid (show TR (w2.drewN nq) r s q from HT2.out)
        have HB3 := Lib.hid (HB2.out.below (drewN_below (Below.refl w2.heap.size w2) nq))
        have HG3 := Lib.hid (grownBy_drewN HG2.out nq)
        generalize w2.drewN nq = w3 at *
        go_wp2_with fail
        refine (HWR.out w3 HB3.out).mono ?_
        rintro e w5 ⟨rfl, hb5, hbl5, _⟩
        have ht5 := TR.below HT3.out hbl5 hr
        obtain ⟨d0, d1, d2, f2⟩ := ht5.cells
        have HZ := Lib.hid (show ChI r s p t w (w5.setCell ⟨r, 1, none⟩ (.int .i64 (q1 : Int))) (a ++ [z]) b' from
          ⟨HSP2.out, ⟨by rw [← HQ1.out]; exact ht5.to _ q1 rfl, grownBy_trans (grownBy_below HG3.out hbl5 (Nat.le_refl _)) (grownBy_set _ _ _ _)⟩, hb5.grown (grownBy_set _ _ _ _) hr⟩)
        clear hb5 hbl5 ht5 HWR
        go_wp2_with fail
        go_roundg b'.length
        case measure => simp
        case rel => exact ⟨_, _, rfl, HZ.out⟩
end Go.Proofs.Ytfohehldkchnjaa
