/- The walk of the reader's 'part', where it reads one. -/
import Derived.Test.YtogfekjopelfbaaReader
import Derived.Test.YtogfekjopelfbaaShelf
import Derived.Lib.IndexBytes
namespace Go.Proofs.Ytogfekjopelfbaa
open Go.RowKit

/-- what is at hand behind a part that has been read: the reader moved on; the part's words are new -/
def PartPost (b : Nat) (s : ByteArray) (q : Nat) (kind : Int) (neg : Bool) (ws : List (List UInt8)) (w : World) (e : Ending) (w' : World) : Prop :=
  ∃ v, e = .returned (.tuple #[.agg #[.int .i64 kind, .bool neg, v], .bool true]) ∧ Reader w' b s q ∧ w.grownBy w' (some b) ∧ w'.ownsRow w.heap.size 9 1 v ws.length (ws.map strV)

theorem idx_any (s : ByteArray) (c : Int) (e1 : Int) (w : World) (h : Lib.indexByte s.data.toList c.toNat.toUInt8 = e1) :
    Calls Try.prog 50 #[.string s, .int .u8 c] w fun e w' => e = .returned (.int .i64 e1) ∧ w' = w := by
  rw [← h]; exact Try.strings_IndexByte s c w

set_option maxRecDepth 100000 in
set_option maxHeartbeats 1000000 in
theorem part_phrase (b : Nat) (s : ByteArray) (p p1 e1 : Nat) (neg : Bool) (ws : List (List UInt8)) (w : World) (hR : Reader w b s p) (hp : p ≤ s.size) (hs : s.size ≤ 1048576)
    (hneg : nextIs s p 45 = neg) (hp1 : p1 = if neg then p + 1 else p) (hq : nextIs s p1 34 = true) (hend : Lib.indexByte (s.data.toList.drop (p1 + 1)) 34 = (e1 : Int)) (hle : p1 + 1 + e1 + 1 ≤ s.size)
    (hws : wordsS (s.extract (p1 + 1) (p1 + 1 + e1)) = ws) (hne : 0 < ws.length) :
    Calls Try.prog 27 #[.pointer (some ⟨b, 0, none⟩)] w (PartPost b s (p1 + 1 + e1 + 1) 1 neg ws w) := by
  have HR := Lib.hid hR
  have HN := Lib.hid hneg
  have HP := Lib.hid hp1
  have HQ := Lib.hid hq
  have HE := Lib.hid hend
  have HW := Lib.hid hws
  have hb : b < w.heap.size := hR.lt
  clear hR hneg hp1 hq hend hws
  go_enter Try.func27, Try.ntmps27
  go_wp2_with fail
  refine (is_any b s p 45 _ (HR.out.alloc _) hp hs).mono ?_
  rintro e w1 ⟨rfl, hm⟩
  rw [HN.out, ← HP.out] at hm
  rw [HN.out]
  have hp1s : p1 ≤ s.size := by omega
  obtain ⟨c0, c1, f1⟩ := hm.reader.cells
  have hb1 : b < w1.heap.size := hm.reader.lt
  have HM := Lib.hid hm
  clear hm
  go_wp2_with fail
  refine (is_any b s p1 34 _ (HM.out.reader.alloc _) hp1s hs).mono ?_
  rintro e w2 ⟨rfl, hm⟩
  rw [HQ.out] at hm
  rw [HQ.out]
  simp only [if_true] at hm
  obtain ⟨d0, d1, g1⟩ := hm.reader.cells
  have hb2 : b < w2.heap.size := hm.reader.lt
  have HM2 := Lib.hid hm
  have hi := idx_any (s.extract (p1 + 1) s.size) 34 (e1 : Int)
  have HX : Hid (Lib.indexByte (s.extract (p1 + 1) s.size).data.toList (34 : Int).toNat.toUInt8 = (e1 : Int)) := by
    show _ = _
    rw [Lib.extract_to_end]; exact HE.out
  have Hi := Lib.hid (fun w => hi w HX.out)
  clear hm hi
  go_wp2_with fail
  go_quiet ((go_at_call 50; exact Calls.quiet_of_same (Hi.out _)))
  go_wp2_with fail
  have hbox : Has (w2.drewN nq) w1.heap.size #[.int .i64 0, .bool neg, .slice none 0 0] 61 := ((Has.new _ _ _).kept HM2.out.grown (by simp; omega)).drewN nq
  have hr3 : Reader (w2.drewN nq) b s (p1 + 1) := HM2.out.reader.drewN nq
  have hg30 := HM2.out.grown
  clear HM2 d0 d1 g1 hb2
  obtain ⟨d0, d1, g1⟩ := hr3.cells
  have hb3 : b < (w2.drewN nq).heap.size := hr3.lt
  have k0 := hbox.cell 0
  have k1 := hbox.cell 1
  have k2 := hbox.cell 2
  have z0 := hbox.fz 0
  have z2 := hbox.fz 2
  have hlt1 : w1.heap.size < (w2.drewN nq).heap.size := hbox.lt
  have hres : Has (w2.drewN nq) w.heap.size #[.int .i64 0, .bool false, .slice none 0 0] 61 :=
    ((((Has.new _ _ _).kept HM.out.grown (by simp; omega)).alloc _).kept (grownBy_drewN hg30 nq) (by simp; omega))
  have hgw : w.grownBy (w2.drewN nq) (some b) := grownBy_trans (grownBy_alloc' (grownBy_refl w _) _) (grownBy_trans HM.out.grown (grownBy_trans (grownBy_alloc' (grownBy_refl w1 _) _) (grownBy_drewN hg30 nq)))
  have hsz : w.heap.size < w1.heap.size := Nat.lt_of_lt_of_le (by simp) HM.out.grown.size
  have HG := Lib.hid hgw
  have r0 := hres.cell 0
  have r1 := hres.cell 1
  have r2 := hres.cell 2
  have v0 := hres.fz 0
  have v1 := hres.fz 1
  have v2 := hres.fz 2
  have hrl := hres.lt
  have HR3 := Lib.hid hr3
  clear hbox hr3 hres hg30 hgw HM HR
  generalize w2.drewN nq = w3 at *
  have hex : (s.extract (p1 + 1) (p1 + 1 + e1)).size ≤ 1048576 := Nat.le_trans (extract_size _ _ _) hs
  have s1 : IntKind.i64.wrap ((p1 : Int) + 1 + (e1 : Int)) = (p1 : Int) + 1 + (e1 : Int) := IntWalk.i64_in _ (by omega)
  have s2 : (0 : Int) ≤ (p1 : Int) + 1 := by omega
  have s3 : (p1 : Int) + 1 ≤ (p1 : Int) + 1 + (e1 : Int) := by omega
  have s4 : (p1 : Int) + 1 + (e1 : Int) ≤ (s.size : Int) := by omega
  have s5 : ((p1 : Int) + 1).toNat = p1 + 1 := by omega
  have s6 : ((p1 : Int) + 1 + (e1 : Int)).toNat = p1 + 1 + e1 := by omega
  clear c0 c1 f1
  go_region_with (go_at_call 23; refine (Words_any _ _ hex).mono ?_; rintro e w4 ⟨av, cv, rfl, ho, hb4⟩; have HO := Lib.hid ho; have HB4 := Lib.hid hb4; obtain ⟨hc4, hf4⟩ := bcell hb4; have HC4 := Lib.hid hc4; have HF4 := Lib.hid hf4; have q0 := (hc4 w1.heap.size 0 hlt1).trans k0; have q2 := (hc4 w1.heap.size 2 hlt1).trans k2; have y0 := (hf4 w1.heap.size 0 hlt1).trans z0; have y2 := (hf4 w1.heap.size 2 hlt1).trans z2; clear ho hb4 hc4 hf4)
  clear s1 s2 s3 s4 s5 s6
  all_goals
    have q1 := (HC4.out w1.heap.size 1 hlt1).trans k1
    have u0 := (HC4.out b 0 hb3).trans d0
    have u1 := (HC4.out b 1 hb3).trans d1
    have x1 := (HF4.out b 1 hb3).trans g1
    have t0 := (HC4.out w.heap.size 0 hrl).trans r0
    have t1 := (HC4.out w.heap.size 1 hrl).trans r1
    have t2 := (HC4.out w.heap.size 2 hrl).trans r2
    have o0 := (HF4.out w.heap.size 0 hrl).trans v0
    have o1 := (HF4.out w.heap.size 1 hrl).trans v1
    have o2 := (HF4.out w.heap.size 2 hrl).trans v2
    have hn1 : ¬ w1.heap.size = b := by omega
    have hn2 : ¬ w.heap.size = b := by omega
    have hn3 : ¬ w1.heap.size = w.heap.size := by omega
    have hl0 : (((wordsS (s.extract (p1 + 1) (p1 + 1 + e1))).length : Int) == 0) = false := by
      rw [HW.out]; exact beq_eq_false_iff_ne.2 (by omega)
    clear HC4 HF4 d0 d1 g1 k0 k1 k2 z0 z2 r0 r1 r2 v0 v1 v2
    go_wp2
    refine bodyPost_ret (v := .tuple #[.agg #[.int .i64 1, .bool neg, .slice av (wordsS (s.extract (p1 + 1) (p1 + 1 + e1))).length cv], .bool true]) (by simp [results, Try.results27, go_sem, t0, t1, t2, o0, o1, o2, q0, q1, q2, u0, u1, hn1, hn2, hn3]) rfl ?_
    rw [← HW.out]
    refine ⟨_, rfl, ?_, ?_, ?_⟩
    · repeat refine Has.set_other ?_ _ _ (by omega)
      refine Reader.to (p := p1 + 1) ?_ _ _ (by omega)
      repeat refine Has.set_other ?_ _ _ (by omega)
      exact Has.below (show Reader w3.drew b s (p1 + 1) from HR3.out) HB4.out hb3
    · repeat refine grownBy_setc ?_ (by first | exact .inr rfl | exact .inl (by omega))
      exact grownBy_below (grownBy_drew' HG.out) HB4.out (by simp; omega)
    · refine owns_base (B := w3.drew.heap.size) ?_ (by simp; omega)
      repeat refine owns_set ?_ (by simp; omega)
      exact HO.out

end Go.Proofs.Ytogfekjopelfbaa
