/- The walk of know.parse at a template that is made of quoted texts and fields. -/
import Derived.Test.YtfohehldkchnjaaTpFld
namespace Go.Proofs.Ytfohehldkchnjaa
open Go.RowKit

theorem infoFd : (Try.prog.info? 48).map (fun i => (i.zero, i.size, i.bytes)) = some (some (.agg fd0), 4, 56) := by kernel_rfl
def encF (f : Fd) : List Value := (fdV f).toList
/-- a slice of fields that a call has gathered -/
structure PsI (segs : List (List UInt8 × Fd)) (e : List UInt8) (r : Nat) (s : ByteArray) (w wr : World) (acc : List Fd) (rem : List (List UInt8 × Fd)) (lv : Value) (q : Nat) : Prop where
  split : readF segs e = acc ++ readF rem e
  short : acc.length + 2 * rem.length ≤ 2 * segs.length
  ok : ∀ x ∈ rem, FdOk x.2
  few : ∀ x ∈ rem, x.1.length ≤ 90000000
  le : q ≤ s.size
  rd : TR wr r s q
  rest : s.data.toList.drop q = tplT rem e
  own : wr.ownsRow r 48 4 lv acc.length (acc.flatMap encF)
  below : Below r w wr
theorem fld_start (f : Fd) (l : List UInt8) : ∃ x, fldT f ++ l = 123 :: x := ⟨_, rfl⟩

set_option maxRecDepth 100000 in
set_option maxHeartbeats 8000000 in
theorem parse_any (segs : List (List UInt8 × Fd)) (e : List UInt8) (s : ByteArray) (w : World) (hs : s.size ≤ 90000000) (hseg : segs.length ≤ 1000) (hok : ∀ x ∈ segs, FdOk x.2) (ht : s.data.toList = tplT segs e) (hlen : ∀ x ∈ segs, x.1.length ≤ 90000000) (hel : e.length ≤ 90000000) :
    Calls Try.prog 21 #[.string s] w fun en w' => ∃ a c q, en = .returned (.tuple #[.slice a (readF segs e).length c, .int .i64 q, .bool true]) ∧ w'.ownsRow w.heap.size 48 4 (.slice a (readF segs e).length c) (readF segs e).length ((readF segs e).flatMap encF) ∧ Below w.heap.size w w' := by
  have hbx := box1 w #[.string s, .int .i64 0, .bool false] 86
  have HI0 := Lib.hid (show PsI segs e w.heap.size s w (w.alloc (.cells #[.string s, .int .i64 0, .bool false] 86)) [] segs (.slice none 0 0) 0 from
    ⟨rfl, by simp, hok, hlen, Nat.zero_le _, hbx.1, by simpa using ht, World.ownsRow_nil _ _ _ _, hbx.2⟩)
  clear hbx hok ht hlen
  go_enter Try.func21, Try.ntmps21
  go_upto_region 2 with fail
  generalize w.alloc (.cells #[.string s, .int .i64 0, .bool false] 86) = w1 at *
  generalize hrr : w.heap.size = r at *
  have HRR := Lib.hid hrr
  clear hrr
  go_wp2_with fail
  go_loopg [6] segs.length (fun n lv wr => ∃ acc rem q, n = rem.length ∧ rem.length ≤ segs.length ∧ PsI segs e r s w wr acc rem lv q)
  case atStart => exact ⟨[], segs, 0, rfl, Nat.le_refl _, HI0.out⟩
  case round =>
    obtain ⟨acc, rem, q, rfl, hrl, hP⟩ := hrel
    have HP := Lib.hid hP
    obtain ⟨la, lc, rfl⟩ := owns_slice hP.own
    clear hP HI0
    obtain ⟨t, rs, hd, hrs, htl, hcase⟩ : ∃ t rs, s.data.toList.drop q = quo t ++ rs ∧ (rs = [] ∨ ∃ x, rs = 123 :: x) ∧ t.length ≤ 90000000 ∧ ((rem = [] ∧ t = e ∧ rs = []) ∨ ∃ f rem', rem = (t, f) :: rem' ∧ rs = fldT f ++ tplT rem' e) := by
      have h := HP.out.rest
      cases rem with
      | nil => exact ⟨e, [], by rw [h]; simp [tplT], .inl rfl, hel, .inl ⟨rfl, rfl, rfl⟩⟩
      | cons x rem' =>
        obtain ⟨t, f⟩ := x
        exact ⟨t, _, h, .inr (fld_start f _), HP.out.few _ List.mem_cons_self, .inr ⟨f, rem', rfl, rfl⟩⟩
    have HTX := Lib.hid (text_any r s q t rs wr HP.out.rd HP.out.le hd hrs hs htl)
    have HD := Lib.hid hd
    have HCS := Lib.hid hcase
    clear hd hrs hcase
    go_wp2_with fail
    refine HTX.out.mono ?_
    rintro en w3 ⟨rfl, hm⟩
    obtain ⟨q3, hq3⟩ : ∃ n, n = q + (quo t).length := ⟨_, rfl⟩
    have HQ3 := Lib.hid hq3
    have hwr : r ≤ wr.heap.size := Nat.le_of_lt HP.out.rd.lt
    have HO3 := Lib.hid (owns_kept_has HP.out.own HP.out.rd (by decide) hm.grown)
    have HB3 := Lib.hid (below_grown HP.out.below hm.grown hwr (Nat.le_refl _))
    have HT3 := Lib.hid (show TR w3 r s q3 from by rw [hq3]; exact hm.rd)
    obtain ⟨acc2, hacc2⟩ : ∃ l, l = acc ++ txtF t := ⟨_, rfl⟩
    have HA2 := Lib.hid hacc2
    have hal : acc.length ≤ 2000 := by have := HP.out.short; omega
    clear hm hq3 hacc2 HTX
    go_upto_if 14 with fail
    go_cut [6] from 13 to 20 (fun lv wx => ∃ a c, lv = .slice a acc2.length c ∧ wx.ownsRow r 48 4 (.slice a acc2.length c) acc2.length (acc2.flatMap encF) ∧ TR wx r s q3 ∧ Below r w wx)
    case first =>
      have htl2 : (bs t).toList = t := by rw [ByteArray.toList_eq]; rfl
      generalize hgb : (!(bs t).toList.isEmpty) = gb at *
      rw [htl2] at hgb
      cases gb with
      | false =>
        have h0 : t = [] := by simpa using hgb
        have hac : acc2 = acc := by rw [HA2.out, h0]; simp [txtF]
        clear hgb h0
        go_wp2_with fail
        go_meet
        rw [hac]
        exact ⟨_, _, rfl, HO3.out, HT3.out, HB3.out⟩
      | true =>
        have h0 : t ≠ [] := by simpa using hgb
        have hac : acc2 = acc ++ [⟨[], 0, t, []⟩] := by rw [HA2.out]; unfold txtF; rw [if_neg h0]
        have HAC := Lib.hid hac
        have hrw3 : r ≤ w3.heap.size := Nat.le_of_lt HT3.out.lt
        clear h0 hac hgb
        go_wp2_with (at_builtin; go_must (refine append_one rfl _ _ 37 rfl r 48 (.agg fd0) 4 56 Try.underlying37 infoFd rfl (by decide) w3 w3 _ _ _ rfl HO3.out [.string ⟨#[]⟩, .int .u8 0, .string (bs t), .string ⟨#[]⟩] rfl rfl rfl (by simp [Value.oneCell']) (by omega) (by omega) hrw3 (Below.refl _ _) ?_); intro v' w5 ho hb5 hg5 hnn; obtain ⟨na, nc, rfl⟩ := owns_slice ho; have HO5 := Lib.hid ho; have HB5 := Lib.hid hb5; have HT5 := Lib.hid (show TR w5 r s q3 from Has.kept_own HT3.out HO3.out (by decide) hg5); clear ho hb5 hg5 hnn)
        go_meet
        refine ⟨na, nc, by rw [HAC.out, List.length_append]; rfl, ?_, HT5.out, HB3.out.trans (HB5.out.mono (Nat.le_refl _))⟩
        have h := HO5.out
        rw [HAC.out, List.length_append, List.flatMap_append]
        exact h
    case rest =>
      obtain ⟨na, nc, rfl, ho, ht, hb⟩ := hcut
      generalize wc = w6 at *
      have HO6 := Lib.hid ho
      have HT6 := Lib.hid ht
      have HB6 := Lib.hid hb
      obtain ⟨c0, c1, c2, f1⟩ := ht.cells
      clear ho ht hb HO3 HT3 HB3
      have hdq : s.data.toList.drop q3 = rs := by rw [HQ3.out]; exact more_drop _ _ HD.out
      have hq3s : q3 ≤ s.size := by rw [HQ3.out]; exact le_drop HP.out.le _ _ HD.out
      rcases HCS.out with ⟨hrem, hte, hrs⟩ | ⟨f, rem', hrem, hrs⟩
      · have hqe := end_drop hq3s (hdq.trans hrs)
        have HFIN := Lib.hid (show readF segs e = acc2 from by
          rw [HP.out.split, HA2.out, hrem, hte]
          rfl)
        have hz : ((q3 : Int) == (s.size : Int)) = true := by simp; omega
        have hz' : q3 = s.size := hqe
        clear hdq hrem hte hrs hqe
        go_upto_region 7 with fail
        go_quiet (fail)
        have HBQ := Lib.hid (drewN_below HB6.out nq)
        have HOQ := Lib.hid (owns_below HO6.out (drewN_below (Below.refl w6.heap.size w6) nq))
        go_wp2_with fail
        go_ret3
        rw [HFIN.out, HRR.out]
        exact ⟨na, nc, _, rfl, HOQ.out, HBQ.out⟩
      · have hdq2 := hdq.trans hrs
        have hl3 : q3 < s.size := (at_drop (show s.data.toList.drop q3 = 123 :: _ from hdq2)).1.1
        have hne : ((q3 : Int) == (s.size : Int)) = false := by simp; omega
        have hne' : ¬ q3 = s.size := by omega
        have HFL := Lib.hid (field_any r s q3 f (tplT rem' e) w6 (HP.out.ok _ (by rw [hrem]; exact List.mem_cons_self)) HT6.out hq3s hdq2 hs)
        have HSPL := Lib.hid (show readF segs e = (acc2 ++ [f]) ++ readF rem' e from by
          rw [HP.out.split, HA2.out, hrem]
          simp [readF])
        have HSH := Lib.hid (show (acc2 ++ [f]).length + 2 * rem'.length ≤ 2 * segs.length from by
          have h := HP.out.short
          rw [hrem] at h
          have h2 : (txtF t).length ≤ 1 := by unfold txtF; split <;> simp
          rw [HA2.out]
          simp at h ⊢
          omega)
        have HOK := Lib.hid (show ∀ x ∈ rem', FdOk x.2 from fun x hx => HP.out.ok x (by rw [hrem]; exact List.mem_cons_of_mem _ hx))
        have HFW := Lib.hid (show ∀ x ∈ rem', x.1.length ≤ 90000000 from fun x hx => HP.out.few x (by rw [hrem]; exact List.mem_cons_of_mem _ hx))
        have hrl2 : rem'.length < rem.length := by rw [hrem]; simp
        have hdr := more_drop _ _ hdq2
        have hle := le_drop hq3s _ _ hdq2
        obtain ⟨q4, hq4⟩ : ∃ n, n = q3 + (fldT f).length := ⟨_, rfl⟩
        rw [← hq4] at HFL hdr hle
        have HDR := Lib.hid hdr
        have ha2l : acc2.length ≤ 3000 := by
          have h := HSH.out
          rw [List.length_append] at h
          omega
        clear hdq hdq2 hrem hrs hdr hq4
        go_wp2_with fail
        refine HFL.out.mono ?_
        rintro en w7 ⟨rfl, hm⟩
        have hrw6 : r ≤ w6.heap.size := Nat.le_of_lt HT6.out.lt
        have HO7 := Lib.hid (owns_kept_has HO6.out HT6.out (by decide) hm.grown)
        have HB7 := Lib.hid (below_grown HB6.out hm.grown hrw6 (Nat.le_refl _))
        have HT7 := Lib.hid hm.rd
        have hrw7 : r ≤ w7.heap.size := Nat.le_of_lt HT7.out.lt
        unfold fdV
        clear hm HFL HO6 HT6 HB6 c0 c1 c2 f1
        go_wp2_with (at_builtin; go_must (refine append_one rfl _ _ 37 rfl r 48 (.agg fd0) 4 56 Try.underlying37 infoFd rfl (by decide) w7 w7 _ _ _ rfl HO7.out [.string (bs f.name), .int .u8 f.kind, .string (bs f.one), .string (bs f.two)] rfl rfl rfl (by simp [Value.oneCell']) (by omega) (by omega) hrw7 (Below.refl _ _) ?_); intro v' w8 ho hb8 hg8 hnn; obtain ⟨na2, nc2, rfl⟩ := owns_slice ho; have HO8 := Lib.hid ho; have HB8 := Lib.hid hb8; have HT8 := Lib.hid (show TR w8 r s q4 from Has.kept_own HT7.out HO7.out (by decide) hg8); have y0 := HT8.out.cells.1; have y1 := HT8.out.cells.2.1; have y2 := HT8.out.cells.2.2.1; clear ho hb8 hg8 hnn)
        have HZ := Lib.hid (show PsI segs e r s w w8 (acc2 ++ [f]) rem' (.slice na2 (acc2.length + 1) nc2) q4 from
          ⟨HSPL.out, HSH.out, HOK.out, HFW.out, hle, HT8.out, HDR.out, by
            have h := HO8.out
            rw [List.length_append, List.flatMap_append]
            exact h, HB7.out.trans HB8.out⟩)
        go_roundg rem'.length
        case measure => exact hrl2
        case rel => exact ⟨_, _, _, rfl, by omega, HZ.out⟩
end Go.Proofs.Ytfohehldkchnjaa
