/- The walks of the reader of templates at text that stands as it should: must, escaped, text, choice. -/
import Derived.Test.YtfohehldkchnjaaCtW
import Derived.Test.YtfohehldkchnjaaTpLaw
import Derived.Test.YtfohehldkchnjaaWords
import Derived.Test.YtfohehldkchnjaaShelf
import Derived.Lib.IndexBytes
namespace Go.Proofs.Ytfohehldkchnjaa
open Go.RowKit

/-- the reader: its text, its place; nothing was wrong -/
def TR (w : World) (r : Nat) (s : ByteArray) (p : Nat) : Prop := Has w r #[.string s, .int .i64 (p : Nat), .bool false] 86
theorem TR.lt {w : World} {r : Nat} {s : ByteArray} {p : Nat} (h : TR w r s p) : r < w.heap.size := Has.lt h
theorem TR.to {w : World} {r : Nat} {s : ByteArray} {p : Nat} (h : TR w r s p) (n : Int) (q : Nat) (hn : n = q) : TR (w.setCell ⟨r, 1, none⟩ (.int .i64 n)) r s q := by
  subst hn
  exact Has.set h 1 _
theorem TR.below {w w' : World} {r : Nat} {s : ByteArray} {p B : Nat} (h : TR w r s p) (hb : Below B w w') (hr : r < B) : TR w' r s p := Has.below h hb hr
theorem TR.cells {w : World} {r : Nat} {s : ByteArray} {p : Nat} (h : TR w r s p) :
    w.cell? ⟨r, 0, none⟩ = some (.string s) ∧ w.cell? ⟨r, 1, none⟩ = some (.int .i64 (p : Nat)) ∧ w.cell? ⟨r, 2, none⟩ = some (.bool false) ∧ w.frozen? ⟨r, 1, none⟩ = false :=
  ⟨Has.cell h 0, Has.cell h 1, Has.cell h 2, Has.fz h 1⟩
/-- the reader's place and nothing else has turned -/
structure TMov (r : Nat) (s : ByteArray) (q : Nat) (w w' : World) : Prop where
  rd : TR w' r s q
  grown : w.grownBy w' (some r)
theorem TMov.trans {r : Nat} {s : ByteArray} {q t : Nat} {w w1 w2 : World} (h : TMov r s q w w1) (k : TMov r s t w1 w2) : TMov r s t w w2 := ⟨k.rd, grownBy_trans h.grown k.grown⟩
theorem BuildsAt.grown {w w' : World} {B r : Nat} {l : List UInt8} (h : BuildsAt w B l) (hg : w.grownBy w' (some r)) (hr : r < B) : BuildsAt w' B l := by
  have key : ∀ p, Lib.BuilderAt 46 5 B B p (Lib.byteCells l) w → Lib.BuilderAt 46 5 B B p (Lib.byteCells l) w' := by
    rintro p h2
    have hlt := h2.lt
    obtain ⟨hB, v, hbk, hown, hne⟩ := h2
    refine ⟨hB, v, (hg.block B hlt (fun e => by cases e; omega)).trans hbk, hown.kept hg ?_, hne⟩
    cases ho : v.ownBlock with
    | none => exact .inl rfl
    | some g =>
      refine .inr (fun e => ?_)
      have := (hown.lt g ho).1
      cases e
      omega
  exact h.imp (key _) (key _)

set_option maxRecDepth 100000 in
set_option maxHeartbeats 1000000 in
theorem must_any (r : Nat) (s : ByteArray) (p : Nat) (c : Int) (w : World) (hR : TR w r s p) (hlt : p < s.size) (hs : s.size ≤ 100000000) (hc : (s[p].toNat : Int) = c) :
    Calls Try.prog 45 #[.pointer (some ⟨r, 0, none⟩), .int .u8 c] w fun e w' => e = .returned (.tuple #[]) ∧ TMov r s (p + 1) w w' := by
  obtain ⟨c0, c1, c2, f1⟩ := hR.cells
  have HR := Lib.hid hR
  have hd : decide ((p : Int) < (s.size : Int)) = true := decide_eq_true (by omega)
  have hq : ((s[p].toNat : Int) == c) = true := by rw [hc]; simp
  clear hR hc
  go_enter Try.func45, Try.ntmps45
  go_wp2
  go_quiet (fail)
  go_wp2
  go_end0
  exact ⟨rfl, (HR.out.to _ (p + 1) (by omega)).drewN nq, grownBy_drewN (grownBy_set _ _ _ _) nq⟩
theorem extract_one (s : ByteArray) (i : Nat) (h : i < s.size) : s.extract i (i + 1) = bs [s[i]] := by
  apply ByteArray.ext
  rw [ByteArray.data_extract]
  apply Array.ext
  · simp [bs]
    omega
  · intro j h1 h2
    have hj : j = 0 := by simp [bs] at h2; exact h2
    subst hj
    simp [bs]
    rfl
set_option maxRecDepth 100000 in
set_option maxHeartbeats 2000000 in
theorem escaped_any (r : Nat) (s : ByteArray) (p p1 p2 : Nat) (e1 : p1 = p + 1) (e2 : p2 = p + 2) (w : World) (hR : TR w r s p) (hlt : p1 < s.size) (hs : s.size ≤ 100000000) (hx : s[p1] = 123 ∨ s[p1] = 92) :
    Calls Try.prog 43 #[.pointer (some ⟨r, 0, none⟩), .string ⟨#[123, 92]⟩] w fun e w' => e = .returned (.string (bs [s[p1]])) ∧ TMov r s p2 w w' := by
  obtain ⟨c0, c1, c2, f1⟩ := hR.cells
  have HE2 := Lib.hid e2
  have w1 : IntKind.i64.wrap ((p : Int) + 1) = (p1 : Int) := by rw [IntWalk.i64_in _ (by omega)]; omega
  have w2 : IntKind.i64.wrap ((p1 : Int) + 1) = (p2 : Int) := by rw [IntWalk.i64_in _ (by omega)]; omega
  have w3 : IntKind.i64.wrap ((p2 : Int) - 1) = (p1 : Int) := by rw [IntWalk.i64_in _ (by omega)]; omega
  have hne : ((p1 : Int) == (s.size : Int)) = false := by simp; omega
  have HR := Lib.hid hR
  have HR1 := Lib.hid (hR.to (p1 : Int) p1 rfl)
  have HR2 := Lib.hid ((hR.to (p1 : Int) p1 rfl).to (p2 : Int) p2 rfl)
  have HIX := Lib.hid (show ∃ n : Int, 0 ≤ n ∧ ∀ W, Calls Try.prog 54 #[.string ⟨#[123, 92]⟩, .int .u8 s[p1].toNat] W fun e w' => e = .returned (.int .i64 n) ∧ w' = W from by
    rcases hx with e | e
    · refine ⟨0, by omega, fun W => ?_⟩
      have h := Try.strings_IndexByte ⟨#[123, 92]⟩ (s[p1].toNat : Int) W
      rw [e] at h ⊢
      exact h
    · refine ⟨1, by omega, fun W => ?_⟩
      have h := Try.strings_IndexByte ⟨#[123, 92]⟩ (s[p1].toNat : Int) W
      rw [e] at h ⊢
      exact h)
  obtain ⟨n, hn, hix⟩ := HIX.out
  have HI := Lib.hid hix
  have qn : decide (n < 0) = false := decide_eq_false (by omega)
  have hb1 : (0 : Int) ≤ (p1 : Int) := by omega
  have hb2 : (p1 : Int) ≤ (p2 : Int) := by omega
  have hb3 : (p2 : Int) ≤ (s.size : Int) := by omega
  have HX := Lib.hid (show s.extract p1 p2 = bs [s[p1]] from by
    have e3 : p2 = p1 + 1 := by omega
    rw [e3]
    exact extract_one s p1 hlt)
  clear hR hx HIX hix e1 e2 hn
  go_enter Try.func43, Try.ntmps43
  go_upto_region 2 with fail
  have HG := Lib.hid (grownBy_set w r 1 (.int .i64 (p1 : Int)))
  generalize w.setCell ⟨r, 1, none⟩ (.int .i64 (p1 : Int)) = w4 at *
  go_cut [35] (fun v wx => v = .bool false ∧ TMov r s p1 w4 wx)
  case first =>
    go_region_held3 (fun W => W.cell? ⟨r, 0, none⟩ = some (.string s) ∧ W.cell? ⟨r, 1, none⟩ = some (.int .i64 (p1 : Int)))
      (first | exact ⟨HR1.out.cells.1, HR1.out.cells.2.1⟩ | fail)
      ((go_at_call 54; refine (HI.out _).mono ?_; rintro e w' ⟨rfl, rfl⟩))
    go_wp2
    go_meet
    exact ⟨rfl, HR1.out, grownBy_drew' (grownBy_refl _ _)⟩
  case rest =>
    obtain ⟨rfl, hm⟩ := hcut
    obtain ⟨d0, d1, d2, g1⟩ := hm.rd.cells
    have HM := Lib.hid hm
    have HM2 := Lib.hid (hm.rd.to (p2 : Int) p2 rfl)
    clear hm
    go_upto_region 6 with fail
    have HG2 := Lib.hid (grownBy_set wc r 1 (.int .i64 (p2 : Int)))
    generalize wc.setCell ⟨r, 1, none⟩ (.int .i64 (p2 : Int)) = w6 at *
    obtain ⟨d0, d1, d2, g1⟩ := HM2.out.cells
    go_quiet (fail)
    go_wp2
    go_ret
    exact ⟨by rw [HX.out]; rfl, HM2.out.drewN nq, grownBy_drewN (grownBy_trans (grownBy_trans HG.out HM.out.grown) HG2.out) nq⟩
theorem data_get' (s : ByteArray) {i : Nat} (h : i < s.size) : s.data.toList[i]'(by simpa using h) = s[i] := by simp; rfl
theorem at_drop {s : ByteArray} {q : Nat} {y : UInt8} {l : List UInt8} (h : s.data.toList.drop q = y :: l) : (∃ hq : q < s.size, s[q] = y) ∧ s.data.toList.drop (q + 1) = l := by
  have hq : q < s.size := by
    rcases Nat.lt_or_ge q s.size with g | g
    · exact g
    · rw [List.drop_eq_nil_of_le (by simpa using g)] at h
      cases h
  rw [List.drop_eq_getElem_cons (by simpa using hq)] at h
  refine ⟨⟨hq, ?_⟩, (List.cons.inj h).2⟩
  exact (data_get' s hq).symm.trans (List.cons.inj h).1
theorem end_drop {s : ByteArray} {q : Nat} (hq : q ≤ s.size) (h : s.data.toList.drop q = []) : q = s.size := by
  have := List.drop_eq_nil_iff.1 h
  have e : s.data.toList.length = s.size := by simp
  omega
theorem more_drop {s : ByteArray} {q : Nat} (u v : List UInt8) (h : s.data.toList.drop q = u ++ v) : s.data.toList.drop (q + u.length) = v := by
  rw [← List.drop_drop, h]
  simp
theorem le_drop {s : ByteArray} {q : Nat} (hq : q ≤ s.size) (u v : List UInt8) (h : s.data.toList.drop q = u ++ v) : q + u.length ≤ s.size := by
  have := congrArg List.length h
  rw [List.length_drop, List.length_append] at this
  have e : s.data.toList.length = s.size := by simp
  omega
/-- at the head of a round of 'text' -/
structure TxI (r : Nat) (s : ByteArray) (p : Nat) (t : List UInt8) (w wr : World) (a b : List UInt8) : Prop where
  split : t = a ++ b
  mov : TMov r s (p + (quo a).length) w wr
  bld : BuildsAt wr w.heap.size a

set_option maxRecDepth 100000 in
set_option maxHeartbeats 4000000 in
theorem text_any (r : Nat) (s : ByteArray) (p : Nat) (t rest : List UInt8) (w : World) (hR : TR w r s p) (hp : p ≤ s.size) (hd : s.data.toList.drop p = quo t ++ rest) (hrest : rest = [] ∨ ∃ x, rest = 123 :: x) (hs : s.size ≤ 90000000) (ht : t.length ≤ 90000000) :
    Calls Try.prog 33 #[.pointer (some ⟨r, 0, none⟩)] w fun e w' => e = .returned (.string (bs t)) ∧ TMov r s (p + (quo t).length) w w' := by
  have hr := hR.lt
  have HI0 := Lib.hid (show TxI r s p t w (w.alloc (.cells #[.pointer none, .slice none 0 0] 46)) [] t from
    ⟨rfl, ⟨Has.alloc hR _, grownBy_alloc' (grownBy_refl _ _) _⟩, BuildsAt.new w⟩)
  have HD := Lib.hid hd
  have HRS := Lib.hid hrest
  clear hR hd hrest
  go_enter Try.func33, Try.ntmps33
  go_wp2_with fail
  go_loopg [] t.length (fun n wr => ∃ a b, n = b.length ∧ TxI r s p t w wr a b)
  case atStart => exact ⟨[], t, rfl, HI0.out⟩
  case round =>
    obtain ⟨a, b, rfl, hI⟩ := hrel
    have HI := Lib.hid hI
    clear hI HI0
    obtain ⟨q, hq⟩ : ∃ q, q = p + (quo a).length := ⟨_, rfl⟩
    have HQ := Lib.hid hq
    have hspl := HI.out.split
    have hdr : s.data.toList.drop q = quo b ++ rest := by
      have h := HD.out
      rw [hspl, quo_append, List.append_assoc] at h
      rw [hq]
      exact more_drop _ _ h
    have hqs : q ≤ s.size := by
      have h := HD.out
      rw [hspl, quo_append, List.append_assoc] at h
      rw [hq]
      exact le_drop hp _ _ h
    have hTR : TR wr r s q := by rw [hq]; exact HI.out.mov.rd
    obtain ⟨c0, c1, c2, f1⟩ := hTR.cells
    have HTR := Lib.hid hTR
    have HSP := Lib.hid hspl
    clear hq hspl hTR
    cases b with
    | nil =>
      have hfin : TMov r s (p + (quo t).length) w wr := by
        have e : t = a := by rw [HSP.out]; simp
        rw [e]
        exact HI.out.mov
      have HF := Lib.hid hfin
      have HBT := Lib.hid (show BuildsAt wr w.heap.size t from by
        have e : t = a := by rw [HSP.out]; simp
        rw [e]
        exact HI.out.bld)
      clear hfin
      rw [quo_nil, List.nil_append] at hdr
      rcases HRS.out with e | ⟨x, e⟩
      · have hqe := end_drop hqs (hdr.trans e)
        have hlt : decide ((q : Int) < (s.size : Int)) = false := decide_eq_false (by omega)
        have hnl : ¬ q < s.size := by omega
        clear hdr hqe e
        go_upto_region 2 with fail
        go_quiet (fail)
        have HFQ := Lib.hid (show TMov r s (p + (quo t).length) w (wr.drewN nq) from ⟨HF.out.rd, grownBy_drewN HF.out.grown nq⟩)
        have HBQ := Lib.hid (HBT.out.below (drewN_below (Below.refl wr.heap.size wr) nq))
        generalize wr.drewN nq = wq at *
        go_wp2_with fail
        refine (Try.Builder_String_any w.heap.size w.heap.size t wq HBQ.out (Nat.le_of_lt HBQ.out.lt)).mono ?_
        rintro e w9 ⟨rfl, hb9⟩
        have HZ := Lib.hid (show TMov r s (p + (quo t).length) w w9 from ⟨HFQ.out.rd.below hb9 hr, grownBy_below HFQ.out.grown hb9 (Nat.le_refl _)⟩)
        clear hb9
        go_wp2_with fail
        go_ret
        exact ⟨rfl, HZ.out⟩
      · rw [e] at hdr
        obtain ⟨⟨hlt, hx⟩, _⟩ := at_drop hdr
        have hlt1 : decide ((q : Int) < (s.size : Int)) = true := decide_eq_true (by omega)
        have hx1 : s[q].toNat = 123 := by rw [hx]; rfl
        clear hdr e hx
        go_upto_region 2 with fail
        go_quiet (fail)
        have HFQ := Lib.hid (show TMov r s (p + (quo t).length) w (wr.drewN nq) from ⟨HF.out.rd, grownBy_drewN HF.out.grown nq⟩)
        have HBQ := Lib.hid (HBT.out.below (drewN_below (Below.refl wr.heap.size wr) nq))
        generalize wr.drewN nq = wq at *
        go_wp2_with fail
        refine (Try.Builder_String_any w.heap.size w.heap.size t wq HBQ.out (Nat.le_of_lt HBQ.out.lt)).mono ?_
        rintro e w9 ⟨rfl, hb9⟩
        have HZ := Lib.hid (show TMov r s (p + (quo t).length) w w9 from ⟨HFQ.out.rd.below hb9 hr, grownBy_below HFQ.out.grown hb9 (Nat.le_refl _)⟩)
        clear hb9
        go_wp2_with fail
        go_ret
        exact ⟨rfl, HZ.out⟩
    | cons c b' =>
      have hdr2 : s.data.toList.drop q = quoB c ++ (quo b' ++ rest) := by rw [hdr, quo_cons, List.append_assoc]
      clear hdr
      have HSP2 := Lib.hid (show t = (a ++ [c]) ++ b' by rw [HSP.out]; simp)
      have HQL := Lib.hid (show (quo (a ++ [c])).length = (quo a).length + (quoB c).length by rw [quo_append, List.length_append]; simp [quo])
      have hal : a.length + 1 ≤ 90000000 := by
        have h := congrArg List.length HSP2.out
        simp at h
        omega
      by_cases hesc : c = 123 ∨ c = 92
      · have hqb : quoB c = [92, c] := by rcases hesc with rfl | rfl <;> rfl
        rw [hqb] at hdr2
        obtain ⟨⟨hlt, hx⟩, hd1⟩ := at_drop hdr2
        obtain ⟨⟨hlt1, hx1⟩, _⟩ := at_drop hd1
        have hlt1' : decide ((q : Int) < (s.size : Int)) = true := decide_eq_true (by omega)
        have hxn : s[q].toNat = 92 := by rw [hx]; rfl
        obtain ⟨q1, hq1⟩ : ∃ n, n = q + 1 := ⟨_, rfl⟩
        obtain ⟨q2, hq2⟩ : ∃ n, n = q + 2 := ⟨_, rfl⟩
        have HX1 := Lib.hid (show ∃ h : q1 < s.size, s[q1] = c from by subst hq1; exact ⟨hlt1, hx1⟩)
        have HES := Lib.hid (fun (W : World) (hW : TR W r s q) => (show Calls Try.prog 43 #[.pointer (some ⟨r, 0, none⟩), .string ⟨#[123, 92]⟩] W fun e w' => e = .returned (.string (bs [c])) ∧ TMov r s q2 W w' from by
          obtain ⟨h1, h2⟩ := HX1.out
          have h := escaped_any r s q q1 q2 hq1 hq2 W hW h1 (by omega) (by rw [h2]; exact hesc)
          rw [h2] at h
          exact h))
        have HQ2 := Lib.hid (show q2 = p + (quo (a ++ [c])).length by rw [HQL.out, hqb, hq2, HQ.out]; simp; omega)
        clear hdr2 hd1 hx hx1 hlt1 hq1 hq2 hqb hesc
        go_upto_region 2 with fail
        go_quiet (fail)
        have HTQ := Lib.hid (show TR (wr.drewN nq) r s q from HTR.out)
        have HBQ := Lib.hid (HI.out.bld.below (drewN_below (Below.refl wr.heap.size wr) nq))
        have HGQ := Lib.hid (grownBy_drewN HI.out.mov.grown nq)
        generalize wr.drewN nq = wq at *
        obtain ⟨c0, c1, c2, f1⟩ := HTQ.out.cells
        go_upto_region 3 with fail
        go_quiet (fail)
        have HT3 := Lib.hid (show TR (wq.drewN nq) r s q from HTQ.out)
        have HB3 := Lib.hid (HBQ.out.below (drewN_below (Below.refl wq.heap.size wq) nq))
        have HG3 := Lib.hid (grownBy_drewN HGQ.out nq)
        generalize wq.drewN nq = w3 at *
        go_wp2_with fail
        refine (HES.out w3 HT3.out).mono ?_
        rintro e w4 ⟨rfl, hm⟩
        have HM := Lib.hid hm
        have HB4 := Lib.hid (HB3.out.grown hm.grown hr)
        have HWR := Lib.hid (write_any w.heap.size a [c] w4 HB4.out (by simp; omega))
        clear hm
        go_wp2_with fail
        refine HWR.out.mono ?_
        rintro e w5 ⟨rfl, hb5, hbl5, _⟩
        have HZ := Lib.hid (show TxI r s p t w w5 (a ++ [c]) b' from ⟨HSP2.out, ⟨by rw [← HQ2.out]; exact HM.out.rd.below hbl5 hr, grownBy_below (grownBy_trans HG3.out HM.out.grown) hbl5 (Nat.le_refl _)⟩, hb5⟩)
        clear hb5 hbl5 HWR
        go_wp2_with fail
        go_roundg b'.length
        case measure => simp
        case rel => exact ⟨_, _, rfl, HZ.out⟩
      · have hn1 : c ≠ 123 := fun e => hesc (.inl e)
        have hn2 : c ≠ 92 := fun e => hesc (.inr e)
        have hqb : quoB c = [c] := by unfold quoB; rw [if_neg hn1, if_neg hn2]
        rw [hqb] at hdr2
        obtain ⟨⟨hlt, hx⟩, _⟩ := at_drop hdr2
        have hlt1 : decide ((q : Int) < (s.size : Int)) = true := decide_eq_true (by omega)
        have hx1 : ((s[q].toNat : Int) == 123) = false := by
          rw [hx]
          simp
          intro g
          exact hn1 (UInt8.toNat_inj.1 (by show c.toNat = 123; omega))
        have hx2 : ((s[q].toNat : Int) == 92) = false := by
          rw [hx]
          simp
          intro g
          exact hn2 (UInt8.toNat_inj.1 (by show c.toNat = 92; omega))
        have hx3 : s[q].toNat ≠ 123 := by rw [hx]; exact fun g => hn1 (UInt8.toNat_inj.1 g)
        have hx4 : s[q].toNat ≠ 92 := by rw [hx]; exact fun g => hn2 (UInt8.toNat_inj.1 g)
        obtain ⟨q1, hq1⟩ : ∃ n, n = q + 1 := ⟨_, rfl⟩
        have w1 : IntKind.i64.wrap ((q : Int) + 1) = (q1 : Int) := by rw [IntWalk.i64_in _ (by omega)]; omega
        have HQ1 := Lib.hid (show q1 = p + (quo (a ++ [c])).length by rw [HQL.out, hqb, hq1, HQ.out]; simp; omega)
        have HX := Lib.hid hx
        clear hdr2 hx hq1 hqb hesc hn1 hn2
        go_upto_region 2 with fail
        go_quiet (fail)
        have HTQ := Lib.hid (show TR (wr.drewN nq) r s q from HTR.out)
        have HBQ := Lib.hid (HI.out.bld.below (drewN_below (Below.refl wr.heap.size wr) nq))
        have HGQ := Lib.hid (grownBy_drewN HI.out.mov.grown nq)
        generalize wr.drewN nq = wq at *
        obtain ⟨c0, c1, c2, f1⟩ := HTQ.out.cells
        go_upto_region 3 with fail
        go_quiet (fail)
        have HT3 := Lib.hid (show TR (wq.drewN nq) r s q from HTQ.out)
        have HB3 := Lib.hid (HBQ.out.below (drewN_below (Below.refl wq.heap.size wq) nq))
        have HG3 := Lib.hid (grownBy_drewN HGQ.out nq)
        generalize wq.drewN nq = w3 at *
        have HT3d := Lib.hid (show TR w3.drew r s q from HT3.out)
        have HWR := Lib.hid (fun (W : World) (hW : BuildsAt W w.heap.size a) => writeByte_any w.heap.size a c (s[q].toNat : Int) (by rw [HX.out]) W hW (by omega))
        go_upto_region 5 with fail
        go_cut [55] (fun v wx => v = .nilIface ∧ BuildsAt wx w.heap.size (a ++ [c]) ∧ TR wx r s q ∧ w.grownBy wx (some r))
        case first =>
          go_region_held3 (fun W => W.cell? ⟨r, 0, none⟩ = some (.string s) ∧ W.cell? ⟨r, 1, none⟩ = some (.int .i64 (q : Int)))
            (first | exact ⟨HT3.out.cells.1, HT3.out.cells.2.1⟩ | exact ⟨(TR.below HT3d.out hbl5 hr).cells.1, (TR.below HT3d.out hbl5 hr).cells.2.1⟩ | fail)
            ((go_at_call 44; refine (HWR.out _ (HB3.out.below (Below.refl _ _).drew)).mono ?_; rintro e w5 ⟨rfl, hb5, hbl5, _⟩))
          go_wp2
          go_meet
          exact ⟨rfl, hb5, TR.below HT3d.out hbl5 hr, grownBy_below (grownBy_drew' HG3.out) hbl5 (Nat.le_refl _)⟩
        case rest =>
          obtain ⟨rfl, hb5, ht5, hg5⟩ := hcut
          obtain ⟨d0, d1, d2, f2⟩ := ht5.cells
          have HZ := Lib.hid (show TxI r s p t w (wc.setCell ⟨r, 1, none⟩ (.int .i64 (q1 : Int))) (a ++ [c]) b' from
            ⟨HSP2.out, ⟨by rw [← HQ1.out]; exact ht5.to _ q1 rfl, grownBy_trans hg5 (grownBy_set _ _ _ _)⟩, hb5.grown (grownBy_set _ _ _ _) hr⟩)
          clear hb5 ht5 hg5
          go_wp2_with fail
          go_roundg b'.length
          case measure => simp
          case rel => exact ⟨_, _, rfl, HZ.out⟩
end Go.Proofs.Ytfohehldkchnjaa
