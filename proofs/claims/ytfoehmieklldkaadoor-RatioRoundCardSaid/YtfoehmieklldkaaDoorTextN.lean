/- The walk of nat.text: a number's decimal numeral. -/
import Derived.Test.YtfoehmieklldkaaDoorBuild
import Derived.Test.YtfoehmieklldkaaDoorDecLaw
import Derived.Test.YtfoehmieklldkaaDoorStaff
import Derived.Lib.AppendIntMem
import Derived.WalkSmall
namespace Go.Proofs.YtfoehmieklldkaaDoor
open Go.RowKit

def bs (l : List UInt8) : ByteArray := ⟨l.toArray⟩
theorem bs_data (l : List UInt8) : (bs l).data.toList = l := rfl
theorem bs_size (l : List UInt8) : (bs l).size = l.length := by simp [bs, ByteArray.size]
theorem bs_inj {a b : ByteArray} (h : a.data.toList = b.data.toList) : a = b := by
  cases a; cases b
  simp only at h
  congr 1
  exact Array.toList_inj.1 h

/-- what the library's own table holds -/
structure Env (w : World) : Prop where
  tab : Lib.TabIs Tryd.prog w "internal/strconv.uint64pow10" .u64 Lib.pow10Tab
theorem Env.below {w w' : World} (h : Env w) (hb : Below w.heap.size w w') : Env w' := by
  refine ⟨?_⟩
  have hg : Tryd.prog.globalNamed "internal/strconv.uint64pow10" = some 2 := by kernel_rfl
  have ht := h.tab
  have hlt : 2 < w.heap.size := by
    unfold Lib.TabIs World.var? at ht
    rw [hg] at ht
    simp only [Option.bind_some] at ht
    rcases Nat.lt_or_ge 2 w.heap.size with h' | h'
    · exact h'
    · rw [Array.getElem?_eq_none h'] at ht; simp at ht
  exact var?_below hb hg hlt ht
theorem itoa_any (n : Int) (h0 : -9223372036854775808 ≤ n) (h1 : n ≤ 9223372036854775807) (w : World) (hE : Env w) :
    Calls Tryd.prog 92 #[.int .i64 n] w fun e w' => e = .returned (.string (bs (Lib.itoa n))) ∧ Below w.heap.size w w' :=
  (Tryd.strconv_Itoa n h0 h1 w hE.tab).mono fun _ _ ⟨h, k, os, hw⟩ => ⟨h, by rw [hw]; exact Lib.below_grow _ _ (Nat.le_refl _) _ _⟩

/-- a builder that holds these bytes -/
def BuildsAt (w : World) (B : Nat) (l : List UInt8) : Prop := Lib.IsBuilder 149 5 B B (Lib.byteCells l) w
theorem BuildsAt.below {w w' : World} {B : Nat} {l : List UInt8} (h : BuildsAt w B l) (hb : Below w.heap.size w w') : BuildsAt w' B l := by
  have key : ∀ p, Lib.BuilderAt 149 5 B B p (Lib.byteCells l) w → Lib.BuilderAt 149 5 B B p (Lib.byteCells l) w' := by
    rintro p h2
    have hlt := h2.lt
    obtain ⟨hB, v, hbk, hown, hne⟩ := h2
    exact ⟨hB, v, (hb.block B hlt).trans hbk, owns_below hown hb, hne⟩
  exact h.imp (key _) (key _)
theorem BuildsAt.lt {w : World} {B : Nat} {l : List UInt8} (h : BuildsAt w B l) : B < w.heap.size := by
  rcases h with h | h
  · exact h.lt
  · exact h.lt
theorem BuildsAt.new (w : World) : BuildsAt (w.alloc (.cells #[.pointer none, .slice none 0 0] 149)) w.heap.size [] :=
  .inl ⟨Nat.le_refl _, .slice none 0 0, heap_alloc_new _ _, World.ownsRow_nil _ _ _ _, by simp [Value.ownBlock]⟩
theorem write_any (B : Nat) (l s : List UInt8) (w : World) (h : BuildsAt w B l) (hlen : l.length + s.length ≤ 100000000) :
    Calls Tryd.prog 91 #[.pointer (some ⟨B, 0, none⟩), .string (bs s)] w fun e w' => e = .returned (.tuple #[.int .i64 (s.length : Nat), .nilIface]) ∧ BuildsAt w' B (l ++ s) ∧ Below B w w' := by
  refine (writeString_any B B (Lib.byteCells l) (bs s) w h (by rw [Lib.byteCells_length, bs_size]; omega) (Nat.le_of_lt h.lt)).mono ?_
  rintro e w' ⟨rfl, h1, h2⟩
  refine ⟨by rw [bs_size], .inr ?_, h2⟩
  have e : Lib.byteCells l ++ Lib.strCells (bs s) = Lib.byteCells (l ++ s) := by rw [Lib.byteCells_append]; rfl
  rw [e] at h1
  exact h1

theorem text_len (ds : List Int) (hd : Digs ds) (h0 : ds ≠ []) : (Lib.decDigits (val ds)).length ≤ 9 * ds.length := by
  have h1 := val_lt ds hd
  have hl := List.length_pos_iff.2 h0
  have e : bsN ^ ds.length = 10 ^ (9 * ds.length - 1 + 1) := by
    rw [show 9 * ds.length - 1 + 1 = 9 * ds.length by omega, Nat.pow_mul]
    rfl
  rw [e] at h1
  have := decDigits_len (9 * ds.length - 1) (val ds) h1
  omega
theorem text_step {ds : List Int} {j d : Nat} (hd : Digs ds) (hj : j < ds.length) (hdj : ds[j] = (d : Int)) (hpos : 0 < val (ds.drop (j + 1))) : Lib.decDigits (val (ds.drop j)) = Lib.decDigits (val (ds.drop (j + 1))) ++ padL 9 d := by
  have h1 := hd ds[j] (List.getElem_mem hj)
  rw [hdj] at h1
  have h2 := h1.2
  rw [List.drop_eq_getElem_cons hj, val, hdj, Int.toNat_natCast, Nat.add_comm, Nat.mul_comm]
  exact digits_pad 9 _ d hpos (by simp; omega)

def TextPost (n : Nat) (w : World) (e : Ending) (w' : World) : Prop := e = .returned (.string (bs (Lib.decDigits n))) ∧ Below w.heap.size w w'
structure TxM (ds : List Int) (w wr : World) (j : Nat) : Prop where
  b : BuildsAt wr w.heap.size (Lib.decDigits (val (ds.drop j)))
  below : Below w.heap.size w wr

set_option maxRecDepth 100000 in
set_option maxHeartbeats 2000000 in
theorem text_any (v : Value) (n K : Nat) (w : World) (h : NatAt w v n K) (hK : K ≤ 50000) (hE : Env w) :
    Calls Tryd.prog 76 #[v] w (TextPost n w) := by
  obtain ⟨ds, hs, hd, ht, hv, hl⟩ := h
  by_cases hne : ds = []
  · subst hne
    obtain ⟨a, cap, rfl⟩ := hs.len
    have h0 : n = 0 := by rw [← hv]; rfl
    subst h0
    have hp : TextPost 0 w (.returned (.string ⟨#[48]⟩)) w := ⟨by rw [decDigits_small (by omega)]; rfl, Below.refl _ _⟩
    have HP := Lib.hid hp
    rw [List.length_nil]
    clear hs hd ht hv hl hE hp
    go_enter Tryd.func76, Tryd.ntmps76
    go_wp2_with fail
    go_ret
    exact HP.out
  · obtain ⟨p, hp⟩ : ∃ p, ds.length = p + 1 := ⟨ds.length - 1, by have := List.length_pos_iff.2 hne; omega⟩
    have hlast := ht hne
    rw [List.getLast_eq_getElem] at hlast
    have e1 : ds.length - 1 = p := by omega
    simp only [e1] at hlast
    obtain ⟨g0, g1⟩ := hd ds[p] (List.getElem_mem (by omega))
    obtain ⟨t, ht1⟩ : ∃ t : Nat, ds[p] = t := ⟨(ds[p]).toNat, by omega⟩
    have ht0 : 0 < t := by omega
    have htB : t < 1000000000 := by omega
    obtain ⟨b, off, cap, hveq, hcp, hb, hel⟩ := SliceAt.at hs (by omega)
    rw [hp] at hveq hcp
    subst hveq
    have hdrop : val (ds.drop p) = t := by
      rw [List.drop_eq_getElem_cons (by omega), ht1, List.drop_of_length_le (by omega)]
      simp [val]
    have hposj : ∀ j, j ≤ p → 0 < val (ds.drop j) := by
      intro j hj
      have h1 : ds.drop j = (ds.drop j).take (p - j) ++ ds.drop p := by
        have h2 : (ds.drop j).drop (p - j) = ds.drop p := by rw [List.drop_drop]; congr 1; omega
        rw [← h2, List.take_append_drop]
      rw [h1, val_append, hdrop]
      have h3 := Nat.mul_pos (bs_pos ((ds.drop j).take (p - j)).length) ht0
      omega
    have hlenj : ∀ j, j ≤ p → (Lib.decDigits (val (ds.drop j))).length ≤ 900000 := by
      intro j hj
      have h1 := text_len (ds.drop j) (fun d hd' => hd d (List.mem_of_mem_drop hd')) (by
        intro h2
        have := congrArg List.length h2
        rw [List.length_drop, List.length_nil] at this
        omega)
      rw [List.length_drop] at h1
      omega
    have e0 := ints_cell hel p (t : Nat) (by rw [← ht1]; simp [hp])
    have HD := Lib.hid hd
    have HV := Lib.hid hv
    have HP := Lib.hid hp
    have HEL := Lib.hid hel
    have HDR := Lib.hid hdrop
    have HPJ := Lib.hid hposj
    have HLJ := Lib.hid hlenj
    have HE := Lib.hid hE
    have hpl : p ≤ 50000 := by omega
    have hIT : Lib.itoa ((t : Nat) : Int) = Lib.decDigits t := by
      unfold Lib.itoa
      rw [if_neg (by omega), Int.toNat_natCast]
    have hi := fun W hW => itoa_any ((t : Nat) : Int) (by omega) (by omega) W hW
    rw [hIT] at hi
    have HI := Lib.hid hi
    have hnew := BuildsAt.new w
    have hbl : Below w.heap.size w (w.alloc (.cells #[.pointer none, .slice none 0 0] 149)) := (Below.refl _ _).alloc (Nat.le_refl _) _
    have HNW := Lib.hid hnew
    have HBL := Lib.hid hbl
    have q1 : IntKind.i64.wrap ((p : Int) + 1 - 1) = (p : Int) := by rw [IntWalk.i64_in _ (by omega)]; omega
    have q2 : IntKind.i64.wrap ((p : Int) + 1 - 2) = (p : Int) - 1 := by rw [IntWalk.i64_in _ (by omega)]; omega
    have q3 : (p : Int) + 1 - 2 = (p : Int) - 1 := by omega
    clear hs hd ht hv hl hE hne hp hlast e1 g0 g1 ht1 hel hdrop hposj hlenj hIT hi hnew hbl
    go_enter Tryd.func76, Tryd.ntmps76
    go_upto_region 4 with fail
    generalize w.alloc (.cells #[.pointer none, .slice none 0 0] 149) = w2 at *
    have e2 := (below_cell HBL.out hb).trans e0
    clear e0
    go_wp2_with fail
    refine (HI.out w2 (HE.out.below HBL.out)).mono ?_
    rintro e w3 ⟨rfl, hb3⟩
    have HB3 := Lib.hid (below_up HBL.out hb3 HBL.out.size)
    have HW3 := Lib.hid (write_any w.heap.size [] (Lib.decDigits t) w3 (HNW.out.below hb3) (by
      have := HLJ.out p (Nat.le_refl _)
      rw [HDR.out] at this
      simp; omega))
    clear hb3 e2
    go_wp2_with fail
    refine HW3.out.mono ?_
    rintro e w4 ⟨rfl, hw4, hb4⟩
    have HM : Hid (TxM ds w w4 p) := Lib.hid ⟨by rw [HDR.out]; exact hw4, HB3.out.trans hb4⟩
    clear hw4 hb4
    go_wp2_with fail
    clear q1 q2 q3
    go_loopw [4] (fun iv wr => ∃ j : Nat, iv = .int .i64 ((j : Int) - 1) ∧ j ≤ p ∧ TxM ds w wr j) (fun iv _ => (intOf iv + 1).toNat)
    case atStart => exact ⟨p, rfl, Nat.le_refl _, HM.out⟩
    case round =>
      clear HM
      obtain ⟨j, rfl, hj, hM⟩ := hrel
      have HM := Lib.hid hM
      clear hM
      cases j with
      | succ j =>
        have hjl : j < ds.length := by have := HP.out; omega
        obtain ⟨g0, g1⟩ := HD.out ds[j] (List.getElem_mem hjl)
        obtain ⟨d, hdj⟩ : ∃ d : Nat, ds[j] = d := ⟨(ds[j]).toNat, by omega⟩
        have hst := text_step HD.out hjl hdj (HPJ.out (j + 1) hj)
        have HST := Lib.hid hst
        have e0 := (below_cell HM.out.below hb).trans (ints_cell HEL.out j (d : Nat) (by rw [← hdj]; simp [hjl]))
        rw [show ((j + 1 : Nat) : Int) - 1 = (j : Int) by omega]
        have hd9 : d < 1000000000 := by omega
        have hit := itoa_base hd9
        have hi := itoa_any ((1000000000 + d : Nat) : Int) (by omega) (by omega) wr (HE.out.below HM.out.below)
        rw [hit, show ((1000000000 + d : Nat) : Int) = 1000000000 + (d : Int) from by omega] at hi
        have HI2 := Lib.hid hi
        have hsz : (bs (49 :: padL 9 d)).size = 10 := by rw [bs_size, List.length_cons, padL_length]
        have hex : (bs (49 :: padL 9 d)).extract 1 10 = bs (padL 9 d) := bs_inj (by
          rw [Lib.extract_data, bs_data, bs_data]
          have h9 := padL_length 9 d
          first
            | (rw [List.take_of_length_le (by rw [List.length_cons, h9]; exact Nat.le_refl _)]; rfl)
            | (rw [List.drop_one, List.tail_cons]; exact List.take_of_length_le (by omega)))
        have HEX := Lib.hid hex
        have hjp : j ≤ p := by omega
        have hj1 : j < p + 1 := by omega
        clear hst hit hi hex g0 g1 hdj hjl
        go_wp2_with fail
        refine HI2.out.mono ?_
        rintro e w5 ⟨rfl, hb5⟩
        have HB5 := Lib.hid hb5
        have HW5 := Lib.hid (write_any w.heap.size (Lib.decDigits (val (ds.drop (j + 1)))) (padL 9 d) w5 (HM.out.b.below hb5) (by
          have := HLJ.out (j + 1) hj
          rw [padL_length]
          omega))
        have h1z : (1 : Nat) ≤ (bs (49 :: padL 9 d)).size := by omega
        generalize bs (49 :: padL 9 d) = z at *
        clear hb5 e0
        go_wp2_with fail
        rw [HEX.out]
        refine HW5.out.mono ?_
        rintro e w6 ⟨rfl, hw6, hb6⟩
        have HW6 : Hid (TxM ds w w6 j) := Lib.hid ⟨by rw [HST.out]; exact hw6, (below_up HM.out.below HB5.out HM.out.below.size).trans hb6⟩
        clear hw6 hb6
        go_wp2_with fail
        go_roundw
        case rel => exact ⟨j, rfl, hjp, HW6.out⟩
        case measure => simp [intOf]
      | zero =>
        rw [show ((0 : Nat) : Int) - 1 = (-1 : Int) from rfl]
        have hbu := HM.out.b
        have hwb : w.heap.size ≤ wr.heap.size := HM.out.below.size
        rw [List.drop_zero, HV.out] at hbu
        have HS := Lib.hid (Tryd.Builder_String_any w.heap.size w.heap.size (Lib.decDigits n) wr hbu hwb)
        clear hbu
        go_wp2_with fail
        refine HS.out.mono ?_
        rintro e w5 ⟨rfl, hb5⟩
        have HB5 := Lib.hid (HM.out.below.trans hb5)
        clear hb5
        go_wp2_with fail
        go_ret
        exact ⟨rfl, HB5.out⟩

end Go.Proofs.YtfoehmieklldkaaDoor
