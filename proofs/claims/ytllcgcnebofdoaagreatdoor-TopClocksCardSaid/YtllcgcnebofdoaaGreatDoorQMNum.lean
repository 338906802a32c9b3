/- The walks of cal's numbers: Itoa, number, at the numerals that are written. -/
import Derived.Test.YtllcgcnebofdoaaGreatDoorQCalChk
import Derived.Test.YtllcgcnebofdoaaGreatDoorQCkSt
import Derived.Test.YtllcgcnebofdoaaGreatDoorShelf
import Derived.Lib.AppendIntMem
import Derived.WalkSmall
import Derived.Lib.AtoiAll
import Derived.Shelf.Strconv.AtoiAll
namespace Go.Proofs.YtllcgcnebofdoaaGreatDoor
open Go.RowKit

def bs (l : List UInt8) : ByteArray := ⟨l.toArray⟩
theorem bs_data (l : List UInt8) : (bs l).data.toList = l := rfl
theorem bs_size (l : List UInt8) : (bs l).size = l.length := by simp [bs, ByteArray.size]
theorem bs_inj {a b : ByteArray} (h : a.data.toList = b.data.toList) : a = b := by
  cases a; cases b
  simp only at h
  congr 1
  exact Array.toList_inj.1 h
theorem bs_append (a b : List UInt8) : bs a ++ bs b = bs (a ++ b) := bs_inj (by simp [bs])

/-- what the library's own variables hold -/
structure Env (w : World) : Prop where
  ml : ∃ m, w.cell? ⟨0, 0, none⟩ = some (.int .i64 m)
  tab : Lib.TabIs Tryz.prog w "internal/strconv.uint64pow10" .u64 Lib.pow10Tab
theorem Env.below {w w' : World} (h : Env w) (hb : Below w.heap.size w w') : Env w' := by
  obtain ⟨m, hm⟩ := h.ml
  refine ⟨⟨m, (below_cell hb (World.block_lt_of_cell? w _ hm)).trans hm⟩, ?_⟩
  have hg : Tryz.prog.globalNamed "internal/strconv.uint64pow10" = some 1 := by kernel_rfl
  have ht := h.tab
  have hlt : 1 < w.heap.size := by
    unfold Lib.TabIs World.var? at ht
    rw [hg] at ht
    simp only [Option.bind_some] at ht
    rcases Nat.lt_or_ge 1 w.heap.size with h' | h'
    · exact h'
    · rw [Array.getElem?_eq_none h'] at ht; simp at ht
  exact var?_below hb hg hlt ht

theorem itoa_any (n : Int) (h0 : -9223372036854775808 ≤ n) (h1 : n ≤ 9223372036854775807) (w : World) (hE : Env w) :
    Calls Tryz.prog 22 #[.int .i64 n] w fun e w' => e = .returned (.string (bs (Lib.itoa n))) ∧ Below w.heap.size w w' :=
  (Tryz.strconv_Itoa n h0 h1 w hE.tab).mono fun _ _ ⟨h, k, os, hw⟩ => ⟨h, by rw [hw]; exact Lib.below_grow _ _ (Nat.le_refl _) _ _⟩
theorem trim_any (l : List UInt8) (w : World) :
    Calls Tryz.prog 69 #[.string (bs l), .string ⟨#[45]⟩] w fun e w' => e = .returned (.string (bs (Lib.trimPrefix l [45]))) ∧ w = w' :=
  (Tryz.strings_TrimPrefix (bs l) ⟨#[45]⟩ w).mono fun _ _ ⟨h, hw⟩ => ⟨h, hw.symm⟩
theorem atoi_any (n : Int) (hl : (Lib.itoa n).length ≤ 18) (w : World) :
    Calls Tryz.prog 91 #[.string (bs (Lib.itoa n))] w fun e w' => e = .returned (.tuple #[.int .i64 n, .nilIface]) ∧ Below w.heap.size w w' :=
  (Tryz.strconv_Atoi (bs (Lib.itoa n)) n (by rw [bs_size]; exact hl) (atoi_itoa n) w).mono fun _ _ ⟨h, t, hw⟩ => ⟨h, by rw [hw]; exact below_bytesWorld _ _ _⟩
theorem strcut_any (l : List UInt8) (c : UInt8) (hl : l.length < 4294967281) (w : World) (hE : Env w) :
    Calls Tryz.prog 39 #[.string (bs l), .string ⟨#[c]⟩] w fun e w' => e = .returned (.tuple #[.string (bs (Lib.cut l [c]).1), .string (bs (Lib.cut l [c]).2.1), .bool (Lib.cut l [c]).2.2]) ∧ Below w.heap.size w w' := by
  obtain ⟨m, hm⟩ := hE.ml
  exact (Tryz.strings_Cut (bs l) ⟨#[c]⟩ m w (by rw [bs_size]; exact hl) hm).mono fun _ _ ⟨h, n, hw⟩ => ⟨h, by rw [hw]; exact drewN_below (Below.refl _ _) n⟩

end Go.Proofs.YtllcgcnebofdoaaGreatDoor

/- The walks of level.number and level.numbers at the numerals that are written. -/
namespace Go.Proofs.YtllcgcnebofdoaaGreatDoor
open Go.RowKit

def wordV (x : List UInt8) : Value := .string (bs x)
/-- a block of words -/
def WordsB (w : World) (b : Nat) (ws : List (List UInt8)) : Prop := Has w b (ws.map wordV).toArray 9
theorem WordsB.cell {w : World} {b : Nat} {ws : List (List UInt8)} (h : WordsB w b ws) (j : Nat) (hj : j < ws.length) : w.cell? ⟨b, j, none⟩ = some (.string (bs (ws.getD j []))) := by
  have : (ws.map wordV).toArray[j]? = some (wordV (ws.getD j [])) := by simp [List.getD, hj]
  rw [Has.cell h j, this]
  rfl
theorem WordsB.below {w w' : World} {b : Nat} {ws : List (List UInt8)} {B : Nat} (h : WordsB w b ws) (hb : Below B w w') (hB : b < B) : WordsB w' b ws := Has.below h hb hB
theorem WordsB.slice {w : World} {b n c : Nat} {ws : List (List UInt8)} (h : WordsB w b ws) (hn : n = ws.length) (hc : n ≤ c) : SliceAt 1 strR w (.slice (some ⟨b, 0, none⟩) n c) (ws.map bs) := by
  subst hn
  refine .inr ⟨b, 0, c, by rw [List.length_map], by rw [List.length_map]; exact hc, Has.lt h, fun i hi => ?_⟩
  rw [List.length_map] at hi
  refine ⟨[.string (bs ws[i])], ⟨rfl, fun j hj => ?_⟩, by rw [List.getElem_map]; rfl⟩
  have hj0 : j = 0 := by simpa using hj
  subst hj0
  have := h.cell i hi
  rw [show ws.getD i [] = ws[i] by simp [List.getD, hi]] at this
  simpa using this

theorem parse_append : ∀ (l : List UInt8) (acc n : Nat) (r : List UInt8), Lib.parseUint10 acc l = .ok n → Lib.parseUint10 acc (l ++ r) = Lib.parseUint10 n r
  | [], acc, n, r, h => by
    simp only [Lib.parseUint10] at h
    injection h with h
    subst h; rfl
  | b :: l, acc, n, r, h => by
    simp only [Lib.parseUint10, List.cons_append] at h ⊢
    split at h
    · rename_i h1
      rw [if_pos h1]
      split at h
      · cases h
      · rename_i h2
        rw [if_neg h2]
        split at h
        · cases h
        · rename_i h3
          rw [if_neg h3]
          exact parse_append l _ n r h
    · cases h
theorem parse_digits (u : Nat) (hu : u < 10 ^ 18) : Lib.parseUint10 0 (Lib.decDigits u) = .ok u := by
  have hp : (10 : Nat) ^ 18 = 1000000000000000000 := by decide
  induction u using Nat.strongRecOn with
  | _ u ih =>
    by_cases h : u < 10
    · rw [decDigits_small h]
      simp only [Lib.parseUint10, digit_byte h]
      rw [if_pos (by omega), if_neg (by omega), if_neg (by omega)]
      congr 1; omega
    · rw [decDigits_big h, parse_append _ _ _ _ (ih (u / 10) (by omega) (by omega))]
      simp only [Lib.parseUint10, digit_byte (d := u % 10) (by omega)]
      rw [if_pos (by omega), if_neg (by omega), if_neg (by omega)]
      congr 1; omega
theorem atoiAll_itoa (n : Int) (h : n.natAbs < 10 ^ 18) : Lib.atoiAll (Lib.itoa n) = .ok n := by
  have hp : (10 : Nat) ^ 18 = 1000000000000000000 := by decide
  have hm : Lib.parseMag (Lib.decDigits n.natAbs) = .ok n.natAbs := by
    unfold Lib.parseMag
    rw [if_neg (decDigits_ne _), parse_digits _ h]
  unfold Lib.itoa
  by_cases hn : n < 0
  · rw [if_pos hn]
    unfold Lib.atoiAll
    simp only [show ((45 : UInt8).toNat = 43 ∨ (45 : UInt8).toNat = 45) from .inr rfl, if_true, hm]
    have e : (45 : UInt8).toNat = 45 := rfl
    simp only [e, not_true, false_and, if_false, true_and, if_true]
    rw [if_neg (by omega)]
    congr 1; omega
  · rw [if_neg hn, show n.toNat = n.natAbs by omega]
    obtain ⟨b, r, hd, h1, h2⟩ := decNat_ne_sign n.natAbs
    unfold Lib.atoiAll
    rw [hd]
    have e1 : b.toNat ≠ 45 := fun g => h1 (UInt8.toNat_inj.1 g)
    have e2 : b.toNat ≠ 43 := fun g => h2 (UInt8.toNat_inj.1 g)
    rw [hd] at hm
    simp only [e1, e2, or_self, if_false, hm, not_false_eq_true, true_and, false_and]
    rw [if_neg (by omega)]
    congr 1; omega
theorem itoa_19 (n : Int) (h : n.natAbs < 10 ^ 18) : (Lib.itoa n).length ≤ 19 := by
  have hln := itoa_len n 17 h
  rw [trim_itoa] at hln
  unfold Lib.itoa
  split
  · rw [List.length_cons]; omega
  · rw [show n.toNat = n.natAbs by omega]; omega
theorem atoi_all (n : Int) (h : n.natAbs < 10 ^ 18) (w : World) :
    Calls Tryz.prog 91 #[.string (bs (Lib.itoa n))] w fun e w' => e = .returned (.tuple #[.int .i64 n, .nilIface]) ∧ Below w.heap.size w w' :=
  (Tryz.strconv_Atoi_ok (bs (Lib.itoa n)) (by rw [bs_size]; have := itoa_19 n h; omega) n (atoiAll_itoa n h) w).mono fun _ _ ⟨h, t⟩ => ⟨h, by
    rcases t with rfl | ⟨t, rfl⟩
    · exact Below.refl _ _
    · exact below_bytesWorld _ _ _⟩

set_option maxRecDepth 100000 in
set_option maxHeartbeats 1000000 in
theorem number_lev (n : Int) (k : Nat) (hn : n.natAbs < 10 ^ (k + 1)) (hk : k ≤ 17) (w : World) (hE : Env w) :
    Calls Tryz.prog 60 #[.string (bs (Lib.itoa n)), .int .i64 ((k + 1 : Nat) : Int)] w fun e w' => e = .returned (.tuple #[.int .i64 n, .bool true]) ∧ Below w.heap.size w w' := by
  have hp : 10 ^ (k + 1) ≤ 10 ^ 18 := Nat.pow_le_pow_right (by omega) (by omega)
  have hp2 : (10 : Nat) ^ 18 = 1000000000000000000 := by decide
  have hln := itoa_len n k hn
  have hi := fun W hW => itoa_any n (by omega) (by omega) W hW
  have ha := fun W => atoi_all n (by omega) W
  have ht := fun W => trim_any (Lib.itoa n) W
  have hts : ((bs (Lib.trimPrefix (Lib.itoa n) [45])).size : Int) ≤ ((k + 1 : Nat) : Int) := by rw [bs_size]; omega
  have HI := Lib.hid hi
  have HA := Lib.hid ha
  have HT := Lib.hid ht
  have HE := Lib.hid hE
  generalize bs (Lib.trimPrefix (Lib.itoa n) [45]) = t at *
  generalize bs (Lib.itoa n) = s at *
  have hq : decide ((k : Int) + 1 < (t.size : Int)) = false := by simp; omega
  have hq2 : decide (k + 1 < t.size) = false := by simp; omega
  clear hi ha ht hE hp hp2 hln hn
  go_enter Tryz.func60, Tryz.ntmps60
  go_wp2_with fail
  refine (HA.out w).mono ?_
  rintro e w1 ⟨rfl, hb1⟩
  have HB1 := Lib.hid hb1
  clear hb1
  go_wp2_with fail
  refine (HI.out w1 (HE.out.below HB1.out)).mono ?_
  rintro e w2 ⟨rfl, hb2⟩
  have HB2 := Lib.hid (below_up' HB1.out hb2)
  clear hb2
  go_wp2_with fail
  refine (HT.out w2).mono ?_
  rintro e w3 ⟨rfl, rfl⟩
  go_wp2_with fail
  go_ret2
  exact ⟨rfl, HB2.out⟩

structure NsInv (ns : List Int) (w wr : World) (v : Value) (i : Nat) : Prop where
  le : i ≤ ns.length
  row : wr.ownsRow w.heap.size 3 1 v i ((ns.take i).map (Value.int .i64))
  below : Below w.heap.size w wr
set_option maxRecDepth 100000 in
set_option maxHeartbeats 2000000 in
theorem numbers_lev (ns : List Int) (k : Nat) (hk : k ≤ 17) (hn : ∀ n ∈ ns, n.natAbs < 10 ^ (k + 1)) (hl : ns.length ≤ 1000000) (v : Value) (w : World) (hE : Env w) (h : SliceAt 1 strR w v (ns.map fun n => bs (Lib.itoa n))) :
    Calls Tryz.prog 26 #[v, .int .i64 ((k + 1 : Nat) : Int)] w fun e w' => (∃ vl, e = .returned (.tuple #[vl, .bool true]) ∧ w'.ownsRow w.heap.size 3 1 vl ns.length (ns.map (Value.int .i64))) ∧ Below w.heap.size w w' := by
  obtain ⟨a, cap, rfl⟩ := SliceAt.len h
  rw [List.length_map] at h ⊢
  have H := Lib.hid h
  have HE := Lib.hid hE
  have HN := Lib.hid hn
  obtain ⟨D, hD⟩ : ∃ D : Int, ((k + 1 : Nat) : Int) = D := ⟨_, rfl⟩
  rw [hD]
  have HNL := Lib.hid (show ∀ (n : Int), n.natAbs < 10 ^ (k + 1) → ∀ W, Env W → Calls Tryz.prog 60 #[.string (bs (Lib.itoa n)), .int .i64 D] W fun e w' => e = .returned (.tuple #[.int .i64 n, .bool true]) ∧ Below W.heap.size W w' from fun n hn W hW => by
    rw [← hD]
    exact number_lev n k hn hk W hW)
  clear hD
  have HI0 := Lib.hid (show NsInv ns w w (.slice none 0 0) 0 from ⟨Nat.zero_le _, World.ownsRow_nil _ _ _ _, Below.refl _ _⟩)
  clear h hE hn
  go_enter Tryz.func26, Tryz.ntmps26
  go_wp2_with fail
  go_loopw [6, 13] (fun lv iv wr => ∃ i : Nat, iv = .int .i64 ((i : Nat) : Int) ∧ NsInv ns w wr lv i) (fun _ iv _ => ns.length - (intOf iv).toNat)
  case atStart => exact ⟨0, rfl, HI0.out⟩
  case round =>
    obtain ⟨i, rfl, hI⟩ := hrel
    obtain ⟨la, lc, rfl⟩ := owns_slice hI.row
    have HI := Lib.hid hI
    have hi := hI.le
    clear hI HI0
    by_cases hlt : i < ns.length
    · have hlt2 : i < (ns.map fun n => bs (Lib.itoa n)).length := by rw [List.length_map]; exact hlt
      obtain ⟨b, of', cap', hv, hcp, hb, hel⟩ := SliceAt.at H.out (by omega)
      rw [List.length_map] at hv
      cases hv
      have c0 : wr.cell? ⟨b, of' + i, none⟩ = some (.string (bs (Lib.itoa ns[i]))) := by
        have := (below_cell HI.out.below hb).trans (strs_cell hel i _ (List.getElem?_eq_getElem hlt2))
        rwa [List.getElem_map] at this
      have hn1 := HN.out _ (List.getElem_mem hlt)
      have HNX := Lib.hid (show (ns.take (i + 1)).map (Value.int .i64) = (ns.take i).map (Value.int .i64) ++ [.int .i64 ns[i]] by rw [List.take_succ_eq_append_getElem hlt, List.map_append]; rfl)
      clear hel hlt2 hcp
      generalize ns[i] = n at *
      have HNM := Lib.hid (fun W hW => HNL.out n hn1 W hW)
      clear hn1
      generalize bs (Lib.itoa n) = t at *
      go_wp2_with fail
      refine (HNM.out wr (HE.out.below HI.out.below)).mono ?_
      rintro e w4 ⟨rfl, hb4⟩
      have HB4 := Lib.hid (below_up HI.out.below hb4 HI.out.below.size)
      have hw4 := HB4.out.size
      have HO4 := Lib.hid (owns_below HI.out.row hb4)
      clear hb4 HNM c0
      go_wp2_with (at_builtin; go_must (refine append_one rfl _ _ 22 rfl w.heap.size 3 (.int .i64 0) 1 8 Tryz.underlying22 infoInt rfl (by decide) w4 w4 _ _ _ rfl HO4.out [.int .i64 n] rfl rfl rfl (by simp [Value.oneCell']) (by omega) (by omega) hw4 (Below.refl _ _) ?_); intro v' w6 ho hb6 hg6 hnn; have hg6 : w4.grownBy w6 (Value.slice la i lc).ownBlock := hg6; obtain ⟨a2, c2, rfl⟩ := owns_slice ho; have HO6 := Lib.hid ho; have HB6 := Lib.hid hb6; clear ho hg6 hb6 hnn)
      have HIN := Lib.hid (show NsInv ns w w6 (.slice a2 (i + 1) c2) (i + 1) from ⟨hlt, by rw [HNX.out]; exact HO6.out, HB4.out.trans HB6.out⟩)
      go_roundw
      case rel => exact ⟨i + 1, by go_num, HIN.out⟩
      case measure => simp [intOf]; omega
    · obtain rfl : i = ns.length := by omega
      have hr := HI.out.row
      rw [List.take_length] at hr
      have HR := Lib.hid hr
      clear hr
      go_wp2_with fail
      go_ret2
      exact ⟨⟨_, rfl, HR.out⟩, HI.out.below⟩
end Go.Proofs.YtllcgcnebofdoaaGreatDoor

/- strings.Split at a text of words, and at a text whose first word is known. -/
namespace Go.Proofs.YtllcgcnebofdoaaGreatDoor
open Go.RowKit

theorem map_inj_data : ∀ {a b : List ByteArray}, a.map (fun x => x.data.toList) = b.map (fun x => x.data.toList) → a = b
  | [], [], _ => rfl
  | [], _ :: _, h => by simp at h
  | _ :: _, [], h => by simp at h
  | x :: a, y :: b, h => by
    simp only [List.map_cons, List.cons.injEq] at h
    rw [bs_inj h.1, map_inj_data h.2]
theorem split_words (w0 : List UInt8) (ws : List (List UInt8)) (hc : ∀ x ∈ w0 :: ws, (32 : UInt8) ∉ x) (hl : (Lib.join (w0 :: ws) [32]).length ≤ 1000000) (w : World) (hE : Env w) :
    Calls Tryz.prog 25 #[.string (bs (Lib.join (w0 :: ws) [32])), .string ⟨#[32]⟩] w fun e w' =>
      e = .returned (.slice (some ⟨w.heap.size, 0, none⟩) (ws.length + 1) (ws.length + 1)) ∧ Below w.heap.size w w' ∧ WordsB w' w.heap.size (w0 :: ws) := by
  obtain ⟨m, hm⟩ := hE.ml
  have c := Tryz.strings_Split (bs (Lib.join (w0 :: ws) [32])) ⟨#[32]⟩ m w (by rw [bs_size]; omega) hm (by decide)
  obtain ⟨h1, h2⟩ := split_join w0 ws hc
  have hs : Lib.splitB ⟨#[32]⟩ 0 (Lib.countB (bs (Lib.join (w0 :: ws) [32])) ⟨#[32]⟩) (bs (Lib.join (w0 :: ws) [32])) = (w0 :: ws).map bs := by
    refine map_inj_data ?_
    rw [Lib.splitB_data]
    show Lib.splitK [32] 0 (Lib.count (Lib.join (w0 :: ws) [32]) [32]) (Lib.join (w0 :: ws) [32]) = _
    rw [h1, List.map_map]
    exact (List.map_id' _).symm
  have hn : Lib.countB (bs (Lib.join (w0 :: ws) [32])) ⟨#[32]⟩ = ws.length := by
    have h := Lib.splitB_all ⟨#[32]⟩ (by decide) 0 _ (bs (Lib.join (w0 :: ws) [32])) rfl
    rw [hs, List.length_map, List.length_cons] at h
    omega
  rw [hs, hn, List.map_map] at c
  refine c.mono ?_
  rintro e w' ⟨rfl, rfl⟩
  exact ⟨rfl, (Below.refl _ _).alloc (Nat.le_refl _) _, Has.new _ _ _⟩
/-- only the first word is told -/
theorem split_first (w0 r : List UInt8) (hc : (32 : UInt8) ∉ w0) (hl : w0.length + r.length ≤ 1000000) (w : World) (hE : Env w) :
    Calls Tryz.prog 25 #[.string (bs (w0 ++ 32 :: r)), .string ⟨#[32]⟩] w fun e w' =>
      ∃ ws : List (List UInt8), e = .returned (.slice (some ⟨w.heap.size, 0, none⟩) (ws.length + 1) (ws.length + 1)) ∧ ws.length ≤ 1000001 ∧ Below w.heap.size w w' ∧ WordsB w' w.heap.size (w0 :: ws) := by
  obtain ⟨m, hm⟩ := hE.ml
  have hsz : (bs (w0 ++ 32 :: r)).size = w0.length + r.length + 1 := by rw [bs_size, List.length_append, List.length_cons]; omega
  have c := Tryz.strings_Split (bs (w0 ++ 32 :: r)) ⟨#[32]⟩ m w (by rw [hsz]; omega) hm (by decide)
  have hct : Lib.count (w0 ++ 32 :: r) [32] = Lib.count r [32] + 1 := by
    rw [Lib.count_one, Lib.count_one, List.count_append, List.count_eq_zero.2 hc, List.count_cons]
    simp
  have hsp : ∃ ws, Lib.splitK [32] 0 (Lib.count (w0 ++ 32 :: r) [32]) (w0 ++ 32 :: r) = w0 :: ws := by
    rw [hct]
    unfold Lib.splitK
    have hi := index_at 32 w0 r hc
    have hmm : ¬ (Lib.index (w0 ++ 32 :: r) [32] == -1) = true := fun g => by rw [hi] at g; have := beq_iff_eq.1 g; omega
    rw [if_neg hmm, hi]
    refine ⟨Lib.splitK [32] 0 (Lib.count r [32]) r, ?_⟩
    simp only [Int.toNat_natCast, List.length_cons, List.length_nil, Nat.zero_add, Nat.add_zero]
    have h1 : (w0 ++ 32 :: r).take w0.length = w0 := by simp
    have h2 : (w0 ++ 32 :: r).drop (w0.length + 1) = r := by
      rw [List.drop_append]
      simp
    rw [h1, h2]
  obtain ⟨ws, hws⟩ := hsp
  have hs : Lib.splitB ⟨#[32]⟩ 0 (Lib.countB (bs (w0 ++ 32 :: r)) ⟨#[32]⟩) (bs (w0 ++ 32 :: r)) = (w0 :: ws).map bs := by
    refine map_inj_data ?_
    rw [Lib.splitB_data]
    show Lib.splitK [32] 0 (Lib.count (w0 ++ 32 :: r) [32]) (w0 ++ 32 :: r) = _
    rw [hws, List.map_map]
    exact (List.map_id' _).symm
  have hn : Lib.countB (bs (w0 ++ 32 :: r)) ⟨#[32]⟩ = ws.length := by
    have h := Lib.splitB_all ⟨#[32]⟩ (by decide) 0 _ (bs (w0 ++ 32 :: r)) rfl
    rw [hs, List.length_map, List.length_cons] at h
    omega
  have hle : ws.length ≤ 1000001 := by
    have h1 : Lib.countB (bs (w0 ++ 32 :: r)) ⟨#[32]⟩ = Lib.count (w0 ++ 32 :: r) [32] := rfl
    have h2 : Lib.count r [32] ≤ r.length := by rw [Lib.count_one]; exact List.count_le_length
    rw [h1, hct] at hn
    omega
  rw [hs, hn, List.map_map] at c
  refine c.mono ?_
  rintro e w' ⟨rfl, rfl⟩
  exact ⟨ws, rfl, hle, (Below.refl _ _).alloc (Nat.le_refl _) _, Has.new _ _ _⟩
/-- words behind the first one, cut off -/
theorem words_cut {w : World} {b n : Nat} {w0 : List UInt8} {ws : List (List UInt8)} (h : WordsB w b (w0 :: ws)) (hn : n = ws.length) :
    SliceAt 1 strR w (.slice (if n + 1 = 1 then some ⟨b, 0, none⟩ else some ⟨b, 1, none⟩) n n) (ws.map bs) := by
  subst hn
  by_cases e : ws.length + 1 = 1
  · have e0 : ws = [] := List.eq_nil_of_length_eq_zero (by omega)
    subst e0
    exact .inl ⟨_, _, rfl, rfl⟩
  · rw [if_neg e]
    refine .inr ⟨b, 1, ws.length, by rw [List.length_map], by rw [List.length_map]; exact Nat.le_refl _, Has.lt h, fun i hi => ?_⟩
    rw [List.length_map] at hi
    refine ⟨[.string (bs ws[i])], ⟨rfl, fun j hj => ?_⟩, by rw [List.getElem_map]; rfl⟩
    have hj0 : j = 0 := by simpa using hj
    subst hj0
    have := h.cell (i + 1) (by rw [List.length_cons]; omega)
    rw [show (w0 :: ws).getD (i + 1) [] = ws[i] by simp [List.getD, hi]] at this
    rw [show 1 + i * 1 + 0 = i + 1 by omega]
    exact this
end Go.Proofs.YtllcgcnebofdoaaGreatDoor

/- level's readers at a text that is none. -/
namespace Go.Proofs.YtllcgcnebofdoaaGreatDoor
open Go.RowKit

set_option maxRecDepth 100000 in
set_option maxHeartbeats 2000000 in
theorem line_x (P : Nat) (w : World) (hE : Env w) :
    Calls Tryz.prog 40 #[.pointer (some ⟨P, 0, none⟩), .string ⟨#[120]⟩, .bool true] w fun e w' => e = .returned (.bool false) ∧ Below w.heap.size w w' := by
  have hsp : Calls Tryz.prog 25 #[.string ⟨#[120]⟩, .string ⟨#[32]⟩] w fun e w' => e = .returned (.slice (some ⟨w.heap.size, 0, none⟩) 1 1) ∧ Below w.heap.size w w' ∧ WordsB w' w.heap.size [[120]] := split_words [120] [] (by simp) (by decide) w hE
  have HSP := Lib.hid hsp
  clear hsp
  go_enter Tryz.func40, Tryz.ntmps40
  go_wp2_with fail
  refine HSP.out.mono ?_
  rintro e w3 ⟨rfl, hb3, hw3⟩
  have c0 : w3.cell? ⟨w.heap.size, 0, none⟩ = some (.string ⟨#[120]⟩) := hw3.cell 0 (by simp)
  have HB := Lib.hid hb3
  clear hb3 hw3
  go_wp2_with fail
  go_ret
  exact ⟨rfl, HB.out⟩
theorem results_cell_tmps_row {P : Program} {fn : Func} {p u v : Tmp} {ty : TypeId} (h : fn.results = #[.cell p ty, .tmp u, .tmp v]) (tmps : Array Value) (w : World) (g : Nat) (t : TypeId) (cs : Array Value) (fr : Nat × Nat) (d : TypeDesc)
    (hp : tmps.getD p undef = .pointer (some ⟨g, 0, none⟩)) (hg : w.heap[g]? = some (.cells cs t fr))
    (hu : P.underlying ty = some d) (hd : (match d with | .struct _ | .array _ _ => true | _ => false) = true) (hi : (P.info? ty).map (·.size) = some cs.size) :
    (results fn tmps).run P w = .ok (.tuple #[.agg cs, tmps.getD u undef, tmps.getD v undef]) w := by
  have hp' : tmps[p]?.getD undef = .pointer (some ⟨g, 0, none⟩) := by simpa using hp
  simp [results, h, Sem.run_bind, Result.andThen, hp', asAddr, run_loadVar_row w g t ty cs fr d hg hu hd hi]
theorem infoPol : (Tryz.prog.info? 25).map (·.size) = some 2 := by kernel_rfl
set_option maxRecDepth 100000 in
set_option maxHeartbeats 4000000 in
theorem ReadPolicy_x (w : World) (hE : Env w) :
    Calls Tryz.prog 17 #[.string ⟨#[120]⟩] w fun e w' => e = .returned (.tuple #[.agg #[.slice none 0 0, .slice none 0 0], .int .i64 1, .int .i64 8]) ∧ Below w.heap.size w w' := by
  have HE := Lib.hid hE
  have hcu := fun W hW => strcut_any [120] 10 (by decide) W hW
  rw [show Lib.cut [120] [10] = ([120], [], false) from cut_none 10 [120] (by decide)] at hcu
  have htn : (⟨#[120]⟩ : ByteArray).toList.isEmpty = false := by rw [ByteArray.toList_eq]; rfl
  have x1 := Has.new w #[.slice none 0 0, .slice none 0 0] 25
  have x2 := (Below.refl w.heap.size w).alloc (Nat.le_refl _) (.cells #[.slice none 0 0, .slice none 0 0] 25)
  have hz : (w.alloc (.cells #[.slice none 0 0, .slice none 0 0] 25)).heap.size = w.heap.size + 1 := by simp
  have y2 := (Below.refl (w.alloc (.cells #[.slice none 0 0, .slice none 0 0] 25)).heap.size (w.alloc (.cells #[.slice none 0 0, .slice none 0 0] 25))).alloc (Nat.le_refl _) (.cells #[.slice none 0 0, .slice none 0 0] 25)
  have HX := Lib.hid (x1.alloc (.cells #[.slice none 0 0, .slice none 0 0] 25))
  have HB := Lib.hid (below_up x2 y2 x2.size)
  have HLX := Lib.hid (fun P W hW => line_x P W hW)
  obtain ⟨T, hT⟩ : ∃ T : ByteArray, T = ⟨#[120]⟩ := ⟨_, rfl⟩
  have q0 : decide (400000 < (T.size : Int)) = false := by rw [hT]; decide
  have q1 : decide (400000 < T.size) = false := by rw [hT]; decide
  have hcu2 : (∀ W, Env W → Calls Tryz.prog 39 #[.string T, .string ⟨#[10]⟩] W fun e w' => e = .returned (.tuple #[.string T, .string ⟨#[]⟩, .bool false]) ∧ Below W.heap.size W w') := by rw [hT]; exact hcu
  have HCU := Lib.hid hcu2
  rw [← hT] at htn HLX ⊢
  clear hcu hcu2 hT hE x1 x2 y2 hz
  go_enter Tryz.func17, Tryz.ntmps17
  go_upto_region 4 with fail
  generalize (w.alloc (.cells #[.slice none 0 0, .slice none 0 0] 25)).alloc (.cells #[.slice none 0 0, .slice none 0 0] 25) = w2 at *
  go_wp2_with fail
  go_loopw [0, 6] (fun sv av wx => sv = .string T ∧ av = .int .i64 1 ∧ wx = w2) (fun _ _ _ => 0)
  case atStart => exact ⟨rfl, rfl, rfl⟩
  case round =>
    obtain ⟨rfl, rfl, rfl⟩ := hrel
    go_wp2_with fail
    refine (HCU.out wr (HE.out.below HB.out)).mono ?_
    rintro e w3 ⟨rfl, hb3⟩
    have HB3 := Lib.hid (below_up HB.out hb3 HB.out.size)
    have HX3 := Lib.hid (HX.out.below hb3 HX.out.lt)
    clear hb3 HCU HX HB
    go_wp2_with fail
    refine (HLX.out _ w3 (HE.out.below HB3.out)).mono ?_
    rintro e w4 ⟨rfl, hb4⟩
    have HB4 := Lib.hid (below_up HB3.out hb4 HB3.out.size)
    have HX4 := Lib.hid (HX3.out.below hb4 HX3.out.lt)
    clear hb4 HX3 HB3
    have r0 := HX4.out.cell 0
    have r1 := HX4.out.cell 1
    have f0 := HX4.out.fz 0
    have f1 := HX4.out.fz 1
    have HZ := Lib.hid (show Has _ w.heap.size #[.slice none 0 0, .slice none 0 0] 25 from (HX4.out.set 0 (.slice none 0 0)).set 1 (.slice none 0 0))
    have HBZ := Lib.hid ((HB4.out.setCell (p := ⟨w.heap.size, 0, none⟩) (Nat.le_refl _) (.slice none 0 0)).setCell (p := ⟨w.heap.size, 1, none⟩) (Nat.le_refl _) (.slice none 0 0))
    go_wp2_with fail
    try simp only [Exit.inBlock, Exit.then]
    refine bodyPost_ret (results_cell_tmps_row rfl _ _ w.heap.size _ _ (0, 0) _ rfl HZ.out Tryz.underlying25 rfl infoPol) rfl ?_
    exact ⟨rfl, HBZ.out⟩
set_option maxRecDepth 100000 in
theorem awakeLevel_any (w : World) (hE : Env w) : Calls Tryz.prog 6 #[] w fun e w' => e = .returned (.bool true) ∧ Below w.heap.size w w' := by
  go_enter Tryz.func6, Tryz.ntmps6
  go_wp2_with fail
  refine (ReadPolicy_x w hE).mono ?_
  rintro e w1 ⟨rfl, hb⟩
  have HB := Lib.hid (below_up hb (box1 w1 #[.slice none 0 0, .slice none 0 0] 25).2 hb.size)
  clear hb
  go_wp2_with fail
  go_ret
  exact ⟨rfl, HB.out⟩
end Go.Proofs.YtllcgcnebofdoaaGreatDoor
