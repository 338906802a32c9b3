/- The walks of know.Words and what it calls. -/
import Derived.Test.YtfohehldkchnjaaRows
import Derived.Test.YtfohehldkchnjaaBase
import Derived.BigQuiet
import Derived.Deep.QuietTactic
namespace Go.Proofs.Ytfohehldkchnjaa
open Go.RowKit

def isDigit (c : Int) : Bool := decide (48 ≤ c) && decide (c ≤ 57)
def isLetter (c : Int) : Bool := (decide (97 ≤ c) && decide (c ≤ 122)) || (decide (65 ≤ c) && decide (c ≤ 90))
def inWordI (c : Int) : Bool := isLetter c || isDigit c || decide (128 ≤ c)

theorem within_any (n lo hi : Int) (w : World) :
    Calls Try.prog 23 #[.int .i64 n, .int .i64 lo, .int .i64 hi] w fun e w' => e = .returned (.bool (decide (lo ≤ n) && decide (n ≤ hi))) ∧ w = w' := by
  go_enter Try.func23, Try.ntmps23
  go_wp2
  all_goals go_ret
  all_goals (refine ⟨ret_bool ?_, rfl⟩; simp; try omega)

theorem digit_any (c : Int) (w : World) :
    Calls Try.prog 29 #[.int .u8 c] w fun e w' => e = .returned (.bool (isDigit c)) ∧ w = w' := by
  go_enter Try.func29, Try.ntmps29
  go_wp2
  all_goals go_ret
  all_goals (refine ⟨ret_bool ?_, rfl⟩; simp [isDigit]; try omega)

theorem letter_any (c : Int) (w : World) :
    Calls Try.prog 28 #[.int .u8 c] w fun e w' => e = .returned (.bool (isLetter c)) ∧ w = w' := by
  go_enter Try.func28, Try.ntmps28
  go_wp2
  all_goals go_ret
  all_goals (refine ⟨ret_bool ?_, rfl⟩; simp [isLetter]; try omega)

theorem inWord_any (c : Int) (w : World) :
    Calls Try.prog 16 #[.int .u8 c] w fun e w' => e = .returned (.bool (inWordI c)) ∧ w = w' := by
  go_enter Try.func16, Try.ntmps16
  go_wp2_with (first
    | (go_at_call 28; refine (letter_any _ _).mono ?_; rintro e w' ⟨rfl, rfl⟩)
    | (go_at_call 29; refine (digit_any _ _).mono ?_; rintro e w' ⟨rfl, rfl⟩))
  all_goals go_ret
  all_goals (refine ⟨?_, rfl⟩; simp [inWordI, *])

/-- what 'lower' makes of a byte -/
def lowB (c : UInt8) : UInt8 := if 65 ≤ c.toNat ∧ c.toNat ≤ 90 then c + 32 else c
def lowS (s : ByteArray) : ByteArray := ⟨(s.data.toList.map lowB).toArray⟩
/-- the byte at place j, as a number, when the first k are made small -/
def lowAt (s : ByteArray) (k j : Nat) : Int := if j < k then ((lowB (s.data.toList.getD j 0)).toNat : Int) else ((s.data.toList.getD j 0).toNat : Int)

structure LowInv (w wr : World) (s : ByteArray) (k : Nat) : Prop where
  below : Below w.heap.size w wr
  cell : ∀ j, j < s.size → wr.cell? ⟨w.heap.size, j, none⟩ = some (.int .u8 (lowAt s k j))
  fz : ∀ j, j < s.size → wr.frozen? ⟨w.heap.size, j, none⟩ = false

theorem LowInv.start (w : World) (e : TypeId) (s : ByteArray) : LowInv w (Lib.bytesWorld w e s) s 0 :=
  ⟨below_bytesWorld w e s, fun j hj => by rw [Lib.bytesWorld_cell w e s j hj]; simp [lowAt], fun j hj => bytesWorld_fz w e s j hj⟩

theorem LowInv.keep {w wr : World} {s : ByteArray} {k : Nat} (h : LowInv w wr s k) (hk : lowB (s.data.toList.getD k 0) = s.data.toList.getD k 0) : LowInv w wr s (k + 1) :=
  ⟨h.below, fun j hj => by
    rw [h.cell j hj]
    by_cases e : j = k
    · subst e; simp only [lowAt]; rw [if_neg (by omega), if_pos (by omega), hk]
    · simp only [lowAt]
      by_cases g : j < k
      · rw [if_pos g, if_pos (by omega)]
      · rw [if_neg g, if_neg (by omega)], h.fz⟩

theorem LowInv.put {w wr : World} {s : ByteArray} {k : Nat} (h : LowInv w wr s k) (hks : k < s.size) {n : Int} (hn : n = ((lowB (s.data.toList.getD k 0)).toNat : Int)) :
    LowInv w (wr.setCell ⟨w.heap.size, k, none⟩ (.int .u8 n)) s (k + 1) :=
  ⟨h.below.setCell (Nat.le_refl _) _, fun j hj => by
    by_cases e : j = k
    · subst e
      rw [set_same (h.cell j hj)]
      simp only [lowAt]; rw [if_pos (by omega), hn]
    · rw [set_off (by omega), h.cell j hj]
      simp only [lowAt]
      by_cases g : j < k
      · rw [if_pos g, if_pos (by omega)]
      · rw [if_neg g, if_neg (by omega)], fun j hj => by rw [World.frozen?_setCell]; exact h.fz j hj⟩

theorem lowB_up {c : UInt8} (h1 : (65 : Int) ≤ (c.toNat : Int)) (h2 : (c.toNat : Int) ≤ 90) : ((lowB c).toNat : Int) = (c.toNat : Int) + 32 := by
  unfold lowB
  rw [if_pos ⟨by omega, by omega⟩]
  simp [UInt8.toNat_add]
  try omega
theorem lowB_not {c : UInt8} (h : (c.toNat : Int) < 65 ∨ 90 < (c.toNat : Int)) : lowB c = c := by
  unfold lowB
  rw [if_neg (by omega)]

theorem low_end (s : ByteArray) : strOfNums ((List.range s.size).map (lowAt s s.size)) = lowS s := by
  unfold strOfNums lowS
  congr 2
  apply List.ext_getElem
  · simp
  · intro i h1 h2
    have hi : i < s.size := by simpa using h1
    simp [lowAt, hi]

set_option maxRecDepth 100000 in
set_option maxHeartbeats 400000 in
theorem lower_any (s : ByteArray) (w : World) (hs : s.size ≤ 1048576) :
    Calls Try.prog 17 #[.string s] w fun e w' => e = .returned (.string (lowS s)) ∧ Below w.heap.size w w' := by
  have hcv := Lib.run_convert_string_bytes (P := Try.prog) w 9 44 5 s (u := .string) Try.underlying9 Try.underlying44 Try.underlying5
  go_enter Try.func17, Try.ntmps17
  go_wp2
  go_loopw [10] (fun i wr => ∃ k : Nat, k ≤ s.size ∧ i = .int .i64 k ∧ LowInv w wr s k) (fun i _ => s.size - (intOf i).toNat)
  case atStart => exact ⟨0, Nat.zero_le _, rfl, LowInv.start w _ s⟩
  case round =>
    obtain ⟨k, hk, rfl, hI⟩ := hrel
    by_cases hlt : k < s.size
    · have hc := hI.cell k hlt
      have hf := hI.fz k hlt
      have hb : lowAt s k k = ((s.data.toList.getD k 0).toNat : Int) := by simp [lowAt]
      rw [hb] at hc
      have hu : (s.data.toList.getD k 0).toNat < 256 := UInt8.toNat_lt _
      obtain ⟨c, hcc⟩ : ∃ c, c = s.data.toList.getD k 0 := ⟨_, rfl⟩
      rw [← hcc] at hc hu
      have HC := Lib.hid hcc
      have HI := Lib.hid hI
      clear hcc hI hb hcv
      go_wp2
      · go_roundw
        case rel =>
          refine ⟨k + 1, by omega, by go_num, HI.out.put hlt ?_⟩
          rw [← HC.out, lowB_up ‹_› ‹_›]; omega
        case measure => simp [intOf]; omega
      · go_roundw
        case rel =>
          refine ⟨k + 1, by omega, by go_num, HI.out.keep ?_⟩
          rw [← HC.out, lowB_not (Or.inr (by omega))]
        case measure => simp [intOf]; omega
      · go_roundw
        case rel =>
          refine ⟨k + 1, by omega, by go_num, HI.out.keep ?_⟩
          rw [← HC.out, lowB_not (Or.inl (by omega))]
        case measure => simp [intOf]; omega
    · obtain rfl : k = s.size := by omega
      have hback := run_convert_bytes_arg (P := Try.prog) wr 44 5 Try.underlying44 Try.underlying5 w.heap.size 0 s.size (grownCap w s.size 0 5)
        ((List.range s.size).map (lowAt s s.size)) (by simp) (fun i hi => by rw [Nat.zero_add, hI.cell i hi]; simp [hi]) 9 Try.underlying9
      rw [low_end] at hback
      have HI := Lib.hid hI
      clear hI hcv
      go_wp2
      go_ret
      exact ⟨rfl, HI.out.below⟩

/-! ### know.Words -/
def wordB (c : UInt8) : Bool := inWordI (c.toNat : Int)
def wordsF : Nat → List UInt8 → List (List UInt8)
  | 0, _ => []
  | n + 1, l =>
    if l = [] then [] else
      (if 0 < (l.takeWhile wordB).length ∧ (l.takeWhile wordB).length ≤ 30 then [(l.takeWhile wordB).map lowB] else []) ++ wordsF n (l.drop ((l.takeWhile wordB).length + 1))
/-- know.Words, on lists of bytes -/
def words (l : List UInt8) : List (List UInt8) := wordsF l.length l

theorem wordsF_eq : ∀ (n : Nat) (l : List UInt8), l.length ≤ n → wordsF n l = words l
  | 0, l, h => by
    have : l = [] := List.eq_nil_of_length_eq_zero (by omega)
    subst this; rfl
  | n + 1, l, h => by
    cases l with
    | nil => rfl
    | cons c r =>
      unfold words
      simp only [List.length_cons, wordsF, reduceCtorEq, if_false]
      rw [wordsF_eq n _ (by simp at h ⊢; omega), wordsF_eq r.length _ (by simp)]
theorem words_nil : words [] = [] := rfl
theorem words_step {l : List UInt8} (h : l ≠ []) :
    words l = (if 0 < (l.takeWhile wordB).length ∧ (l.takeWhile wordB).length ≤ 30 then [(l.takeWhile wordB).map lowB] else []) ++ words (l.drop ((l.takeWhile wordB).length + 1)) := by
  cases l with
  | nil => exact absurd rfl h
  | cons c r =>
    conv => lhs; unfold words
    simp only [List.length_cons, wordsF, reduceCtorEq, if_false]
    rw [wordsF_eq r.length _ (by simp)]

/-- the end of a run of bytes of words -/
theorem takeWhile_run {α : Type} (p : α → Bool) : ∀ (l : List α) (n : Nat), n ≤ l.length → (∀ j x, l[j]? = some x → j < n → p x = true) → (∀ x, l[n]? = some x → p x = false) → l.takeWhile p = l.take n
  | [], n, _, _, _ => by simp
  | x :: l, 0, _, _, h2 => by
    have := h2 x (by simp)
    simp [this]
  | x :: l, n + 1, hn, h1, h2 => by
    have hx : p x = true := h1 0 x (by simp) (by omega)
    rw [List.takeWhile_cons, if_pos hx, List.take_succ_cons, takeWhile_run p l n (by simpa using hn) (fun j y h hj => h1 (j + 1) y (by simpa using h) (by omega)) (fun y h => h2 y (by simpa using h))]

theorem words_len : ∀ (n : Nat) (l : List UInt8), (wordsF n l).length ≤ l.length
  | 0, l => by simp [wordsF]
  | n + 1, l => by
    unfold wordsF
    by_cases h : l = []
    · simp [h]
    · rw [if_neg h]
      have h1 := words_len n (l.drop ((l.takeWhile wordB).length + 1))
      have h2 : 0 < l.length := by cases l <;> simp_all
      rw [List.length_append]
      simp only [List.length_drop] at h1
      split <;> simp <;> omega

def strV (l : List UInt8) : Value := .string ⟨l.toArray⟩
theorem strV_data (s : ByteArray) : strV s.data.toList = .string s := by simp [strV]

theorem data_at (s : ByteArray) (k : Nat) (h : k < s.size) : s.data.toList[k]? = some s[k] := by
  rw [List.getElem?_eq_getElem (by simpa using h)]; rfl
/-- bytes i to k are bytes of words -/
def RunTo (s : ByteArray) (i k : Nat) : Prop := ∀ j x, s.data.toList[j]? = some x → i ≤ j → j < k → wordB x = true
theorem RunTo.step {s : ByteArray} {i k : Nat} (h : RunTo s i k) (hk : k < s.size) (hw : inWordI (s[k].toNat : Int) = true) : RunTo s i (k + 1) := by
  intro j x hj h1 h2
  by_cases e : j = k
  · subst e
    rw [data_at s j hk] at hj
    cases hj
    exact hw
  · exact h j x hj h1 (by omega)
/-- the run goes on, or it ends here -/
theorem run_or (s : ByteArray) (k : Nat) : (∃ h : k < s.size, inWordI (s[k].toNat : Int) = true) ∨ (s.size ≤ k ∨ ∃ h : k < s.size, inWordI (s[k].toNat : Int) = false) := by
  by_cases h : k < s.size
  · cases hw : inWordI (s[k].toNat : Int) with
    | true => exact .inl ⟨h, hw⟩
    | false => exact .inr (.inr ⟨h, hw⟩)
  · exact .inr (.inl (by omega))
theorem RunTo.stop {s : ByteArray} {i k : Nat} (h : RunTo s i k) (h1 : i ≤ k) (h2 : k ≤ s.size) (hs : s.size ≤ k ∨ ∃ h : k < s.size, inWordI (s[k].toNat : Int) = false) :
    (s.data.toList.drop i).takeWhile wordB = (s.extract i k).data.toList ∧ ((s.data.toList.drop i).takeWhile wordB).length = k - i := by
  have e : (s.data.toList.drop i).takeWhile wordB = (s.data.toList.drop i).take (k - i) := by
    refine takeWhile_run _ _ _ (by rw [List.length_drop]; exact Nat.sub_le_sub_right (by simpa using h2) i) ?_ ?_
    · intro j x hj hlt
      rw [List.getElem?_drop] at hj
      exact h (i + j) x hj (by omega) (by omega)
    · intro x hx
      rw [List.getElem?_drop, show i + (k - i) = k from by omega] at hx
      rcases hs with hs | ⟨hk, hw⟩
      · rw [List.getElem?_eq_none (by simpa using hs)] at hx
        cases hx
      · rw [data_at s k hk] at hx
        cases hx
        exact hw
  refine ⟨by rw [e, Lib.extract_data], ?_⟩
  rw [e, List.length_take, List.length_drop]
  have : s.data.toList.length = s.size := by simp
  omega

/-- what holds at the head of a round of Words -/
structure WordsInv (w wr : World) (s : ByteArray) (v : Value) (i : Nat) (acc : List (List UInt8)) : Prop where
  le : i ≤ s.size + 1
  own : wr.ownsRow w.heap.size 9 1 v acc.length (acc.map strV)
  below : Below w.heap.size w wr
  eq : acc ++ words (s.data.toList.drop i) = words s.data.toList

theorem extract_size (s : ByteArray) (i k : Nat) : (s.extract i k).size ≤ s.size := by
  rw [ByteArray.size_extract]; omega
theorem WordsInv.small {w wr : World} {s : ByteArray} {v : Value} {i : Nat} {acc : List (List UInt8)} (h : WordsInv w wr s v i acc) (hs : s.size ≤ 1048576) : acc.length ≤ 1048576 := by
  have h1 := congrArg List.length h.eq
  have h2 : (words s.data.toList).length ≤ s.data.toList.length := words_len _ _
  rw [List.length_append] at h1
  have h3 : s.data.toList.length = s.size := by simp
  omega
theorem WordsInv.skip {w wr : World} {s : ByteArray} {v : Value} {i k : Nat} {acc : List (List UInt8)} (h : WordsInv w wr s v i acc)
    (he : (s.data.toList.drop i).takeWhile wordB = (s.extract i k).data.toList ∧ ((s.data.toList.drop i).takeWhile wordB).length = k - i) (hlt : i < s.size) (hk : k ≤ s.size) (hno : ¬ (0 < k - i ∧ k - i ≤ 30) ∧ i ≤ k) :
    WordsInv w wr s v (k + 1) acc := by
  refine ⟨by omega, h.own, h.below, ?_⟩
  have hne : s.data.toList.drop i ≠ [] := by
    intro e
    have := congrArg List.length e
    simp at this
    have h3 : s.data.size = s.size := rfl
    omega
  have := h.eq
  rw [words_step hne, he.2, if_neg hno.1, List.drop_drop, List.nil_append, show i + (k - i + 1) = k + 1 from by omega] at this
  exact this
theorem WordsInv.add {w wr w' : World} {s : ByteArray} {v v' : Value} {i k : Nat} {acc : List (List UInt8)} (h : WordsInv w wr s v i acc)
    (he : (s.data.toList.drop i).takeWhile wordB = (s.extract i k).data.toList ∧ ((s.data.toList.drop i).takeWhile wordB).length = k - i) (hlt : i < s.size) (hpos : i < k) (h30 : k - i ≤ 30 ∧ k ≤ s.size)
    (ho : w'.ownsRow w.heap.size 9 1 v' (acc.length + 1) (acc.map strV ++ [strV (((s.extract i k).data.toList).map lowB)])) (hb : Below w.heap.size w w') :
    WordsInv w w' s v' (k + 1) (acc ++ [((s.extract i k).data.toList).map lowB]) := by
  refine ⟨by omega, by simpa using ho, hb, ?_⟩
  have hne : s.data.toList.drop i ≠ [] := by
    intro e
    have := congrArg List.length e
    simp at this
    have h3 : s.data.size = s.size := rfl
    omega
  have := h.eq
  rw [words_step hne, he.2, if_pos ⟨by omega, h30.1⟩, List.drop_drop, show i + (k - i + 1) = k + 1 from by omega, he.1] at this
  rw [← this, List.append_assoc]
theorem WordsInv.done {w wr : World} {s : ByteArray} {v : Value} {i : Nat} {acc : List (List UInt8)} (h : WordsInv w wr s v i acc) (hi : s.size ≤ i) :
    wr.ownsRow w.heap.size 9 1 v (words s.data.toList).length ((words s.data.toList).map strV) ∧ Below w.heap.size w wr := by
  have := h.eq
  rw [List.drop_eq_nil_of_le (by simpa using hi), words_nil, List.append_nil] at this
  rw [← this]
  exact ⟨h.own, h.below⟩
def wordsS (s : ByteArray) : List (List UInt8) := words s.data.toList
def WordsPost (s : ByteArray) (w : World) (e : Ending) (w' : World) : Prop :=
  ∃ a c, e = .returned (.slice a (wordsS s).length c) ∧ w'.ownsRow w.heap.size 9 1 (.slice a (wordsS s).length c) (wordsS s).length ((wordsS s).map strV) ∧ Below w.heap.size w w'
theorem WordsPost.mk' {s : ByteArray} {w w' : World} {v : Value} (h : w'.ownsRow w.heap.size 9 1 v (words s.data.toList).length ((words s.data.toList).map strV) ∧ Below w.heap.size w w') : WordsPost s w (.returned v) w' := by
  obtain ⟨a, c, rfl⟩ := owns_slice h.1
  exact ⟨a, c, rfl, h⟩
theorem infoStr : (Try.prog.info? 9).map (fun i => (i.zero, i.size, i.bytes)) = some (some (.string ⟨#[]⟩), 1, 16) := by kernel_rfl

set_option maxRecDepth 100000 in
set_option maxHeartbeats 800000 in
theorem Words_any (s : ByteArray) (w : World) (hs : s.size ≤ 1048576) :
    Calls Try.prog 8 #[.string s] w (WordsPost s w) := by
  go_enter Try.func8, Try.ntmps8
  go_wp2
  go_loopw [3, 4] (fun v iv wr => ∃ i acc, iv = .int .i64 (i : Nat) ∧ WordsInv w wr s v i acc) (fun _ i _ => s.size + 1 - (intOf i).toNat)
  case atStart => exact ⟨0, [], rfl, by omega, World.ownsRow_nil _ _ _ _, Below.refl _ _, by simp⟩
  case round =>
    obtain ⟨i, acc, rfl, hI⟩ := hrel
    have hi := hI.le
    have HI := Lib.hid hI
    clear hI
    by_cases hlt : i < s.size
    · go_wp2
      obtain ⟨wo, hwo⟩ : ∃ wo : World, wo = wr := ⟨_, rfl⟩
      subst hwo
      go_loop [5] (fun kv => ∃ k : Nat, i ≤ k ∧ k ≤ s.size ∧ kv = .int .i64 k ∧ RunTo s i k) (fun kv => s.size - (intOf kv).toNat)
      case atStart => exact ⟨i, by omega, by omega, rfl, fun j x _ h1 h2 => absurd h1 (by omega)⟩
      case round =>
        obtain ⟨k, hk1, hk2, rfl, hR⟩ := hrel
        have HR := Lib.hid hR
        clear hR
        rcases run_or s k with ⟨hks, hw⟩ | hstop
        · go_wp2_with (go_at_call 16; refine (inWord_any _ _).mono ?_; rintro e w' ⟨rfl, rfl⟩)
          go_round
          case rel => exact ⟨k + 1, by omega, by omega, by go_num, HR.out.step hks hw⟩
          case measure => simp [intOf]; omega
        · have HE := Lib.hid (HR.out.stop hk1 hk2 hstop)
          clear HR
          rcases hstop with hge | ⟨hks, hw⟩
          all_goals
            go_wp2_with (go_at_call 16; refine (inWord_any _ _).mono ?_; rintro e w' ⟨rfl, rfl⟩)
            · refine (lower_any _ _ (Nat.le_trans (extract_size s i k) hs)).mono ?_
              rintro e w2 ⟨rfl, hb2⟩
              have hown2 := Lib.hid (owns_below HI.out.own hb2)
              have hbel2 := Lib.hid (HI.out.below.trans (hb2.mono HI.out.below.size))
              have hB2 : w.heap.size ≤ w2.heap.size := Nat.le_trans HI.out.below.size hb2.size
              have hac := HI.out.small hs
              have hpos : i < k := by assumption
              have h30 : (k : Int) - (i : Int) ≤ 30 := by assumption
              clear hb2
              go_wp2_with (at_builtin; go_must (refine append_one rfl _ _ 22 rfl w.heap.size 9 (.string ⟨#[]⟩) 1 16 Try.underlying22 infoStr rfl (by decide) w w2 _ _ _ rfl hown2.out _ rfl rfl rfl (by simp [Value.oneCell']) (by omega) (by omega) hB2 hbel2.out ?_); intro v' w' ho hb _ _)
              refine ⟨⟨k + 1, acc ++ [((s.extract i k).data.toList).map lowB], by go_num, HI.out.add HE.out hlt hpos (by omega) ho hb⟩, ?_⟩
              simp [intOf]; omega
            all_goals
              refine ⟨⟨k + 1, acc, by go_num, HI.out.skip HE.out hlt hk2 (by omega)⟩, ?_⟩
              simp [intOf]; omega
    · go_wp2
      go_ret
      exact WordsPost.mk' (HI.out.done (by omega))

end Go.Proofs.Ytfohehldkchnjaa
