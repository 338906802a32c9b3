/- Plain laws of a policy's text: its lines, what they are cut and split into, and what a reader makes of them. No program in sight. -/
import Derived.Test.YtllcgcnebofdoaaGreatDoorQCkSt
namespace Go.Proofs.YtllcgcnebofdoaaGreatDoor

def pauseW : List UInt8 := [112, 97, 117, 115, 101]
def levelW : List UInt8 := [108, 101, 118, 101, 108]
def whenW : List UInt8 := [119, 104, 101, 110]
def kindsL : List (List UInt8) := [[110, 105, 108], [102, 108, 97, 103], [110, 117, 109, 98, 101, 114], [116, 101, 120, 116], [99, 104, 111, 105, 99, 101], [109, 111, 109, 101, 110, 116], [112, 101, 114, 115, 111, 110]]
def tgtsL : List (List UInt8) := [[102, 105, 114, 115, 116], [114, 101, 112, 108, 121], [115, 111, 108, 118, 101]]
def kindW (k : Int) : List UInt8 := kindsL.getD k.toNat []
def tgtW (k : Int) : List UInt8 := tgtsL.getD (k.toNat - 1) []
/-- the value of a test -/
def valT (t : TstD) : List UInt8 := if t.kind = 3 then t.text.data.toList else Lib.itoa t.num
def endT (t : TstD) : List UInt8 := if t.kind = 0 then kindW t.kind else kindW t.kind ++ 32 :: valT t
def restT (t : TstD) : List UInt8 := Lib.itoa t.fld ++ 32 :: endT t
def lineT (t : TstD) : List UInt8 := whenW ++ 32 :: restT t
def lineG (t : TgtD) : List UInt8 := Lib.join [tgtW t.1, Lib.itoa t.2.1, Lib.itoa t.2.2] [32]
def lineV (n : ByteArray) : List UInt8 := Lib.join [levelW, n.data.toList] [32]
def lineU (l : List Int) : List UInt8 := Lib.join (pauseW :: l.map Lib.itoa) [32]
/-- a line of a policy -/
inductive It where
  | pau (l : List Int)
  | lev (n : ByteArray)
  | tst (t : TstD)
  | tgt (t : TgtD)
def It.line : It → List UInt8
  | .pau l => lineU l
  | .lev n => lineV n
  | .tst t => lineT t
  | .tgt t => lineG t
def levIts (l : LevD) : List It := .lev l.name :: (l.tests.map .tst ++ l.tgts.map .tgt)
def polIts (p : PolD) : List It := .pau p.pauses :: p.levs.flatMap levIts
def textI (its : List It) : List UInt8 := its.flatMap fun x => x.line ++ [10]
theorem textI_cons (x : It) (r : List It) : textI (x :: r) = x.line ++ 10 :: textI r := by
  unfold textI
  rw [List.flatMap_cons, List.append_assoc]
  rfl
theorem textI_append (a b : List It) : textI (a ++ b) = textI a ++ textI b := List.flatMap_append
theorem textI_one (x : It) : textI [x] = x.line ++ [10] := by rw [textI_cons]; rfl

theorem getD_none {l : List (List UInt8)} {n : Nat} (h : l.length ≤ n) : l.getD n [] = [] := by simp [List.getD, List.getElem?_eq_none h]
/-! ### what a line may hold -/
def NumOk (t : TstD) : Prop := t.num.natAbs < 10 ^ 18
structure It.Ok (x : It) : Prop where
  pau : ∀ l, x = .pau l → l.length ≤ 4 ∧ ∀ n ∈ l, PauOne n
  lev : ∀ n, x = .lev n → nm n = true
  tst : ∀ t, x = .tst t → TstOne t ∧ NumOk t
  tgt : ∀ t, x = .tgt t → TgtOne t
theorem tx_no {l : List UInt8} (h : l.all txB = true) : (10 : UInt8) ∉ l := by
  intro g
  have := List.all_eq_true.1 h 10 g
  revert this
  decide
theorem kindW_no (k : Int) (b : UInt8) (h : b = 10 ∨ b = 32) : b ∉ kindW k := by
  unfold kindW
  rcases Nat.lt_or_ge k.toNat 7 with g | g
  · generalize k.toNat = m at *
    have : m = 0 ∨ m = 1 ∨ m = 2 ∨ m = 3 ∨ m = 4 ∨ m = 5 ∨ m = 6 := by omega
    rcases h with rfl | rfl <;> rcases this with rfl | rfl | rfl | rfl | rfl | rfl | rfl <;> decide
  · rw [getD_none (by exact g)]
    simp
theorem tgtW_no (k : Int) (b : UInt8) (h : b = 10 ∨ b = 32) : b ∉ tgtW k := by
  unfold tgtW
  rcases Nat.lt_or_ge (k.toNat - 1) 3 with g | g
  · generalize k.toNat - 1 = m at *
    have : m = 0 ∨ m = 1 ∨ m = 2 := by omega
    rcases h with rfl | rfl <;> rcases this with rfl | rfl | rfl <;> decide
  · rw [getD_none (by exact g)]
    simp
theorem valT_no {t : TstD} (h : TstOne t) : (10 : UInt8) ∉ valT t := by
  unfold valT
  split
  · exact tx_no h.bytes
  · exact itoa_clean _ _ (.inl rfl)
theorem endT_no {t : TstD} (h : TstOne t) : (10 : UInt8) ∉ endT t := by
  unfold endT
  split
  · exact kindW_no _ _ (.inl rfl)
  · intro g
    rcases List.mem_append.1 g with g | g
    · exact kindW_no _ _ (.inl rfl) g
    · rcases List.mem_cons.1 g with g | g
      · cases g
      · exact valT_no h g
theorem restT_no {t : TstD} (h : TstOne t) : (10 : UInt8) ∉ restT t := by
  unfold restT
  intro g
  rcases List.mem_append.1 g with g | g
  · exact itoa_clean _ _ (.inl rfl) g
  · rcases List.mem_cons.1 g with g | g
    · cases g
    · exact endT_no h g
theorem lineT_no {t : TstD} (h : TstOne t) : (10 : UInt8) ∉ lineT t := by
  unfold lineT
  intro g
  rcases List.mem_append.1 g with g | g
  · revert g; decide
  · rcases List.mem_cons.1 g with g | g
    · cases g
    · exact restT_no h g
theorem wordsG_clean (t : TgtD) (b : UInt8) (hb : b = 10 ∨ b = 32) : ∀ x ∈ [tgtW t.1, Lib.itoa t.2.1, Lib.itoa t.2.2], b ∉ x := by
  intro x hx
  rcases List.mem_cons.1 hx with rfl | hx
  · exact tgtW_no _ _ hb
  rcases List.mem_cons.1 hx with rfl | hx
  · exact itoa_clean _ _ hb
  rw [List.mem_singleton.1 hx]
  exact itoa_clean _ _ hb
theorem wordsV_clean {n : ByteArray} (h : nm n = true) (b : UInt8) (hb : b = 10 ∨ b = 32) : ∀ x ∈ [levelW, n.data.toList], b ∉ x := by
  intro x hx
  rcases List.mem_cons.1 hx with rfl | hx
  · rcases hb with rfl | rfl <;> decide
  rw [List.mem_singleton.1 hx]
  exact nm_no h b hb
theorem wordsU_clean (l : List Int) (b : UInt8) (hb : b = 10 ∨ b = 32) : ∀ x ∈ pauseW :: l.map Lib.itoa, b ∉ x := by
  intro x hx
  rcases List.mem_cons.1 hx with rfl | hx
  · rcases hb with rfl | rfl <;> decide
  obtain ⟨n, _, rfl⟩ := List.mem_map.1 hx
  exact itoa_clean _ _ hb
theorem line_no10 {x : It} (h : x.Ok) : (10 : UInt8) ∉ x.line := by
  cases x with
  | pau l => exact join_no _ _ (wordsU_clean l 10 (.inl rfl))
  | lev n => exact join_no _ _ (wordsV_clean (h.lev n rfl) 10 (.inl rfl))
  | tst t => exact lineT_no (h.tst t rfl).1
  | tgt t => exact join_no _ _ (wordsG_clean t 10 (.inl rfl))
theorem cut_it {x : It} (h : x.Ok) (r : List It) : Lib.cut (textI (x :: r)) [10] = (x.line, textI r, true) := by
  rw [textI_cons]
  exact cut_at 10 _ _ (line_no10 h)
/-! ### sizes -/
theorem itoa_short18 (n : Int) (h : n.natAbs < 10 ^ 18) : (Lib.itoa n).length ≤ 19 := by
  have hln := itoa_len n 17 h
  rw [trim_itoa] at hln
  unfold Lib.itoa
  split
  · rw [List.length_cons]; omega
  · rw [show n.toNat = n.natAbs by omega]; omega
theorem kindW_short (k : Int) : (kindW k).length ≤ 6 := by
  unfold kindW
  rcases Nat.lt_or_ge k.toNat 7 with g | g
  · generalize k.toNat = m at *
    have : m = 0 ∨ m = 1 ∨ m = 2 ∨ m = 3 ∨ m = 4 ∨ m = 5 ∨ m = 6 := by omega
    rcases this with rfl | rfl | rfl | rfl | rfl | rfl | rfl <;> decide
  · rw [getD_none (by exact g)]
    simp
theorem tgtW_short (k : Int) : (tgtW k).length ≤ 5 := by
  unfold tgtW
  rcases Nat.lt_or_ge (k.toNat - 1) 3 with g | g
  · generalize k.toNat - 1 = m at *
    have : m = 0 ∨ m = 1 ∨ m = 2 := by omega
    rcases this with rfl | rfl | rfl <;> decide
  · rw [getD_none (by exact g)]
    simp
theorem small18 {n : Int} (h : n.natAbs ≤ 1000000) : n.natAbs < 10 ^ 18 := Nat.lt_of_le_of_lt h (by decide)
theorem lineT_short {t : TstD} (h : TstOne t) (hn : NumOk t) : (lineT t).length ≤ 240 := by
  have h1 : (Lib.itoa t.fld).length ≤ 19 := itoa_short18 _ (small18 (by have := h.fld; omega))
  have h2 : (valT t).length ≤ 200 := by
    unfold valT
    split
    · have := h.short
      rw [Array.length_toList]
      exact this
    · exact Nat.le_trans (itoa_short18 _ hn) (by decide)
  have h3 := kindW_short t.kind
  have h4 : (endT t).length ≤ 207 := by
    unfold endT
    split
    · omega
    · rw [List.length_append, List.length_cons]; omega
  unfold lineT restT
  rw [List.length_append, List.length_cons, List.length_append, List.length_cons]
  have : whenW.length = 4 := rfl
  omega
theorem line_short2 {x : It} (h : x.Ok) : x.line.length ≤ 240 := by
  cases x with
  | pau l =>
    obtain ⟨h1, h2⟩ := h.pau l rfl
    show (Lib.join _ _).length ≤ _
    rw [Lib.join_cons, List.length_append]
    have h3 := tail_short (l.map Lib.itoa) (fun x hx => by
      obtain ⟨n, hn, rfl⟩ := List.mem_map.1 hx
      exact Nat.le_trans (itoa_short18 n (small18 (by have := h2 n hn; unfold PauOne at this; omega))) (by decide))
    rw [List.length_map] at h3
    have : pauseW.length = 5 := rfl
    omega
  | lev n =>
    have h1 := (nm_size (h.lev n rfl)).2
    show (Lib.join _ _).length ≤ _
    rw [Lib.join_cons, List.length_append]
    have h3 := tail_short [n.data.toList] (fun x hx => by
      rw [List.mem_singleton.1 hx, Array.length_toList]
      exact h1)
    have : levelW.length = 5 := rfl
    have : [n.data.toList].length = 1 := rfl
    omega
  | tst t => exact lineT_short (h.tst t rfl).1 (h.tst t rfl).2
  | tgt t =>
    have h1 := h.tgt t rfl
    unfold TgtOne at h1
    show (Lib.join _ _).length ≤ _
    rw [Lib.join_cons, List.length_append]
    have h3 := tail_short [Lib.itoa t.2.1, Lib.itoa t.2.2] (fun x hx => by
      rcases List.mem_cons.1 hx with rfl | hx
      · exact Nat.le_trans (itoa_short18 _ (small18 (by omega))) (by decide)
      · rw [List.mem_singleton.1 hx]
        exact Nat.le_trans (itoa_short18 _ (small18 (by omega))) (by decide))
    have := tgtW_short t.1
    have : [Lib.itoa t.2.1, Lib.itoa t.2.2].length = 2 := rfl
    omega
theorem text_short2 : ∀ (l : List It), (∀ p ∈ l, p.Ok) → (textI l).length ≤ 241 * l.length
  | [], _ => by simp [textI]
  | p :: r, h => by
    have ih := text_short2 r (fun q hq => h q (List.mem_cons_of_mem _ hq))
    have h1 := line_short2 (h p List.mem_cons_self)
    rw [textI_cons, List.length_append, List.length_cons, List.length_cons]
    omega
/-! ### rising lists are short -/
theorem rise_low {l : List Int} (h : Lst PauOne PauRise l) : ∀ i (hi : i < l.length), (i : Int) + 1 ≤ l[i]
  | 0, hi => (h.each 0 hi).1
  | i + 1, hi => by
    have h1 := rise_low h i (by omega)
    have h2 : l[i] < l[i + 1] := h.order i hi
    omega
theorem pau_few {l : List Int} (h : Lst PauOne PauRise l) : l.length ≤ 4 := by
  rcases Nat.lt_or_ge 4 l.length with g | g
  · have h1 := rise_low h 4 g
    have h2 := (h.each 4 g).2
    omega
  · exact g
theorem rise_lowT {l : List TgtD} (h : Lst TgtOne TgtRise l) : ∀ i (hi : i < l.length), (i : Int) + 1 ≤ l[i].1
  | 0, hi => (h.each 0 hi).1.1
  | i + 1, hi => by
    have h1 := rise_lowT h i (by omega)
    have h2 : l[i].1 < l[i + 1].1 := h.order i hi
    omega
theorem tgt_few {l : List TgtD} (h : Lst TgtOne TgtRise l) : l.length ≤ 3 := by
  rcases Nat.lt_or_ge 3 l.length with g | g
  · have h1 := rise_lowT h 3 g
    have h2 := (h.each 3 g).1.2
    omega
  · exact g
/-! ### what a reader makes of the lines -/
/-- what is read: the pauses, the levels that are done, the one that goes on -/
structure RdS where
  pauses : List Int
  done : List LevD
  cur : Option LevD
def RdS.all (s : RdS) : List LevD := s.done ++ s.cur.toList
def RdS.push (s : RdS) : It → RdS
  | .pau l => { s with pauses := l }
  | .lev n => ⟨s.pauses, s.all, some ⟨n, [], []⟩⟩
  | .tst t => { s with cur := s.cur.map fun c => { c with tests := c.tests ++ [t] } }
  | .tgt t => { s with cur := s.cur.map fun c => { c with tgts := c.tgts ++ [t] } }
/-- a line that a reader takes -/
structure RdOk (s : RdS) (x : It) : Prop where
  ok : x.Ok
  few : s.all.length ≤ 20
  lev : ∀ n, x = .lev n → s.all.length < 20
  tst : ∀ t, x = .tst t → ∃ c, s.cur = some c ∧ c.tgts = [] ∧ c.tests.length < 8
  tgt : ∀ t, x = .tgt t → ∃ c, s.cur = some c ∧ c.tgts.length < 3 ∧ c.tests.length ≤ 8
  pau : ∀ l, x = .pau l → s.all = []
def Fits : RdS → List It → Prop
  | _, [] => True
  | s, x :: r => RdOk s x ∧ Fits (s.push x) r
theorem fits_append : ∀ (a : List It) {s : RdS} {b : List It}, Fits s a → Fits (a.foldl RdS.push s) b → Fits s (a ++ b)
  | [], _, _, _, h => h
  | _ :: r, _, _, ⟨h1, h2⟩, h => ⟨h1, fits_append r h2 h⟩
theorem push_tests : ∀ (l : List TstD) (s : RdS) (c : LevD), s.cur = some c → (l.map It.tst).foldl RdS.push s = { s with cur := some { c with tests := c.tests ++ l } }
  | [], s, c, h => by
    obtain ⟨p, d, k⟩ := s
    simp only at h
    subst h
    simp
  | t :: r, s, c, h => by
    rw [List.map_cons, List.foldl_cons]
    have e : s.push (.tst t) = { s with cur := some { c with tests := c.tests ++ [t] } } := by
      show { s with cur := s.cur.map _ } = _
      rw [h]
      rfl
    rw [e, push_tests r _ { c with tests := c.tests ++ [t] } rfl]
    simp
theorem push_tgts : ∀ (l : List TgtD) (s : RdS) (c : LevD), s.cur = some c → (l.map It.tgt).foldl RdS.push s = { s with cur := some { c with tgts := c.tgts ++ l } }
  | [], s, c, h => by
    obtain ⟨p, d, k⟩ := s
    simp only at h
    subst h
    simp
  | t :: r, s, c, h => by
    rw [List.map_cons, List.foldl_cons]
    have e : s.push (.tgt t) = { s with cur := some { c with tgts := c.tgts ++ [t] } } := by
      show { s with cur := s.cur.map _ } = _
      rw [h]
      rfl
    rw [e, push_tgts r _ { c with tgts := c.tgts ++ [t] } rfl]
    simp
theorem all_cur {s : RdS} {c : LevD} (h : s.cur = some c) : s.all.length = s.done.length + 1 := by
  unfold RdS.all
  rw [h]
  simp
theorem fits_tests : ∀ (l : List TstD) (s : RdS) (c : LevD), s.cur = some c → c.tgts = [] → c.tests.length + l.length ≤ 8 → s.done.length ≤ 19 → (∀ t ∈ l, TstOne t ∧ NumOk t) → Fits s (l.map It.tst)
  | [], _, _, _, _, _, _, _ => True.intro
  | t :: r, s, c, h, hg, hl, hd, ho => by
    rw [List.length_cons] at hl
    refine ⟨⟨⟨fun _ e => (by cases e), fun _ e => (by cases e), fun u e => (by cases e; exact ho t List.mem_cons_self), fun _ e => (by cases e)⟩, by rw [all_cur h]; omega, fun _ e => (by cases e), fun u _ => ⟨c, h, hg, by omega⟩, fun _ e => (by cases e), fun _ e => (by cases e)⟩, ?_⟩
    have e : s.push (.tst t) = { s with cur := some { c with tests := c.tests ++ [t] } } := by
      show { s with cur := s.cur.map _ } = _
      rw [h]
      rfl
    rw [e]
    exact fits_tests r _ { c with tests := c.tests ++ [t] } rfl hg (by simp; omega) hd (fun u hu => ho u (List.mem_cons_of_mem _ hu))
theorem fits_tgts : ∀ (l : List TgtD) (s : RdS) (c : LevD), s.cur = some c → c.tests.length ≤ 8 → c.tgts.length + l.length ≤ 3 → s.done.length ≤ 19 → (∀ t ∈ l, TgtOne t) → Fits s (l.map It.tgt)
  | [], _, _, _, _, _, _, _ => True.intro
  | t :: r, s, c, h, hg, hl, hd, ho => by
    rw [List.length_cons] at hl
    refine ⟨⟨⟨fun _ e => (by cases e), fun _ e => (by cases e), fun _ e => (by cases e), fun u e => (by cases e; exact ho t List.mem_cons_self)⟩, by rw [all_cur h]; omega, fun _ e => (by cases e), fun _ e => (by cases e), fun u _ => ⟨c, h, by omega, hg⟩, fun _ e => (by cases e)⟩, ?_⟩
    have e : s.push (.tgt t) = { s with cur := some { c with tgts := c.tgts ++ [t] } } := by
      show { s with cur := s.cur.map _ } = _
      rw [h]
      rfl
    rw [e]
    exact fits_tgts r _ { c with tgts := c.tgts ++ [t] } rfl hg (by simp; omega) hd (fun u hu => ho u (List.mem_cons_of_mem _ hu))
/-- the numbers of a policy's tests are short enough to be written -/
def NumsOk (p : PolD) : Prop := ∀ l ∈ p.levs, ∀ t ∈ l.tests, NumOk t
theorem push_lev (s : RdS) (l : LevD) : (levIts l).foldl RdS.push s = ⟨s.pauses, s.all, some l⟩ := by
  unfold levIts
  rw [List.foldl_cons, List.foldl_append, push_tests l.tests (s.push (.lev l.name)) ⟨l.name, [], []⟩ rfl, push_tgts l.tgts _ ⟨l.name, [] ++ l.tests, []⟩ rfl]
  simp [RdS.push]
theorem fits_lev (s : RdS) (l : LevD) (hn : nm l.name = true) (ho : LevOk l) (hk : ∀ t ∈ l.tests, NumOk t) (hs : s.all.length < 20) : Fits s (levIts l) := by
  unfold levIts
  refine ⟨⟨⟨fun _ e => (by cases e), fun n e => (by cases e; exact hn), fun _ e => (by cases e), fun _ e => (by cases e)⟩, by omega, fun _ _ => hs, fun _ e => (by cases e), fun _ e => (by cases e), fun _ e => (by cases e)⟩, ?_⟩
  have hl8 := ho.few
  have hl3 := tgt_few ho.tgts
  refine fits_append _ (fits_tests l.tests _ ⟨l.name, [], []⟩ rfl rfl (by simpa using hl8) (by show s.all.length ≤ 19; omega) (fun t ht => ⟨ho.tests.mem ht, hk t ht⟩)) ?_
  rw [push_tests l.tests _ ⟨l.name, [], []⟩ rfl]
  exact fits_tgts l.tgts _ ⟨l.name, [] ++ l.tests, []⟩ rfl (by simpa using hl8) (by simpa using hl3) (by show s.all.length ≤ 19; omega) (fun t ht => ho.tgts.mem ht)
theorem push_levs : ∀ (ls : List LevD) (s : RdS), ((ls.flatMap levIts).foldl RdS.push s).all = s.all ++ ls ∧ ((ls.flatMap levIts).foldl RdS.push s).pauses = s.pauses
  | [], s => by simp
  | l :: r, s => by
    rw [List.flatMap_cons, List.foldl_append, push_lev]
    obtain ⟨h1, h2⟩ := push_levs r ⟨s.pauses, s.all, some l⟩
    rw [h1, h2]
    simp [RdS.all]
theorem fits_levs : ∀ (ls : List LevD) (s : RdS), (∀ l ∈ ls, nm l.name = true ∧ LevOk l ∧ ∀ t ∈ l.tests, NumOk t) → s.all.length + ls.length ≤ 20 → Fits s (ls.flatMap levIts)
  | [], _, _, _ => True.intro
  | l :: r, s, h, hl => by
    rw [List.length_cons] at hl
    rw [List.flatMap_cons]
    obtain ⟨h1, h2, h3⟩ := h l List.mem_cons_self
    refine fits_append _ (fits_lev s l h1 h2 h3 (by omega)) ?_
    rw [push_lev]
    refine fits_levs r _ (fun x hx => h x (List.mem_cons_of_mem _ hx)) ?_
    show (s.all ++ [l]).length + r.length ≤ 20
    rw [List.length_append, List.length_singleton]
    omega
theorem fits_pol {p : PolD} (h : PolOk p) (hn : NumsOk p) : Fits ⟨[], [], none⟩ (polIts p) := by
  unfold polIts
  refine ⟨⟨⟨fun l e => (by cases e; exact ⟨pau_few h.pauses, fun n hn => h.pauses.mem hn⟩), fun _ e => (by cases e), fun _ e => (by cases e), fun _ e => (by cases e)⟩, by simp [RdS.all], fun _ e => (by cases e), fun _ e => (by cases e), fun _ e => (by cases e), fun _ _ => rfl⟩, ?_⟩
  exact fits_levs p.levs _ (fun l hl => ⟨(h.levs.each l hl).1, (h.levs.each l hl).2, hn l hl⟩) (by have := h.few; simpa [RdS.all, RdS.push] using this)
theorem push_pol (p : PolD) : ((polIts p).foldl RdS.push ⟨[], [], none⟩).all = p.levs ∧ ((polIts p).foldl RdS.push ⟨[], [], none⟩).pauses = p.pauses := by
  unfold polIts
  rw [List.foldl_cons]
  obtain ⟨h1, h2⟩ := push_levs p.levs (RdS.push ⟨[], [], none⟩ (.pau p.pauses))
  rw [h1, h2]
  simp [RdS.all, RdS.push]
theorem fits_ok : ∀ {its : List It} {s : RdS}, Fits s its → ∀ x ∈ its, x.Ok
  | [], _, _, x, hx => by cases hx
  | y :: r, _, ⟨h1, h2⟩, x, hx => by
    rcases List.mem_cons.1 hx with rfl | hx
    · exact h1.ok
    · exact fits_ok h2 x hx
theorem levIts_len {l : LevD} (h : LevOk l) : (levIts l).length ≤ 12 := by
  unfold levIts
  rw [List.length_cons, List.length_append, List.length_map, List.length_map]
  have := h.few
  have := tgt_few h.tgts
  omega
theorem levs_len : ∀ (ls : List LevD), (∀ l ∈ ls, LevOk l) → (ls.flatMap levIts).length ≤ 12 * ls.length
  | [], _ => by simp
  | l :: r, h => by
    have ih := levs_len r (fun x hx => h x (List.mem_cons_of_mem _ hx))
    have h1 := levIts_len (h l List.mem_cons_self)
    rw [List.flatMap_cons, List.length_append, List.length_cons]
    omega
theorem polIts_len {p : PolD} (h : PolOk p) : (polIts p).length ≤ 241 := by
  unfold polIts
  rw [List.length_cons]
  have h1 := levs_len p.levs (fun l hl => (h.levs.each l hl).2)
  have := h.few
  omega
theorem pol_short {p : PolD} (h : PolOk p) (hn : NumsOk p) : (textI (polIts p)).length ≤ 60000 := by
  have h1 := text_short2 _ (fits_ok (fits_pol h hn))
  have h2 := polIts_len h
  omega
end Go.Proofs.YtllcgcnebofdoaaGreatDoor
