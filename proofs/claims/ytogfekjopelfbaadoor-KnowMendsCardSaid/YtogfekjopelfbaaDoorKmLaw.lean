/- Plain laws for KnowMends: the lines of a body, the table of common subsequences, edits and what they make. No program in sight. -/
import Derived.Lib.SplitLaws
import Derived.Lib.Join
import Derived.Test.YtogfekjopelfbaaDoorBase
namespace Go.Proofs.YtogfekjopelfbaaDoor
open Go

/-! ### lines -/
/-- a line with its feed -/
def IsLine (p : List UInt8) : Prop := ∃ q, p = q ++ [10] ∧ (10 : UInt8) ∉ q

theorem occ_one (s : List UInt8) (c : UInt8) (i : Nat) : Lib.occAt s [c] i = true ↔ s[i]? = some c := by
  unfold Lib.occAt
  rw [← List.head?_drop]
  cases s.drop i with
  | nil => simp [List.isPrefixOf]
  | cons a t => simp [List.isPrefixOf]; exact eq_comm

theorem splitK_lines : ∀ (k : Nat) (l : List UInt8), Lib.count l [10] = k → ∃ ps z, Lib.splitK [10] 1 k l = ps ++ [z] ∧ (ps ++ [z]).flatten = l ∧ (∀ p ∈ ps, IsLine p) ∧ (10 : UInt8) ∉ z
  | 0, l, h => by
    refine ⟨[], l, rfl, by simp, fun p hp => (by cases hp), fun hm => ?_⟩
    rw [Lib.count_one] at h
    have := List.count_pos_iff.2 hm; omega
  | k + 1, l, h => by
    rcases Lib.index_spec l [10] with ⟨h1, _⟩ | ⟨i, h1, h2, h3, h4⟩
    · rw [Lib.count_miss h1] at h; omega
    · have hc := Lib.count_hit (s := l) (sub := [10]) (by simp) h1
      have hi := (occ_one l 10 i).1 h3
      obtain ⟨hlt, hget⟩ := List.getElem?_eq_some_iff.1 hi
      obtain ⟨ps, z, e1, e2, e3, e4⟩ := splitK_lines k (l.drop (i + 1)) (by simp at hc; omega)
      have hno : (10 : UInt8) ∉ l.take i := by
        intro hm
        obtain ⟨j, hj, hjj⟩ := List.mem_iff_getElem.1 hm
        have hj' : j < i := by simp at hj; omega
        have hf := h4 j hj'
        have : Lib.occAt l [10] j = true := (occ_one l 10 j).2 (by
          rw [List.getElem?_eq_getElem (by omega)]
          rw [List.getElem_take] at hjj
          rw [hjj])
        rw [this] at hf
        cases hf
      refine ⟨l.take (i + 1) :: ps, z, ?_, ?_, ?_, e4⟩
      · unfold Lib.splitK
        have hm : ¬ (Lib.index l [10] == -1) = true := fun e => by have := beq_iff_eq.1 e; omega
        rw [if_neg hm, h1]
        simp only [Int.toNat_natCast, List.length_cons, List.length_nil, Nat.zero_add]
        rw [e1]
        rfl
      · rw [List.cons_append, List.flatten_cons, e2, List.take_append_drop]
      · intro p hp
        rcases List.mem_cons.1 hp with rfl | hp
        · exact ⟨l.take i, by rw [List.take_succ_eq_append_getElem hlt, hget], hno⟩
        · exact e3 p hp

def nlB : ByteArray := ⟨#[10]⟩
def piecesB (s : ByteArray) : List ByteArray := Lib.splitB nlB 1 (Lib.countB s nlB) s
def linesB (s : ByteArray) : List ByteArray := if (piecesB s).getLast?.map ByteArray.size = some 0 then (piecesB s).dropLast else piecesB s

structure LinesOk (s : ByteArray) (L : List ByteArray) : Prop where
  flat : (L.map (·.data.toList)).flatten = s.data.toList
  each : ∀ p ∈ L, p.data.toList ≠ [] ∧ ((10 : UInt8) ∉ p.data.toList ∨ IsLine p.data.toList)
  init : ∀ p ∈ L.dropLast, IsLine p.data.toList

theorem IsLine.ne {p : List UInt8} (h : IsLine p) : p ≠ [] := by
  obtain ⟨q, rfl, _⟩ := h
  simp

theorem pieces_spec (s : ByteArray) : ∃ ps z, piecesB s = ps ++ [z] ∧ ((ps ++ [z]).map (·.data.toList)).flatten = s.data.toList ∧ (∀ p ∈ ps, IsLine p.data.toList) ∧ (10 : UInt8) ∉ z.data.toList := by
  obtain ⟨ps, z, e1, e2, e3, e4⟩ := splitK_lines (Lib.countB s nlB) s.data.toList rfl
  have hd : (piecesB s).map (·.data.toList) = ps ++ [z] := (Lib.splitB_data nlB 1 (Lib.countB s nlB) s).trans e1
  have hne : piecesB s ≠ [] := fun h => by rw [h] at hd; simp at hd
  have hdl := List.dropLast_concat_getLast hne
  rw [← hdl, List.map_append, List.map_cons, List.map_nil] at hd
  obtain ⟨h1, h2⟩ := List.append_inj' hd (by simp)
  have h3 : ((piecesB s).getLast hne).data.toList = z := by simpa using h2
  refine ⟨(piecesB s).dropLast, (piecesB s).getLast hne, hdl.symm, ?_, fun p hp => ?_, by rw [h3]; exact e4⟩
  · rw [List.map_append, List.map_cons, List.map_nil, h1, h3]; exact e2
  · exact e3 _ (by rw [← h1]; exact List.mem_map_of_mem hp)

theorem linesB_ok (s : ByteArray) : LinesOk s (linesB s) := by
  obtain ⟨ps, z, e1, e2, e3, e4⟩ := pieces_spec s
  unfold linesB
  have hl : (piecesB s).getLast?.map ByteArray.size = some z.size := by rw [e1]; simp
  rw [hl]
  by_cases hz : z.size = 0
  · rw [if_pos (by rw [hz]), e1, List.dropLast_concat]
    have hz' : z.data.toList = [] := by
      have : z.data.toList.length = 0 := hz
      exact List.eq_nil_of_length_eq_zero this
    refine ⟨?_, fun p hp => ⟨(e3 p hp).ne, .inr (e3 p hp)⟩, fun p hp => e3 p (List.dropLast_subset _ hp)⟩
    rw [List.map_append, List.map_cons, List.map_nil, hz'] at e2
    simpa using e2
  · rw [if_neg (by simpa using hz), e1]
    have hz' : z.data.toList ≠ [] := by
      intro h
      exact hz (show z.data.toList.length = 0 by rw [h]; rfl)
    refine ⟨e2, fun p hp => ?_, fun p hp => ?_⟩
    · rcases List.mem_append.1 hp with h | h
      · exact ⟨(e3 p h).ne, .inr (e3 p h)⟩
      · obtain rfl : p = z := by simpa using h
        exact ⟨hz', .inl e4⟩
    · rw [List.dropLast_concat] at hp
      exact e3 p hp

theorem flat_len : ∀ (L : List ByteArray), (∀ p ∈ L, p.data.toList ≠ []) → L.length ≤ (L.map (·.data.toList)).flatten.length
  | [], _ => by simp
  | p :: L, h => by
    have h1 := flat_len L (fun q hq => h q (List.mem_cons_of_mem _ hq))
    have h2 : 0 < p.data.toList.length := List.length_pos_iff.2 (h p List.mem_cons_self)
    simp only [List.map_cons, List.flatten_cons, List.length_append, List.length_cons]
    omega
theorem LinesOk.len {s : ByteArray} {L : List ByteArray} (h : LinesOk s L) : L.length ≤ s.size := by
  have := flat_len L (fun p hp => (h.each p hp).1)
  rw [h.flat] at this
  exact this
theorem bytes_ext {a b : ByteArray} (h : a.data.toList = b.data.toList) : a = b := by
  cases a; cases b; simp_all
theorem LinesOk.inj {a b : ByteArray} {L : List ByteArray} (h : LinesOk a L) (k : LinesOk b L) : a = b := bytes_ext (h.flat.symm.trans k.flat)

/-! ### the table of common subsequences -/
section
open Classical
noncomputable def lcsL {α : Type} : List α → List α → Nat
  | [], _ => 0
  | _ :: _, [] => 0
  | a :: x, b :: y => if a = b then lcsL x y + 1 else max (lcsL x (b :: y)) (lcsL (a :: x) y)
termination_by x y => x.length + y.length
theorem lcs_nil {α : Type} (y : List α) : lcsL [] y = 0 := by rw [lcsL]
theorem lcs_nil' {α : Type} (x : List α) : lcsL x [] = 0 := by cases x <;> rw [lcsL]
theorem lcs_eq {α : Type} (a : α) (x y : List α) : lcsL (a :: x) (a :: y) = lcsL x y + 1 := by rw [lcsL, if_pos rfl]
theorem lcs_ne {α : Type} {a b : α} (h : a ≠ b) (x y : List α) : lcsL (a :: x) (b :: y) = max (lcsL x (b :: y)) (lcsL (a :: x) y) := by rw [lcsL, if_neg h]
theorem lcs_le {α : Type} : ∀ (n : Nat) (x y : List α), x.length + y.length ≤ n → lcsL x y ≤ x.length
  | _, [], y, _ => by rw [lcs_nil]; exact Nat.zero_le _
  | _, a :: x, [], _ => by rw [lcs_nil']; exact Nat.zero_le _
  | 0, a :: x, b :: y, h => by simp at h
  | n + 1, a :: x, b :: y, h => by
    simp only [List.length_cons] at h
    by_cases e : a = b
    · subst e
      rw [lcs_eq]
      have := lcs_le n x y (by omega)
      simp only [List.length_cons]; omega
    · rw [lcs_ne e]
      have h1 := lcs_le n x (b :: y) (by simp only [List.length_cons]; omega)
      have h2 := lcs_le n (a :: x) y (by simp only [List.length_cons]; omega)
      simp only [List.length_cons] at h1 h2 ⊢
      omega
theorem lcs_self {α : Type} : ∀ (x : List α), lcsL x x = x.length
  | [] => by rw [lcs_nil]; rfl
  | a :: x => by rw [lcs_eq, lcs_self x]; rfl
end
/-- the length for what begins at i, j -/
noncomputable def tabT {α : Type} (x y : List α) (i j : Nat) : Nat := lcsL (x.drop i) (y.drop j)
theorem tab_le {α : Type} (x y : List α) (i j : Nat) : tabT x y i j ≤ x.length := by
  have := lcs_le _ (x.drop i) (y.drop j) (Nat.le_refl _)
  unfold tabT
  rw [List.length_drop] at this
  omega
theorem tab_end {α : Type} (x y : List α) (j : Nat) : tabT x y x.length j = 0 := by unfold tabT; rw [List.drop_length, lcs_nil]
theorem tab_end' {α : Type} (x y : List α) (i : Nat) : tabT x y i y.length = 0 := by unfold tabT; rw [List.drop_length, lcs_nil']
theorem tab_eq {α : Type} {x y : List α} {i j : Nat} (hi : i < x.length) (hj : j < y.length) (h : x[i] = y[j]) : tabT x y i j = tabT x y (i + 1) (j + 1) + 1 := by
  unfold tabT
  rw [List.drop_eq_getElem_cons hi, List.drop_eq_getElem_cons hj, h, lcs_eq]
theorem tab_ne {α : Type} {x y : List α} {i j : Nat} (hi : i < x.length) (hj : j < y.length) (h : x[i] ≠ y[j]) : tabT x y i j = max (tabT x y (i + 1) j) (tabT x y i (j + 1)) := by
  unfold tabT
  rw [List.drop_eq_getElem_cons hi, List.drop_eq_getElem_cons hj, lcs_ne h]
theorem tab_diag {α : Type} (x : List α) (i : Nat) : tabT x x i i = x.length - i := by unfold tabT; rw [lcs_self, List.length_drop]

/-! ### edits -/
structure Ed where
  pos : Nat
  cut : Nat
  add : List ByteArray
def endOf (es : List Ed) : Nat := match es.getLast? with
  | none => 0
  | some e => e.pos + e.cut
theorem endOf_nil : endOf [] = 0 := rfl
theorem endOf_snoc (es : List Ed) (d : Ed) : endOf (es ++ [d]) = d.pos + d.cut := by simp [endOf]
def madeOf (x : List ByteArray) (es : List Ed) : List ByteArray × Nat := es.foldl (fun s d => (s.1 ++ (x.drop s.2).take (d.pos - s.2) ++ d.add, d.pos + d.cut)) ([], 0)
theorem made_snoc (x : List ByteArray) (es : List Ed) (d : Ed) : madeOf x (es ++ [d]) = ((madeOf x es).1 ++ (x.drop (madeOf x es).2).take (d.pos - (madeOf x es).2) ++ d.add, d.pos + d.cut) := by
  simp [madeOf, List.foldl_append]
theorem made_end (x : List ByteArray) (es : List Ed) : (madeOf x es).2 = endOf es := by
  rcases List.eq_nil_or_concat es with rfl | ⟨l, d, rfl⟩
  · rfl
  · rw [List.concat_eq_append, made_snoc, endOf_snoc]
/-- an edit that may stand behind others -/
structure EdOk (n : Nat) (es : List Ed) (d : Ed) : Prop where
  lo : es ≠ [] → endOf es < d.pos
  hi : d.pos + d.cut ≤ n
  some : d.cut ≠ 0 ∨ d.add ≠ []
def AllOk (n : Nat) (es : List Ed) : Prop := ∀ k (h : k < es.length), EdOk n (es.take k) es[k]
theorem AllOk.snoc {n : Nat} {es : List Ed} (h : AllOk n es) {d : Ed} (hd : EdOk n es d) : AllOk n (es ++ [d]) := by
  intro k hk
  by_cases e : k < es.length
  · rw [List.take_append_of_le_length (by omega), List.getElem_append_left e]
    exact h k e
  · obtain rfl : k = es.length := by simp at hk; omega
    simpa using hd

structure MInv (x y : List ByteArray) (i j : Nat) (es : List Ed) : Prop where
  ix : i ≤ x.length
  jy : j ≤ y.length
  e1 : endOf es ≤ i
  e2 : es ≠ [] → endOf es < i
  text : (madeOf x es).1 ++ (x.drop (endOf es)).take (i - endOf es) = y.take j
  ok : AllOk x.length es
  adds : ∀ e ∈ es, ∀ s ∈ e.add, s ∈ y
  same : x = y → es = [] ∧ i = j
theorem MInv.start (x y : List ByteArray) : MInv x y 0 0 [] :=
  ⟨Nat.zero_le _, Nat.zero_le _, Nat.le_refl _, fun h => absurd rfl h, by simp [madeOf], fun k hk => (by cases hk), fun e he => (by cases he), fun _ => ⟨rfl, rfl⟩⟩
theorem take_more {α : Type} (x : List α) {a i : Nat} (h1 : a ≤ i) (h2 : i < x.length) : (x.drop a).take (i + 1 - a) = (x.drop a).take (i - a) ++ [x[i]] := by
  rw [show i + 1 - a = (i - a) + 1 by omega, List.take_succ_eq_append_getElem (by simp; omega)]
  congr 2
  rw [List.getElem_drop]
  congr 1
  omega
theorem MInv.skip {x y : List ByteArray} {i j : Nat} {es : List Ed} (h : MInv x y i j es) (hi : i < x.length) (hj : j < y.length) (e : x[i] = y[j]) : MInv x y (i + 1) (j + 1) es :=
  ⟨hi, hj, by have := h.e1; omega, fun q => by have := h.e2 q; omega, by rw [take_more x h.e1 hi, ← List.append_assoc, h.text, List.take_succ_eq_append_getElem hj, e], h.ok, h.adds, fun q => ⟨(h.same q).1, by rw [(h.same q).2]⟩⟩
/-- what is cut and what is added between i, j and k, l -/
def edOf (y : List ByteArray) (i j k l : Nat) : Ed := ⟨i, k - i, (y.drop j).take (l - j)⟩
theorem MInv.edit {x y : List ByteArray} {i j k l : Nat} {es : List Ed} (h : MInv x y i j es) (hk : i ≤ k) (hl : j ≤ l) (hk2 : k ≤ x.length) (hl2 : l ≤ y.length) (hgt : i < k ∨ j < l) :
    AllOk x.length (es ++ [edOf y i j k l]) ∧ (madeOf x (es ++ [edOf y i j k l])).1 = y.take l ∧ endOf (es ++ [edOf y i j k l]) = k ∧ ∀ e ∈ es ++ [edOf y i j k l], ∀ s ∈ e.add, s ∈ y := by
  refine ⟨h.ok.snoc ⟨h.e2, by simp only [edOf]; omega, ?_⟩, ?_, by rw [endOf_snoc]; simp only [edOf]; omega, ?_⟩
  · rcases hgt with g | g
    · exact .inl (by simp only [edOf]; omega)
    · refine .inr fun q => ?_
      have := congrArg List.length q
      simp [edOf] at this
      omega
  · rw [made_snoc, made_end]
    simp only [edOf]
    rw [h.text]
    conv => rhs; rw [show l = j + (l - j) by omega, List.take_add]
  · intro e he s hs
    rcases List.mem_append.1 he with g | g
    · exact h.adds e g s hs
    · obtain rfl : e = edOf y i j k l := by simpa using g
      exact List.mem_of_mem_drop (List.mem_of_mem_take hs)
theorem MInv.emit {x y : List ByteArray} {i j k l : Nat} {es : List Ed} (h : MInv x y i j es) (hk : i ≤ k) (hl : j ≤ l) (hk2 : k < x.length) (hl2 : l < y.length) (e : x[k] = y[l]) (hgt : i < k ∨ j < l) (hne : x ≠ y) :
    MInv x y (k + 1) (l + 1) (es ++ [edOf y i j k l]) := by
  obtain ⟨h1, h2, h3, h4⟩ := h.edit hk hl (by omega) (by omega) hgt
  refine ⟨hk2, hl2, by rw [h3]; omega, fun _ => by rw [h3]; omega, ?_, h1, h4, fun q => absurd q hne⟩
  rw [h2, h3, take_more x (Nat.le_refl _) hk2, Nat.sub_self, List.take_zero, List.nil_append, e, List.take_succ_eq_append_getElem hl2]

/-- edits that make y of x -/
structure Mends (x y : List ByteArray) (es : List Ed) : Prop where
  text : (madeOf x es).1 ++ x.drop (endOf es) = y
  ok : AllOk x.length es
  adds : ∀ e ∈ es, ∀ s ∈ e.add, s ∈ y
  none : es = [] ↔ x = y
theorem MInv.done {x y : List ByteArray} {es : List Ed} (h : MInv x y x.length y.length es) : Mends x y es := by
  have ht : (madeOf x es).1 ++ x.drop (endOf es) = y := by
    have := h.text
    rw [List.take_of_length_le (by simp), List.take_length] at this
    exact this
  refine ⟨ht, h.ok, h.adds, fun q => ?_, fun q => (h.same q).1⟩
  subst q
  simpa [madeOf, endOf] using ht
theorem MInv.last {x y : List ByteArray} {i j : Nat} {es : List Ed} (h : MInv x y i j es) (hgt : i < x.length ∨ j < y.length) (hne : x ≠ y) : Mends x y (es ++ [edOf y i j x.length y.length]) := by
  obtain ⟨h1, h2, h3, h4⟩ := h.edit h.ix h.jy (Nat.le_refl _) (Nat.le_refl _) hgt
  refine ⟨by rw [h2, h3]; simp, h1, h4, fun q => by simp at q, fun q => absurd q hne⟩

/-! ### patching -/
theorem made_step {x : List ByteArray} {es : List Ed} {k : Nat} (hk : k < es.length) :
    (madeOf x (es.take (k + 1))).1 = (madeOf x (es.take k)).1 ++ (x.drop (endOf (es.take k))).take (es[k].pos - endOf (es.take k)) ++ es[k].add ∧ endOf (es.take (k + 1)) = es[k].pos + es[k].cut := by
  rw [List.take_succ_eq_append_getElem hk, made_snoc, endOf_snoc, made_end]
  exact ⟨rfl, rfl⟩
theorem made_mono (x : List ByteArray) (es : List Ed) : ∀ k, (madeOf x (es.take k)).1.length ≤ (madeOf x es).1.length := by
  have h : ∀ n, ∀ k, k + n = es.length → (madeOf x (es.take k)).1.length ≤ (madeOf x es).1.length := by
    intro n
    induction n with
    | zero => intro k hk; rw [List.take_of_length_le (by omega)]; exact Nat.le_refl _
    | succ n ih =>
      intro k hk
      have := ih (k + 1) (by omega)
      rw [(made_step (x := x) (es := es) (k := k) (by omega)).1] at this
      simp only [List.length_append] at this
      omega
  intro k
  by_cases hk : k ≤ es.length
  · exact h (es.length - k) k (by omega)
  · rw [List.take_of_length_le (by omega)]; exact Nat.le_refl _

theorem AllOk.ge {n : Nat} {es : List Ed} (h : AllOk n es) : ∀ k (hk : k < es.length), k ≤ es[k].pos
  | 0, _ => Nat.zero_le _
  | k + 1, hk => by
    have ih := AllOk.ge h k (by omega)
    have h1 := (h (k + 1) hk).lo (fun q => by have := congrArg List.length q; rw [List.length_take] at this; simp only [List.length_nil] at this; omega)
    rw [List.take_succ_eq_append_getElem (by omega : k < es.length), endOf_snoc] at h1
    omega
theorem AllOk.len {n : Nat} {es : List Ed} (h : AllOk n es) : es.length ≤ n + 1 := by
  apply Classical.byContradiction
  intro g
  have h1 := h.ge (n + 1) (by omega)
  have h2 := (h (n + 1) (by omega)).hi
  omega
theorem join_flat : ∀ (L : List (List UInt8)), Lib.join L [] = L.flatten
  | [] => rfl
  | p :: r => by
    rw [Lib.join_cons, List.flatten_cons]
    congr 1
    unfold Lib.joinTail
    simp

end Go.Proofs.YtogfekjopelfbaaDoor
