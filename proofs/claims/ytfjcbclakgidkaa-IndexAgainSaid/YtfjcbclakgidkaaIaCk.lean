/- What is true of a right index, in plain words; the walk of know.checkPositions. -/
import Derived.Test.YtfjcbclakgidkaaIaWo
namespace Go.Proofs.Ytfjcbclakgidkaa
open Go.RowKit

/-! ### words and stems -/
theorem in_takeWhile {p : UInt8 → Bool} : ∀ {l : List UInt8} {x : UInt8}, x ∈ l.takeWhile p → p x = true
  | [], x, h => by cases h
  | c :: l, x, h => by
    rw [List.takeWhile_cons] at h
    split at h
    · rename_i hc
      rcases List.mem_cons.1 h with rfl | h
      · exact hc
      · exact in_takeWhile h
    · cases h
theorem takeWhile_all {p : UInt8 → Bool} : ∀ {l : List UInt8}, (∀ x ∈ l, p x = true) → l.takeWhile p = l
  | [], _ => rfl
  | c :: l, h => by rw [List.takeWhile_cons, if_pos (h c List.mem_cons_self), takeWhile_all (fun x hx => h x (List.mem_cons_of_mem _ hx))]
def lowW (c : UInt8) : Bool := wordB c && (lowB c == c)
theorem lowB_word {c : UInt8} (h : wordB c = true) : lowW (lowB c) = true := by
  by_cases g : 65 ≤ c.toNat ∧ c.toNat ≤ 90
  · have h1 := lowB_up (c := c) (by omega) (by omega)
    have h2 : lowB (lowB c) = lowB c := lowB_not (.inr (by omega))
    have h3 : wordB (lowB c) = true := by
      unfold wordB inWordI isLetter
      rw [h1]
      simp only [Bool.or_eq_true, Bool.and_eq_true, decide_eq_true_eq]
      exact .inl (.inl (.inl ⟨by omega, by omega⟩))
    unfold lowW
    rw [h3, h2]
    simp
  · have h1 : lowB c = c := lowB_not (by omega)
    unfold lowW
    rw [h1, h, h1]
    simp
/-- a word as it stands in a list of words -/
def wordOk (w : List UInt8) : Prop := w.all lowW = true ∧ 0 < w.length ∧ w.length ≤ 30
theorem words_ok : ∀ (n : Nat) (l : List UInt8), ∀ w ∈ wordsF n l, wordOk w
  | 0, l, w, h => by simp [wordsF] at h
  | n + 1, l, w, h => by
    unfold wordsF at h
    split at h
    · cases h
    · rcases List.mem_append.1 h with h | h
      · split at h
        · rename_i g
          rw [List.mem_singleton.1 h]
          refine ⟨?_, by rw [List.length_map]; exact g.1, by rw [List.length_map]; exact g.2⟩
          rw [List.all_eq_true]
          intro x hx
          obtain ⟨y, hy, rfl⟩ := List.mem_map.1 hx
          exact lowB_word (in_takeWhile hy)
        · cases h
      · exact words_ok n _ w h
theorem map_low : ∀ {w : List UInt8}, w.all lowW = true → w.map lowB = w
  | [], _ => rfl
  | c :: w, h => by
    rw [List.all_cons, Bool.and_eq_true] at h
    have h1 : lowB c = c := by
      have := h.1
      unfold lowW at this
      rw [Bool.and_eq_true, beq_iff_eq] at this
      exact this.2
    rw [List.map_cons, h1, map_low h.2]
theorem words_one {w : List UInt8} (h : wordOk w) : words w = [w] := by
  obtain ⟨h1, h2, h3⟩ := h
  have hne : w ≠ [] := fun e => by rw [e] at h2; simp at h2
  have ht : w.takeWhile wordB = w := takeWhile_all fun x hx => by
    have := List.all_eq_true.1 h1 x hx
    unfold lowW at this
    rw [Bool.and_eq_true] at this
    exact this.1
  rw [words_step hne, ht, if_pos ⟨h2, h3⟩, List.drop_eq_nil_of_le (by omega), words_nil, map_low h1]
  rfl
theorem all_take {p : UInt8 → Bool} {w : List UInt8} (h : w.all p = true) (k : Nat) : (w.take k).all p = true := by
  rw [List.all_eq_true] at *
  exact fun x hx => h x (List.mem_of_mem_take hx)
theorem stem_ok {w : List UInt8} (h : wordOk w) : wordOk (stemF w) := by
  obtain ⟨h1, h2, h3⟩ := h
  have hy : lowW 121 = true := by decide
  have key : ∀ k, 0 < k → k ≤ w.length → wordOk (w.take k) := fun k hk hkl => ⟨all_take h1 k, by rw [List.length_take]; omega, by rw [List.length_take]; omega⟩
  unfold stemF
  split
  · exact ⟨h1, h2, h3⟩
  · split
    · exact ⟨h1, h2, h3⟩
    · split
      · refine ⟨?_, by simp, by simp; omega⟩
        rw [List.all_append, all_take h1, Bool.true_and]
        simp [hy]
      · split
        · exact key _ (by omega) (by omega)
        · split
          · exact ⟨h1, h2, h3⟩
          · split
            · exact key _ (by omega) (by omega)
            · split
              · exact key _ (by omega) (by omega)
              · split
                · exact key _ (by omega) (by omega)
                · exact ⟨h1, h2, h3⟩
/-! ### places -/
theorem posL_asc (s : List UInt8) : ∀ (l : List (List UInt8)) (n : Nat), (posL s n l).Pairwise (· < ·) ∧ ∀ z ∈ posL s n l, (n : Int) ≤ z ∧ z < (n : Int) + l.length
  | [], n => ⟨List.Pairwise.nil, fun z hz => by cases hz⟩
  | w :: l, n => by
    obtain ⟨i1, i2⟩ := posL_asc s l (n + 1)
    unfold posL
    split
    · refine ⟨List.pairwise_cons.2 ⟨fun z hz => by have := (i2 z hz).1; omega, i1⟩, fun z hz => ?_⟩
      rcases List.mem_cons.1 hz with rfl | hz
      · simp only [List.length_cons]; omega
      · have := i2 z hz
        simp only [List.length_cons]
        omega
    · refine ⟨i1, fun z hz => ?_⟩
      have := i2 z hz
      simp only [List.length_cons]
      omega
/-- places within a size -/
structure PosOk (l : List Int) (size : Int) : Prop where
  lo : ∀ z ∈ l, 0 ≤ z ∧ z < size
  asc : l.Pairwise (· < ·)
theorem count_at {l : List Int} (h : l.Pairwise (· < ·)) {k : Nat} (hk : k < l.length) : l.countP (· < l[k]) = k := by
  induction l generalizing k with
  | nil => simp at hk
  | cons u l ih =>
    have h1 := List.pairwise_cons.1 h
    rw [List.countP_cons]
    cases k with
    | zero =>
      simp only [List.getElem_cons_zero]
      have : l.countP (fun x => decide (x < u)) = 0 := by
        rw [List.countP_eq_zero]
        intro z hz
        have := h1.1 z hz
        simp
        omega
      rw [this]
      simp
    | succ k =>
      simp only [List.getElem_cons_succ]
      have hk2 : k < l.length := by simpa using hk
      have := h1.1 _ (List.getElem_mem hk2)
      rw [ih h1.2 hk2, if_pos (by simpa using this)]
structure PoOk (E : List EnD) (p : PoD) : Prop where
  at' : ∃ k, ∃ h : k < E.length, E[k].1 = p.1 ∧ PosOk p.2.1 (szF E[k]) ∧ PosOk p.2.2 (szF E[k])
  some' : 0 < p.2.1.length + p.2.2.length
  few : p.2.1.length ≤ 30000 ∧ p.2.2.length ≤ 30000
theorem pos_few (s : List UInt8) (t : List UInt8) : (posL s 0 (words t)).length ≤ t.length := Nat.le_trans (posL_len _ _ _) (words_len _ _)
theorem po_ok {E : List EnD} (hg : ∀ v ∈ E, GoodE v) {s : List UInt8} {p : PoD} (h : p ∈ listF E s) : PoOk E p ∧ wordOk s := by
  obtain ⟨v, hv, e1, e2⟩ := listF_ids h
  obtain ⟨k, hk, hkv⟩ := List.mem_iff_getElem.1 hv
  have hgv := hg v hv
  unfold poF at e2
  split at e2
  · cases e2
  · rename_i hne
    have hp : p = (v.1, posL s 0 (words v.2.1), posL s 0 (words v.2.2)) := (Option.some.inj e2).symm
    subst hp
    obtain ⟨a1, a2⟩ := posL_asc s (words v.2.1) 0
    obtain ⟨b1, b2⟩ := posL_asc s (words v.2.2) 0
    refine ⟨⟨⟨k, hk, by rw [hkv], ⟨fun z hz => ?_, a1⟩, ⟨fun z hz => ?_, b1⟩⟩, ?_, ?_⟩, ?_⟩
    · have := a2 z hz
      rw [hkv]
      unfold szF
      omega
    · have := b2 z hz
      rw [hkv]
      unfold szF
      omega
    · simp only
      rcases Nat.eq_zero_or_pos ((posL s 0 (words v.2.1)).length + (posL s 0 (words v.2.2)).length) with q | q
      · exact absurd ⟨List.eq_nil_of_length_eq_zero (by omega), List.eq_nil_of_length_eq_zero (by omega)⟩ hne
      · exact q
    · have h1 := pos_few s v.2.1
      have h2 := pos_few s v.2.2
      have h3 := hgv.2.2.1
      have h4 := hgv.2.2.2.1
      simp only
      omega
    · by_cases g : posL s 0 (words v.2.1) = []
      · have g2 : ¬ posL s 0 (words v.2.2) = [] := fun g2 => hne ⟨g, g2⟩
        rw [posL_nil_iff] at g2
        simp only [ne_eq, Classical.not_forall, Classical.not_not] at g2
        obtain ⟨w, hw, e⟩ := g2
        rw [← e]
        exact stem_ok (words_ok _ _ w hw)
      · rw [posL_nil_iff] at g
        simp only [ne_eq, Classical.not_forall, Classical.not_not] at g
        obtain ⟨w, hw, e⟩ := g
        rw [← e]
        exact stem_ok (words_ok _ _ w hw)
/-- what a term of a right index is -/
structure TmGood (E : List EnD) (t : TmD) : Prop where
  word : wordOk t.1
  ne : t.2 ≠ []
  asc : Asc (fun p : PoD => p.1) t.2
  po : ∀ p ∈ t.2, PoOk E p
  few : t.2.length ≤ E.length
theorem IxOk.good {E : List EnD} {x : IxD} (h : IxOk E x) (hE : OkE E) {t : TmD} (ht : t ∈ x.terms) : TmGood E t := by
  obtain ⟨h1, h2⟩ := h.mem ht
  refine ⟨?_, h2, by rw [h1]; exact listF_asc hE.asc, fun p hp => (po_ok hE.good (by rw [← h1]; exact hp)).1, by rw [h1]; exact listF_len _ _⟩
  cases hl : t.2 with
  | nil => exact absurd hl h2
  | cons p l => exact (po_ok hE.good (p := p) (by rw [← h1, hl]; exact List.mem_cons_self)).2

/-! ### know.checkPositions, of places that are right -/
set_option maxRecDepth 100000 in
set_option maxHeartbeats 4000000 in
theorem checkPositions_ok (v : Value) (l : List Int) (size : Int) (w : World) (h : IntsAt w v l) (hp : PosOk l size) (hl : l.length ≤ 1000000) (hs0 : 0 ≤ size) (hs : size ≤ 1000000) :
    Calls Try.prog 56 #[v, .int .i64 size] w fun e w' => e = .returned (.int .i64 0) ∧ Below w.heap.size w w' := by
  obtain ⟨a, c, rfl⟩ := SliceAt.len h.1
  have hla : 0 < l.length → ∃ b off, a = some ⟨b, off, none⟩ := fun h0 => by
    obtain ⟨b, off, cap, hv, _⟩ := SliceAt.at h.1 h0
    simp only [Value.slice.injEq] at hv
    exact ⟨b, off, hv.1⟩
  have hsz : IntKind.i64.wrap (size - 1) = size - 1 := IntWalk.i64_in _ (by omega)
  have H := Lib.hid h
  have HP := Lib.hid hp
  clear h hp
  go_enter Try.func56, Try.ntmps56
  go_wp2_with fail
  go_loopw [11] (fun qv wr => ∃ i : Nat, qv = .int .i64 ((i : Nat) : Int) ∧ i ≤ l.length ∧ wr = w) (fun qv _ => l.length - (intOf qv).toNat)
  case atStart => exact ⟨0, rfl, Nat.zero_le _, rfl⟩
  case round =>
    obtain ⟨i, rfl, hi, rfl⟩ := hrel
    by_cases hlt : i < l.length
    · obtain ⟨b, off, ha⟩ := hla (by omega)
      subst ha
      have c0 := (H.out.cells (by omega)).2 i hlt
      have hb := HP.out.lo l[i] (List.getElem_mem _)
      rw [List.getD_eq_getElem?_getD, List.getElem?_eq_getElem hlt, Option.getD_some] at c0
      generalize l[i] = z at *
      go_wp2_with fail
      refine (within_any z 0 (size - 1) _).mono ?_
      rintro e w2 ⟨rfl, rfl⟩
      have q1 : (decide (0 ≤ z) && decide (z ≤ size - 1)) = true := by rw [Bool.and_eq_true, decide_eq_true_iff, decide_eq_true_iff]; omega
      rw [q1]
      go_wp2_with fail
      go_roundw
      case rel => exact ⟨i + 1, by go_num, hlt, by trivial⟩
      case measure => simp [intOf]; omega
    · obtain rfl : i = l.length := by omega
      go_wp2_with fail
      go_loopw [23] (fun qv wr2 => ∃ i : Nat, qv = .int .i64 ((i : Nat) : Int) ∧ i ≤ l.length ∧ wr2 = wr) (fun qv _ => l.length - (intOf qv).toNat)
      case atStart => exact ⟨0, rfl, Nat.zero_le _, rfl⟩
      case round =>
        obtain ⟨i, rfl, hi, rfl⟩ := hrel
        by_cases hlt : i < l.length
        · obtain ⟨b, off, ha⟩ := hla (by omega)
          subst ha
          have c0 := (H.out.cells (by omega)).2 i hlt
          rw [List.getD_eq_getElem?_getD, List.getElem?_eq_getElem hlt, Option.getD_some] at c0
          by_cases h0 : i = 0
          · subst h0
            have c2 : wr.cell? ⟨b, off, none⟩ = some (.int .i64 l[0]) := c0
            clear c0
            generalize l[0] = z at *
            go_wp2_with fail
            go_roundw
            case rel => exact ⟨0 + 1, by go_num, hlt, by trivial⟩
            case measure => simp [intOf]; omega
          · obtain ⟨m, rfl⟩ : ∃ m, i = m + 1 := ⟨i - 1, by omega⟩
            have hm : m < l.length := by omega
            have c1 := (H.out.cells (by omega)).2 m hm
            rw [List.getD_eq_getElem?_getD, List.getElem?_eq_getElem hm, Option.getD_some] at c1
            have hlt2 := List.pairwise_iff_getElem.1 HP.out.asc m (m + 1) hm hlt (by omega)
            have c0 : wr.cell? ⟨b, off + (m + 1), none⟩ = some (.int .i64 l[m + 1]) := c0
            generalize l[m + 1] = z at *
            generalize l[m] = y at *
            have q1 : decide (z ≤ y) = false := decide_eq_false (by omega)
            have q2 : decide ((0 : Int) < ((m + 1 : Nat) : Int)) = true := decide_eq_true (by omega)
            have q3 : IntKind.i64.wrap (((m + 1 : Nat) : Int) - 1) = (m : Int) := by rw [IntWalk.i64_in _ (by omega)]; omega
            clear hlt2
            go_wp2_with fail
            go_roundw
            case rel => exact ⟨m + 1 + 1, by go_num, hlt, by trivial⟩
            case measure => simp [intOf]; omega
        · obtain rfl : i = l.length := by omega
          go_wp2_with fail
          go_ret
          exact ⟨rfl, Below.refl _ _⟩
end Go.Proofs.Ytfjcbclakgidkaa
