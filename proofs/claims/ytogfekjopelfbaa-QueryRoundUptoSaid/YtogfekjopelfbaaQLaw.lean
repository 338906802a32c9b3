/- Plain laws of queries: what QueryText writes can be read. -/
import Derived.Test.YtogfekjopelfbaaRead
import Derived.Lib.IndexLaws
namespace Go.Proofs.Ytogfekjopelfbaa

theorem wordsF_le : ∀ (n : Nat) (l : List UInt8), ∀ x ∈ wordsF n l, x.length ≤ l.length
  | 0, l, x, h => by simp [wordsF] at h
  | n + 1, l, x, h => by
    unfold wordsF at h
    by_cases hl : l = []
    · simp [hl] at h
    · rw [if_neg hl, List.mem_append] at h
      rcases h with h | h
      · split at h
        · rw [List.mem_singleton] at h
          rw [h, List.length_map]
          exact (List.takeWhile_sublist _).length_le
        · cases h
      · have := wordsF_le n _ x h
        rw [List.length_drop] at this
        omega

/-- a word that stands for itself -/
structure Good (l : List UInt8) : Prop where
  run : ∀ c ∈ l, wordB c = true
  pos : 0 < l.length
  le : l.length ≤ 30
  low : l.map lowB = l

theorem takeWhile_all {α : Type} (p : α → Bool) : ∀ (l r : List α), (∀ c ∈ l, p c = true) → (∀ c, r.head? = some c → p c = false) → (l ++ r).takeWhile p = l
  | [], r, _, h => by
    cases r with
    | nil => rfl
    | cons c r => simp [List.takeWhile_cons, h c rfl]
  | c :: l, r, h1, h2 => by
    rw [List.cons_append, List.takeWhile_cons, if_pos (h1 c List.mem_cons_self), takeWhile_all p l r (fun x hx => h1 x (List.mem_cons_of_mem _ hx)) h2]

theorem takeWhile_mem {α : Type} (p : α → Bool) : ∀ (l : List α), ∀ c ∈ l.takeWhile p, p c = true
  | [], c, h => by cases h
  | x :: l, c, h => by
    rw [List.takeWhile_cons] at h
    split at h
    · rcases List.mem_cons.1 h with rfl | h
      · assumption
      · exact takeWhile_mem p l c h
    · cases h

theorem good_of {l : List UInt8} (h : words l = [l]) : Good l := by
  have hne : l ≠ [] := by
    rintro rfl
    simp [words_nil] at h
  have hpos : 0 < l.length := List.length_pos_iff.2 hne
  rw [words_step hne] at h
  split at h
  · rename_i hc
    have h1 : (l.takeWhile wordB).map lowB = l := by
      have := congrArg List.head? h
      simpa using this
    have h2 : (l.takeWhile wordB).length = l.length := by
      have := congrArg List.length h1
      simpa using this
    have h3 : l.takeWhile wordB = l := (List.takeWhile_prefix (l := l) wordB).eq_of_length h2
    rw [h3] at h1 hc
    refine ⟨fun c hcm => ?_, hpos, hc.2, h1⟩
    rw [← h3] at hcm
    exact takeWhile_mem wordB l c hcm
  · rw [List.nil_append] at h
    have h1 := wordsF_le _ _ l (show l ∈ words _ by rw [h]; exact List.mem_singleton.2 rfl)
    rw [List.length_drop] at h1
    omega

theorem words_good {l r : List UInt8} (h : Good l) (hr : ∀ c, r.head? = some c → wordB c = false) : words (l ++ r) = l :: words (r.drop 1) := by
  have hne : l ++ r ≠ [] := by
    intro e
    have h1 := congrArg List.length e
    have h2 := h.pos
    simp at h1
    simp [h1.1] at h2
  have e := takeWhile_all wordB l r h.run hr
  rw [words_step hne, e, if_pos ⟨h.pos, h.le⟩, h.low, ← List.drop_drop, List.drop_left]
  rfl

theorem words_join : ∀ (ls : List (List UInt8)), (∀ l ∈ ls, Good l) → words (Lib.join ls [32]) = ls
  | [], _ => rfl
  | [l], h => by
    have := words_good (h l List.mem_cons_self) (r := []) (fun c hc => by cases hc)
    rw [List.append_nil] at this
    rw [Lib.join_one, this]
    rfl
  | l :: m :: r, h => by
    have e : Lib.join (l :: m :: r) [32] = l ++ 32 :: Lib.join (m :: r) [32] := by
      rw [Lib.join_cons, Lib.join_cons]
      simp [Lib.joinTail]
    rw [e, words_good (h l List.mem_cons_self) (fun c hc => by cases hc; rfl), List.drop_one, List.tail_cons, words_join (m :: r) (fun x hx => h x (List.mem_cons_of_mem _ hx))]

theorem join_bytes : ∀ (ls : List (List UInt8)), (∀ l ∈ ls, Good l) → ∀ c ∈ Lib.join ls [32], wordB c = true ∨ c = 32
  | [], _, c, hc => by simp [Lib.join_nil] at hc
  | [l], h, c, hc => by
    rw [Lib.join_one] at hc
    exact .inl ((h l List.mem_cons_self).run c hc)
  | l :: m :: r, h, c, hc => by
    have e : Lib.join (l :: m :: r) [32] = l ++ 32 :: Lib.join (m :: r) [32] := by
      rw [Lib.join_cons, Lib.join_cons]
      simp [Lib.joinTail]
    rw [e, List.mem_append, List.mem_cons] at hc
    rcases hc with hc | hc | hc
    · exact .inl ((h l List.mem_cons_self).run c hc)
    · exact .inr hc
    · exact join_bytes (m :: r) (fun x hx => h x (List.mem_cons_of_mem _ hx)) c hc

theorem nextIs_at {s : ByteArray} {p : Nat} {c : UInt8} {r : List UInt8} (h : s.data.toList.drop p = c :: r) (n : Int) : nextIs s p n = decide ((c.toNat : Int) = n) := by
  have : s.data.toList[p]? = some c := by
    have := congrArg List.head? h
    rw [List.head?_drop] at this
    simpa using this
  simp only [nextIs, this]
theorem nextIs_end {s : ByteArray} {p : Nat} (h : s.data.toList.drop p = []) (n : Int) : nextIs s p n = false := by
  have : s.data.toList[p]? = none := by
    have := congrArg List.head? h
    rw [List.head?_drop] at this
    simpa using this
  simp only [nextIs, this]
theorem drop_more {l a r : List UInt8} {p : Nat} (h : l.drop p = a ++ r) : l.drop (p + a.length) = r := by
  rw [← List.drop_drop, h, List.drop_left]
theorem drop_len {l a : List UInt8} {p : Nat} (h : l.drop p = a) (hp : p ≤ l.length) : p + a.length = l.length := by
  rw [← h, List.length_drop]; omega

/-- what may stand behind a part -/
def Tail (t : List UInt8) : Prop := t = [] ∨ ∃ r, t = 32 :: r
theorem tail_head {t : List UInt8} (h : Tail t) : ∀ c, t.head? = some c → c = 32 := by
  rcases h with rfl | ⟨r, rfl⟩
  · intro c hc; cases hc
  · intro c hc; cases hc; rfl

theorem wordB_not {c : UInt8} (h : wordB c = true) : c ≠ 45 ∧ c ≠ 34 ∧ c ≠ 32 ∧ c ≠ 42 := by
  refine ⟨?_, ?_, ?_, ?_⟩ <;> rintro rfl <;> revert h <;> decide

theorem idx_of : ∀ (l r : List UInt8), (∀ c ∈ l, c ≠ 34) → Lib.indexByte (l ++ 34 :: r) 34 = (l.length : Int)
  | [], r, _ => by simp [Lib.indexByte]
  | c :: l, r, h => by
    have h1 := idx_of l r (fun x hx => h x (List.mem_cons_of_mem _ hx))
    have h2 : (c == 34) = false := by simpa using h c List.mem_cons_self
    rw [List.cons_append]
    unfold Lib.indexByte
    rw [h2, h1]
    simp only [Bool.false_eq_true, if_false]
    have h3 : (((l.length : Nat) : Int) == -1) = false := by simp
    rw [h3]
    simp

theorem data_len (s : ByteArray) : s.data.toList.length = s.size := by simp

/-- what an allowed part is -/
theorem okPart_facts {x : PartD} (h : okPart x = true) :
    (0 ≤ x.kind ∧ x.kind ≤ 2) ∧ 0 < x.ws.length ∧ (x.kind = 1 ∨ x.ws.length = 1) ∧ (∀ l ∈ x.ws.map (·.data.toList), Good l) := by
  simp only [okPart, shapeOk, Bool.and_eq_true, decide_eq_true_eq] at h
  obtain ⟨⟨⟨h1, h2⟩, h3⟩, h4⟩ := h
  refine ⟨h1, by omega, ?_, fun l hl => ?_⟩
  · rcases h3 with h3 | h3
    · exact .inl h3
    · exact .inr (by omega)
  · obtain ⟨s, hs, rfl⟩ := List.mem_map.1 hl
    have := List.all_eq_true.1 h4 s hs
    exact good_of (of_decide_eq_true this)

theorem extract_of_drop {s : ByteArray} {p : Nat} {a r : List UInt8} (h : s.data.toList.drop p = a ++ r) : (s.extract p (p + a.length)).data.toList = a := by
  rw [Lib.extract_data, h, show p + a.length - p = a.length from by omega, List.take_left]

theorem join_pos {ls : List (List UInt8)} (h : ∀ l ∈ ls, Good l) (hl : 0 < ls.length) : ∃ c r, Lib.join ls [32] = c :: r ∧ wordB c = true := by
  cases ls with
  | nil => simp at hl
  | cons l ls =>
    have hg := h l List.mem_cons_self
    have hp := hg.pos
    cases l with
    | nil => simp at hp
    | cons c l =>
      refine ⟨c, l ++ Lib.joinTail [32] ls, ?_, hg.run c List.mem_cons_self⟩
      rw [Lib.join_cons]
      rfl

theorem reads_body {s : ByteArray} {p1 : Nat} {x : PartD} {t : List UInt8} (hx : okPart x = true) (hp : p1 ≤ s.size)
    (hd : s.data.toList.drop p1 = (if x.kind = 1 then [34] ++ (joinS x.ws).data.toList ++ [34] else if x.kind = 2 then (joinS x.ws).data.toList ++ [42] else (joinS x.ws).data.toList) ++ t) (ht : Tail t) :
    ∃ q, q = p1 + (if x.kind = 1 then [34] ++ (joinS x.ws).data.toList ++ [34] else if x.kind = 2 then (joinS x.ws).data.toList ++ [42] else (joinS x.ws).data.toList).length ∧
    ((∃ e1 : Nat, nextIs s p1 34 = true ∧ Lib.indexByte (s.data.toList.drop (p1 + 1)) 34 = (e1 : Int) ∧ p1 + 1 + e1 + 1 ≤ s.size ∧ wordsS (s.extract (p1 + 1) (p1 + 1 + e1)) = x.ws.map (·.data.toList) ∧ 0 < (x.ws.map (·.data.toList)).length ∧ x.kind = 1 ∧ q = p1 + 1 + e1 + 1) ∨
     (∃ (n : Nat) (star : Bool), nextIs s p1 34 = false ∧ 1 ≤ n ∧ n ≤ 30 ∧ p1 + n ≤ s.size ∧ RunTo s p1 (p1 + n) ∧ (n = 30 ∨ s.size ≤ p1 + n ∨ ∃ h : p1 + n < s.size, inWordI (s[p1 + n].toNat : Int) = false) ∧ nextIs s (p1 + n) 42 = star ∧
       q = (if star then p1 + n + 1 else p1 + n) ∧ x.kind = (if star then 2 else 0) ∧ x.ws.map (·.data.toList) = [((s.extract p1 (p1 + n)).data.toList).map lowB])) := by
  obtain ⟨⟨hk0, hk2⟩, hpos, hk1, hgood⟩ := okPart_facts hx
  refine ⟨_, rfl, ?_⟩
  have hJ : (joinS x.ws).data.toList = Lib.join (x.ws.map (·.data.toList)) [32] := rfl
  rw [hJ] at hd ⊢
  have hsz := data_len s
  have hp' : p1 ≤ s.data.toList.length := by omega
  by_cases h1 : x.kind = 1
  · left
    rw [if_pos h1] at hd
    rw [if_pos h1]
    have hd1 : s.data.toList.drop p1 = 34 :: (Lib.join (x.ws.map (·.data.toList)) [32] ++ 34 :: t) := by rw [hd]; simp
    have hd2 : s.data.toList.drop (p1 + 1) = Lib.join (x.ws.map (·.data.toList)) [32] ++ 34 :: t := by
      have := drop_more (a := [34]) (r := Lib.join (x.ws.map (·.data.toList)) [32] ++ 34 :: t) (by rw [hd1]; rfl)
      exact this
    have hlen := congrArg List.length hd1
    rw [List.length_drop] at hlen
    simp only [List.length_cons, List.length_append] at hlen
    refine ⟨(Lib.join (x.ws.map (·.data.toList)) [32]).length, ?_, ?_, by omega, ?_, by simpa using hpos, h1, ?_⟩
    · rw [nextIs_at hd1]; rfl
    · rw [hd2]
      exact idx_of _ _ (fun c hc => by
        rcases join_bytes _ hgood c hc with h | rfl
        · exact (wordB_not h).2.1
        · decide)
    · unfold wordsS
      rw [extract_of_drop hd2, words_join _ hgood]
    · simp only [List.length_append, List.length_cons, List.length_nil]
      omega
  · right
    have hl1 : x.ws.length = 1 := hk1.resolve_left h1
    obtain ⟨w0, hw0⟩ : ∃ w0, x.ws = [w0] := List.length_eq_one_iff.1 hl1
    have hg : Good w0.data.toList := hgood _ (by rw [hw0]; simp)
    have hj : Lib.join (x.ws.map (·.data.toList)) [32] = w0.data.toList := by rw [hw0]; exact Lib.join_one _ _
    rw [hj] at hd
    rw [if_neg h1] at hd
    rw [if_neg h1, hj]
    obtain ⟨star, hstar⟩ : ∃ star : Bool, star = decide (x.kind = 2) := ⟨_, rfl⟩
    have hd1 : s.data.toList.drop p1 = w0.data.toList ++ ((if star then [42] else []) ++ t) := by
      rw [hd, hstar]
      by_cases h2 : x.kind = 2 <;> simp [h2]
    have hd2 := drop_more hd1
    have hlen := congrArg List.length hd1
    rw [List.length_drop, List.length_append] at hlen
    have hpos0 := hg.pos
    have hle0 := hg.le
    refine ⟨w0.data.toList.length, star, ?_, by omega, by omega, by omega, ?_, ?_, ?_, ?_, ?_, ?_⟩
    · obtain ⟨c, r, hc⟩ : ∃ c r, w0.data.toList = c :: r := by
        cases h : w0.data.toList with
        | nil => rw [h] at hpos0; simp at hpos0
        | cons c r => exact ⟨c, r, rfl⟩
      have hcw := hg.run c (by rw [hc]; exact List.mem_cons_self)
      rw [hc, List.cons_append] at hd1
      rw [nextIs_at hd1]
      have := (wordB_not hcw).2.1
      simp only [decide_eq_false_iff_not]
      intro e
      exact this (UInt8.toNat_inj.1 (by simpa using (show c.toNat = 34 by omega)))
    · intro j y hj h1' h2'
      have e : s.data.toList[j]? = (w0.data.toList)[j - p1]? := by
        have := congrArg (fun l => l[j - p1]?) hd1
        simp only [List.getElem?_drop] at this
        rw [show p1 + (j - p1) = j from by omega, List.getElem?_append_left (by omega)] at this
        exact this
      rw [e] at hj
      exact hg.run y (List.mem_of_getElem? hj)
    · cases hst : star with
      | true =>
        right; right
        rw [hst] at hd2
        have hat : s.data.toList[p1 + w0.data.toList.length]? = some 42 := by
          have := congrArg List.head? hd2
          rw [List.head?_drop] at this
          simpa using this
        have hlt : p1 + w0.data.toList.length < s.size := by
          obtain ⟨h', _⟩ := List.getElem?_eq_some_iff.1 hat
          omega
        refine ⟨hlt, ?_⟩
        rw [data_at s _ hlt] at hat
        rw [Option.some.inj hat]
        decide
      | false =>
        rw [hst] at hd2
        simp only [Bool.false_eq_true, if_false, List.nil_append] at hd2
        rcases ht with rfl | ⟨r, rfl⟩
        · right; left
          have := congrArg List.length hd2
          rw [List.length_drop, List.length_nil] at this
          omega
        · right; right
          have hat : s.data.toList[p1 + w0.data.toList.length]? = some 32 := by
            have := congrArg List.head? hd2
            rw [List.head?_drop] at this
            simpa using this
          have hlt : p1 + w0.data.toList.length < s.size := by
            obtain ⟨h', _⟩ := List.getElem?_eq_some_iff.1 hat
            omega
          refine ⟨hlt, ?_⟩
          rw [data_at s _ hlt] at hat
          rw [Option.some.inj hat]
          decide
    · cases hst : star with
      | true =>
        rw [hst] at hd2
        rw [nextIs_at (c := 42) (r := t) (by rw [hd2]; rfl)]
        rfl
      | false =>
        rw [hst] at hd2
        simp only [Bool.false_eq_true, if_false, List.nil_append] at hd2
        rcases ht with rfl | ⟨r, rfl⟩
        · exact nextIs_end hd2 _
        · rw [nextIs_at hd2]; rfl
    · by_cases h2 : x.kind = 2
      · rw [if_pos h2, hstar]
        simp [h2]
        omega
      · rw [if_neg h2, hstar]
        simp [h2]
    · rw [hstar]
      by_cases h2 : x.kind = 2
      · simp [h2]
      · simp [h2]; omega
    · rw [extract_of_drop hd1, hg.low, hw0]
      rfl

theorem reads_part {s : ByteArray} {p : Nat} {x : PartD} {t : List UInt8} (hx : okPart x = true) (hp : p ≤ s.size) (hd : s.data.toList.drop p = partL x ++ t) (ht : Tail t) :
    ReadsPart s p (p + (partL x).length) x.kind x.neg (x.ws.map (·.data.toList)) := by
  have hsz := data_len s
  have hlen := congrArg List.length hd
  rw [List.length_drop, List.length_append] at hlen
  obtain ⟨⟨hk0, hk2⟩, hpos, hk1, hgood⟩ := okPart_facts hx
  cases hn : x.neg with
  | true =>
    have hpl : partL x = 45 :: (if x.kind = 1 then [34] ++ (joinS x.ws).data.toList ++ [34] else if x.kind = 2 then (joinS x.ws).data.toList ++ [42] else (joinS x.ws).data.toList) := by
      unfold partL; rw [hn]; rfl
    rw [hpl, List.cons_append] at hd
    have hd1 := drop_more (a := [45]) (show s.data.toList.drop p = [45] ++ _ from hd)
    rw [hpl] at hlen ⊢
    simp only [List.length_cons] at hlen ⊢
    obtain ⟨q, rfl, h⟩ := reads_body (p1 := p + 1) hx (by omega) hd1 ht
    refine ⟨p + 1, ?_, by simp, ?_⟩
    · rw [nextIs_at hd]; rfl
    · rw [show p + ((if x.kind = 1 then [34] ++ (joinS x.ws).data.toList ++ [34] else if x.kind = 2 then (joinS x.ws).data.toList ++ [42] else (joinS x.ws).data.toList).length + 1) = p + 1 + (if x.kind = 1 then [34] ++ (joinS x.ws).data.toList ++ [34] else if x.kind = 2 then (joinS x.ws).data.toList ++ [42] else (joinS x.ws).data.toList).length from by omega]
      exact h
  | false =>
    have hpl : partL x = (if x.kind = 1 then [34] ++ (joinS x.ws).data.toList ++ [34] else if x.kind = 2 then (joinS x.ws).data.toList ++ [42] else (joinS x.ws).data.toList) := by
      unfold partL; rw [hn]; rfl
    obtain ⟨c, r, hcr, hcw⟩ := join_pos hgood (by simpa using hpos)
    have hc45 : ∃ c' r', partL x ++ t = c' :: r' ∧ c' ≠ 45 := by
      rw [hpl]
      have hJ : (joinS x.ws).data.toList = c :: r := hcr
      rw [hJ]
      by_cases h1 : x.kind = 1
      · rw [if_pos h1]
        exact ⟨34, _, rfl, by decide⟩
      · rw [if_neg h1]
        by_cases h2 : x.kind = 2
        · rw [if_pos h2]; exact ⟨c, _, rfl, (wordB_not hcw).1⟩
        · rw [if_neg h2]; exact ⟨c, _, rfl, (wordB_not hcw).1⟩
    obtain ⟨c', r', he, hne⟩ := hc45
    have hnx : nextIs s p 45 = false := by
      rw [nextIs_at (hd.trans he)]
      simp only [decide_eq_false_iff_not]
      intro e
      exact hne (UInt8.toNat_inj.1 (by simpa using (show c'.toNat = 45 by omega)))
    rw [hpl] at hd hlen ⊢
    obtain ⟨q, rfl, h⟩ := reads_body (p1 := p) hx (by omega) hd ht
    exact ⟨p, hnx, by simp, h⟩

theorem part_head {x : PartD} (hx : okPart x = true) : ∃ c r, partL x = c :: r ∧ c ≠ 32 := by
  obtain ⟨⟨hk0, hk2⟩, hpos, hk1, hgood⟩ := okPart_facts hx
  obtain ⟨c, r, hcr, hcw⟩ := join_pos hgood (by simpa using hpos)
  have hJ : (joinS x.ws).data.toList = c :: r := hcr
  unfold partL
  rw [hJ]
  cases x.neg with
  | true => exact ⟨45, _, rfl, by decide⟩
  | false =>
    by_cases h1 : x.kind = 1
    · rw [if_pos h1]; exact ⟨34, _, rfl, by decide⟩
    · rw [if_neg h1]
      by_cases h2 : x.kind = 2
      · rw [if_pos h2]; exact ⟨c, _, rfl, (wordB_not hcw).2.2.1⟩
      · rw [if_neg h2]; exact ⟨c, _, rfl, (wordB_not hcw).2.2.1⟩

theorem blank_zero {s : ByteArray} {p : Nat} {c : UInt8} {r : List UInt8} (h : s.data.toList.drop p = c :: r) (hc : c ≠ 32) : blankRun s p = 0 := by
  unfold blankRun
  rw [h, List.takeWhile_cons, if_neg (by simpa using hc)]
  rfl

theorem ws_bs (ws : List ByteArray) : ws = (ws.map (·.data.toList)).map bs := by
  rw [List.map_map]
  have : (bs ∘ fun s : ByteArray => s.data.toList) = id := by funext s; exact bs_of s
  rw [this, List.map_id]

theorem parses_join : ∀ (l : List PartD) (s : ByteArray) (p : Nat), (∀ x ∈ l, okPart x = true) → p ≤ s.size → s.data.toList.drop p = Lib.join (l.map partL) [32] → Parses s p l
  | [], s, p, _, hp, hd => by
    have := congrArg List.length hd
    rw [List.length_drop, data_len] at this
    simp [Lib.join_nil] at this
    show p = s.size
    omega
  | [x], s, p, h, hp, hd => by
    rw [List.map_singleton, Lib.join_one] at hd
    have hr := reads_part (t := []) (h x List.mem_cons_self) hp (by rw [hd, List.append_nil]) (.inl rfl)
    refine ⟨_, _, hr, ws_bs _, .inl ⟨?_, rfl⟩⟩
    have := drop_len hd (by rw [data_len]; exact hp)
    rw [data_len] at this
    exact this
  | x :: y :: r, s, p, h, hp, hd => by
    have e : Lib.join ((x :: y :: r).map partL) [32] = partL x ++ 32 :: Lib.join ((y :: r).map partL) [32] := by
      rw [List.map_cons, List.map_cons, Lib.join_cons, Lib.join_cons]
      simp [Lib.joinTail]
    rw [e] at hd
    have hr := reads_part (h x List.mem_cons_self) hp hd (.inr ⟨_, rfl⟩)
    have hd2 := drop_more hd
    have hd3 := drop_more (a := [32]) (show s.data.toList.drop (p + (partL x).length) = [32] ++ _ from hd2)
    have hd3' : s.data.toList.drop (p + (partL x).length + 1) = Lib.join ((y :: r).map partL) [32] := hd3
    obtain ⟨c, rr, hcr, hc⟩ := part_head (h y (by simp))
    have hb : blankRun s (p + (partL x).length + 1) = 0 := by
      refine blank_zero (c := c) (r := rr ++ Lib.joinTail [32] (r.map partL)) ?_ hc
      rw [hd3', List.map_cons, Lib.join_cons, hcr]
      rfl
    have hq : p + (partL x).length + 1 ≤ s.size := by
      have := congrArg List.length hd
      rw [List.length_drop, data_len, List.length_append, List.length_cons] at this
      omega
    refine ⟨_, _, hr, ws_bs _, .inr ⟨?_, ?_⟩⟩
    · rw [nextIs_at hd2]; rfl
    · rw [hb, Nat.add_zero]
      exact parses_join (y :: r) s _ (fun z hz => h z (List.mem_cons_of_mem _ hz)) hq hd3'

/-- what QueryText writes can be read: the parts themselves -/
theorem parses_query (l : List PartD) (h : l.all okPart = true) : Parses (queryS l) (blankRun (queryS l) 0) l := by
  have hx : ∀ x ∈ l, okPart x = true := List.all_eq_true.1 h
  have e : (queryS l).data.toList = Lib.join (l.map partL) [32] := by
    show Lib.join ((l.map fun x => bs (partL x)).map (·.data.toList)) [32] = _
    rw [List.map_map]
    rfl
  have hb : blankRun (queryS l) 0 = 0 := by
    cases l with
    | nil => unfold blankRun; rw [e]; rfl
    | cons x r =>
      obtain ⟨c, rr, hcr, hc⟩ := part_head (hx x List.mem_cons_self)
      refine blank_zero (c := c) (r := rr ++ Lib.joinTail [32] (r.map partL)) ?_ hc
      rw [List.drop_zero, e, List.map_cons, Lib.join_cons, hcr]
      rfl
  rw [hb]
  exact parses_join l _ 0 hx (by omega) (by rw [List.drop_zero, e])

end Go.Proofs.Ytogfekjopelfbaa
