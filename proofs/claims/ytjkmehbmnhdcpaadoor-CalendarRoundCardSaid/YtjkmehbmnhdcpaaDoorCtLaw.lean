/- Plain laws of a calendar's text: its lines, what they are cut and split into, and what a reader makes of them. No program in sight. -/
import Derived.Test.YtjkmehbmnhdcpaaDoorCalLaw
import Derived.Lib.SplitLaws
import Derived.Lib.Split
namespace Go.Proofs.YtjkmehbmnhdcpaaDoor

/-- the words of the four kinds of lines -/
def wordL : Nat → List UInt8
  | 0 => [122, 111, 110, 101]
  | 1 => [99, 104, 97, 110, 103, 101]
  | 2 => [115, 104, 105, 102, 116]
  | _ => [100, 97, 121]
def numsL (ns : List Int) : List UInt8 := ns.flatMap fun n => 32 :: Lib.itoa n
def lineL (k : Nat) (ns : List Int) : List UInt8 := wordL k ++ numsL ns
/-- a line: its kind, its numbers -/
abbrev Ln := Nat × List Int
def textL (ls : List Ln) : List UInt8 := ls.flatMap fun x => lineL x.1 x.2 ++ [10]
def spNums (x : Int × List Shf) : List Int := x.1 :: x.2.flatMap fun s => [s.2.1, s.2.2]
def calLns (c : CalD) : List Ln := (0, [c.off]) :: ((c.cs.map fun x => (1, [x.1, x.2])) ++ (c.wk.map fun x => (2, [x.1, x.2.1, x.2.2])) ++ (c.sps.map fun x => (3, spNums x)))

theorem itoa_no (n : Int) (b : UInt8) (h : b = 10 ∨ b = 32) : b ∉ Lib.itoa n := itoa_not n b (by rcases h with rfl | rfl <;> decide) (by rcases h with rfl | rfl <;> exact .inl (by decide))
theorem word_no (k : Nat) (b : UInt8) (h : b = 10 ∨ b = 32) : b ∉ wordL k := by
  unfold wordL
  rcases h with rfl | rfl <;> split <;> decide
theorem nums_no (ns : List Int) : (10 : UInt8) ∉ numsL ns := by
  intro h
  obtain ⟨n, _, hn⟩ := List.mem_flatMap.1 h
  rcases List.mem_cons.1 hn with g | g
  · cases g
  · exact itoa_no n 10 (.inl rfl) g
theorem line_no (k : Nat) (ns : List Int) : (10 : UInt8) ∉ lineL k ns := by
  unfold lineL
  rw [List.mem_append]
  rintro (h | h)
  · exact word_no k 10 (.inl rfl) h
  · exact nums_no ns h
theorem cut_line (x : Ln) (r : List Ln) : Lib.cut (textL (x :: r)) [10] = (lineL x.1 x.2, textL r, true) := by
  unfold textL
  rw [List.flatMap_cons, List.append_assoc]
  exact cut_at 10 _ _ (line_no _ _)
theorem split_nums : ∀ (ns : List Int) (w : List UInt8), (32 : UInt8) ∉ w → Lib.splitK [32] 0 ns.length (w ++ numsL ns) = w :: ns.map Lib.itoa
  | [], w, _ => by
    unfold numsL
    rw [List.flatMap_nil, List.append_nil]
    rfl
  | n :: r, w, h => by
    have e : w ++ numsL (n :: r) = w ++ 32 :: (Lib.itoa n ++ numsL r) := by unfold numsL; rw [List.flatMap_cons]; rfl
    have hi := index_at 32 w (Lib.itoa n ++ numsL r) h
    rw [e, List.length_cons]
    unfold Lib.splitK
    have hm : ¬ (Lib.index (w ++ 32 :: (Lib.itoa n ++ numsL r)) [32] == -1) = true := fun g => by rw [hi] at g; have := beq_iff_eq.1 g; omega
    rw [if_neg hm, hi]
    simp only [Int.toNat_natCast, List.length_cons, List.length_nil, Nat.zero_add, Nat.add_zero, List.map_cons]
    have h1 : (w ++ 32 :: (Lib.itoa n ++ numsL r)).take w.length = w := by simp
    have h2 : (w ++ 32 :: (Lib.itoa n ++ numsL r)).drop (w.length + 1) = Lib.itoa n ++ numsL r := by
      rw [List.drop_append]
      simp
    rw [h1, h2, split_nums r (Lib.itoa n) (itoa_no n 32 (.inr rfl))]
theorem count_nums (ns : List Int) (w : List UInt8) (h : (32 : UInt8) ∉ w) : Lib.count (w ++ numsL ns) [32] = ns.length := by
  rw [Lib.count_one, List.count_append, List.count_eq_zero.2 h, Nat.zero_add]
  induction ns with
  | nil => rfl
  | cons n r ih =>
    have e : numsL (n :: r) = 32 :: (Lib.itoa n ++ numsL r) := by unfold numsL; rw [List.flatMap_cons]; rfl
    rw [e, List.count_cons, List.count_append, List.count_eq_zero.2 (itoa_no n 32 (.inr rfl)), ih]
    simp
theorem split_line (k : Nat) (ns : List Int) : Lib.splitK [32] 0 (Lib.count (lineL k ns) [32]) (lineL k ns) = wordL k :: ns.map Lib.itoa := by
  unfold lineL
  rw [count_nums ns _ (word_no k 32 (.inr rfl))]
  exact split_nums ns _ (word_no k 32 (.inr rfl))

/-- what a reader makes of one more line -/
def pairsL : List Int → List Shf
  | a :: b :: r => (0, a, b) :: pairsL r
  | _ => []
def pushL (d : CalD) (x : Ln) : CalD :=
  match x.1, x.2 with
  | 0, [n] => { d with off := n }
  | 1, [a, o] => { d with cs := d.cs ++ [(a, o)] }
  | 2, [a, b, c] => { d with wk := d.wk ++ [(a, b, c)] }
  | 3, n :: r => { d with sps := d.sps ++ [(n, pairsL r)] }
  | _, _ => d
theorem pairs_flat : ∀ (l : List Shf), (∀ s ∈ l, s.1 = 0) → pairsL (l.flatMap fun s => [s.2.1, s.2.2]) = l
  | [], _ => rfl
  | s :: r, h => by
    have ih := pairs_flat r (fun x hx => h x (List.mem_cons_of_mem _ hx))
    have h0 := h s List.mem_cons_self
    rw [List.flatMap_cons]
    simp only [List.cons_append, List.nil_append, pairsL]
    rw [ih]
    obtain ⟨s1, s2, s3⟩ := s
    simp only at h0 ⊢
    rw [h0]
theorem push_cs : ∀ (l : List (Int × Int)) (d : CalD), (l.map fun x => ((1, [x.1, x.2]) : Ln)).foldl pushL d = { d with cs := d.cs ++ l }
  | [], d => by simp
  | x :: r, d => by
    rw [List.map_cons, List.foldl_cons, push_cs r]
    simp [pushL]
theorem push_wk : ∀ (l : List Shf) (d : CalD), (l.map fun x => ((2, [x.1, x.2.1, x.2.2]) : Ln)).foldl pushL d = { d with wk := d.wk ++ l }
  | [], d => by simp
  | x :: r, d => by
    rw [List.map_cons, List.foldl_cons, push_wk r]
    simp [pushL]
theorem push_sps : ∀ (l : List (Int × List Shf)) (d : CalD), (∀ x ∈ l, ∀ s ∈ x.2, s.1 = 0) → (l.map fun x => ((3, spNums x) : Ln)).foldl pushL d = { d with sps := d.sps ++ l }
  | [], d, _ => by simp
  | x :: r, d, h => by
    rw [List.map_cons, List.foldl_cons, push_sps r _ (fun y hy => h y (List.mem_cons_of_mem _ hy))]
    have := pairs_flat x.2 (h x List.mem_cons_self)
    simp [pushL, spNums, this]
theorem push_all (c : CalD) (h : ∀ x ∈ c.sps, ∀ s ∈ x.2, s.1 = 0) : (calLns c).foldl pushL ⟨0, [], [], []⟩ = c := by
  unfold calLns
  rw [List.foldl_cons, List.foldl_append, List.foldl_append, push_cs, push_wk, push_sps _ _ h]
  simp [pushL]
theorem fine_dated {c : CalD} (h : CalFine c) : ∀ x ∈ c.sps, ∀ s ∈ x.2, s.1 = 0 := by
  intro x hx s hs
  obtain ⟨i, hi, rfl⟩ := List.mem_iff_getElem.1 hx
  exact ((h.spc i hi).shifts.mem s hs).day rfl

/-- a line that a reader takes behind one of a kind -/
structure LnOk (before : Int) (x : Ln) : Prop where
  kind : x.1 ≤ 3
  le : before ≤ (x.1 : Int)
  first : before < 0 → x.1 = 0
  next : before = 0 → x.1 ≠ 0
  n0 : x.1 = 0 → x.2.length = 1
  n1 : x.1 = 1 → x.2.length = 2
  n2 : x.1 = 2 → x.2.length = 3
  n3 : x.1 = 3 → x.2.length % 2 = 1
  few : x.2.length ≤ 25
  nums : ∀ n ∈ x.2, n.natAbs < 10 ^ 9
def LnsOk : Int → List Ln → Prop
  | _, [] => True
  | k, x :: r => LnOk k x ∧ LnsOk x.1 r
theorem lns_sps : ∀ (l : List (Int × List Shf)) (k : Int), 0 ≤ k → k ≤ 3 → (∀ x ∈ l, x.2.length ≤ 12 ∧ ∀ n ∈ spNums x, n.natAbs < 10 ^ 9) → LnsOk k (l.map fun x => ((3, spNums x) : Ln))
  | [], _, _, _, _ => True.intro
  | x :: r, k, h1, h2, h => by
    obtain ⟨g1, g2⟩ := h x List.mem_cons_self
    have hlen : (spNums x).length = 2 * x.2.length + 1 := by
      unfold spNums
      rw [List.length_cons]
      congr 1
      clear g1 g2 h
      generalize x.2 = l
      induction l with
      | nil => rfl
      | cons s t ih => rw [List.flatMap_cons, List.length_append, ih, List.length_cons]; simp; omega
    refine ⟨⟨by simp, by simpa using h2, fun h => by omega, fun _ => by simp, fun h => by simp at h, fun h => by simp at h, fun h => by simp at h, fun _ => by rw [hlen]; omega, by show (spNums x).length ≤ 25; rw [hlen]; omega, g2⟩, ?_⟩
    exact lns_sps r 3 (by omega) (by omega) (fun y hy => h y (List.mem_cons_of_mem _ hy))
theorem lns_wk : ∀ (l : List Shf) (k : Int) (r : List Ln), 0 ≤ k → k ≤ 2 → (∀ x ∈ l, ∀ n ∈ [x.1, x.2.1, x.2.2], n.natAbs < 10 ^ 9) → (∀ k : Int, 0 ≤ k → k ≤ 2 → LnsOk k r) → LnsOk k ((l.map fun x => ((2, [x.1, x.2.1, x.2.2]) : Ln)) ++ r)
  | [], k, r, h1, h2, _, hr => hr k h1 h2
  | x :: t, k, r, h1, h2, h, hr => by
    refine ⟨⟨by simp, by simpa using h2, fun h => by omega, fun h => by simp, fun h => by simp at h, fun h => by simp at h, fun _ => rfl, fun h => by simp at h, by simp, h x List.mem_cons_self⟩, ?_⟩
    exact lns_wk t 2 r (by omega) (by omega) (fun y hy => h y (List.mem_cons_of_mem _ hy)) hr
theorem lns_cs : ∀ (l : List (Int × Int)) (k : Int) (r : List Ln), 0 ≤ k → k ≤ 1 → (∀ x ∈ l, ∀ n ∈ [x.1, x.2], n.natAbs < 10 ^ 9) → (∀ k : Int, 0 ≤ k → k ≤ 1 → LnsOk k r) → LnsOk k ((l.map fun x => ((1, [x.1, x.2]) : Ln)) ++ r)
  | [], k, r, h1, h2, _, hr => hr k h1 h2
  | x :: t, k, r, h1, h2, h, hr => by
    refine ⟨⟨by simp, by simpa using h2, fun h => by omega, fun h => by simp, fun h => by simp at h, fun _ => rfl, fun h => by simp at h, fun h => by simp at h, by simp, h x List.mem_cons_self⟩, ?_⟩
    exact lns_cs t 1 r (by omega) (by omega) (fun y hy => h y (List.mem_cons_of_mem _ hy)) hr
theorem lns_cal {c : CalD} (h : CalFine c) : LnsOk (-1) (calLns c) := by
  have hz := h.zone
  have hcs := prts_cs hz.ok
  unfold calLns
  refine ⟨⟨by simp, by simp, fun _ => by simp, fun h => by omega, fun _ => rfl, fun h => by simp at h, fun h => by simp at h, fun h => by simp at h, by simp, fun n hn => ?_⟩, ?_⟩
  · have e := List.mem_singleton.1 hn
    have := hz.o1
    have := hz.o2
    subst e
    have : c.off.natAbs ≤ 1440 := by omega
    exact Nat.lt_of_le_of_lt this (by decide)
  · rw [List.append_assoc]
    refine lns_cs c.cs 0 _ (by omega) (by omega) (fun x hx n hn => ?_) (fun k h1 h2 => lns_wk c.wk k _ h1 (by omega) (fun x hx n hn => ?_) (fun k h1 h2 => lns_sps c.sps k h1 (by omega) (fun x hx => ?_)))
    · obtain ⟨g1, g2, g3, g4⟩ := hcs x hx
      have : n.natAbs ≤ 3000000 := by
        rcases List.mem_cons.1 hn with e | hn
        · subst e; omega
        · have e := List.mem_singleton.1 hn
          subst e; omega
      exact Nat.lt_of_le_of_lt this (by decide)
    · obtain ⟨i, hi, rfl⟩ := List.mem_iff_getElem.1 hx
      have g := h.week.each i hi
      have g1 := g.lo; have g2 := g.hi; have g3 := g.f0; have g4 := g.f1; have g5 := g.t0; have g6 := g.t1
      have : n.natAbs ≤ 3000000 := by
        rcases List.mem_cons.1 hn with e | hn
        · subst e; omega
        · rcases List.mem_cons.1 hn with e | hn
          · subst e; omega
          · have e := List.mem_singleton.1 hn
            subst e; omega
      exact Nat.lt_of_le_of_lt this (by decide)
    · obtain ⟨i, hi, rfl⟩ := List.mem_iff_getElem.1 hx
      have g := h.spc i hi
      refine ⟨g.len, fun n hn => ?_⟩
      have g1 := g.lo
      have g2 := g.hi
      have : n.natAbs ≤ 3000000 := by
        rcases List.mem_cons.1 hn with e | hn
        · subst e; omega
        · obtain ⟨s, hs, hn⟩ := List.mem_flatMap.1 hn
          obtain ⟨j, hj, rfl⟩ := List.mem_iff_getElem.1 hs
          have q := g.shifts.each j hj
          have q3 := q.f0; have q4 := q.f1; have q5 := q.t0; have q6 := q.t1
          rcases List.mem_cons.1 hn with e | hn
          · subst e; omega
          · have e := List.mem_singleton.1 hn
            subst e; omega
      exact Nat.lt_of_le_of_lt this (by decide)
where
  prts_cs : ∀ {cs : List (Int × Int)} {f off : Int}, ZOk f off cs → ∀ x ∈ cs, 1 ≤ x.1 ∧ x.1 ≤ 3000000 ∧ -1440 ≤ x.2 ∧ x.2 ≤ 1440
  | [], _, _, _, x, hx => by cases hx
  | (a, o) :: r, f, off, h, x, hx => by
    obtain ⟨⟨q1, q2⟩, ⟨q3, q4⟩, _, _, q6⟩ := h
    rcases List.mem_cons.1 hx with rfl | hx
    · exact ⟨q1, q2, q3, q4⟩
    · exact prts_cs q6 x hx

end Go.Proofs.YtjkmehbmnhdcpaaDoor
