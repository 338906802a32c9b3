/- A range over a function whose iterator keeps state of its own in cells: a contract of the iterator over any invariant of the loop that abides the turns of the iterator's own blocks, and the law of the statement under it. No program in sight. -/
import Derived.Test.YtemikhnkjligdaaGreatDoorQBase
import Derived.RangeFuncKeeps
import Derived.RangeFuncBound
import Derived.RangeFuncCalls
import Derived.RangeFuncLeaves
namespace Go.Proofs.YtemikhnkjligdaaGreatDoor
open Go Go.RowKit

abbrev Blocks := Nat → Prop
/-- whatever was there and lies outside of O is as it was -/
structure Turns (O : Blocks) (W W' : World) : Prop where
  os : W'.os = W.os
  tape : W'.tape = W.tape
  output : W'.output = W.output
  size : W.heap.size ≤ W'.heap.size
  block : ∀ k, k < W.heap.size → ¬ O k → W'.heap[k]? = W.heap[k]?
theorem Turns.refl (O : Blocks) (W : World) : Turns O W W := ⟨rfl, rfl, rfl, Nat.le_refl _, fun _ _ _ => rfl⟩
theorem Turns.mono {O O' : Blocks} {W W' : World} (h : Turns O W W') (ho : ∀ k, O k → O' k) : Turns O' W W' := ⟨h.os, h.tape, h.output, h.size, fun k hk hn => h.block k hk (fun g => hn (ho k g))⟩
theorem Turns.of_below {W W' : World} (h : Below W.heap.size W W') (O : Blocks) : Turns O W W' := ⟨h.os, h.tape, h.output, h.size, fun k hk _ => h.block k hk⟩
theorem Turns.alloc (O : Blocks) (W : World) (o : Obj) : Turns O W (W.alloc o) := Turns.of_below ((Below.refl _ _).alloc (Nat.le_refl _) o) O
theorem Turns.of_grown {O : Blocks} {W W' : World} {row : Option Nat} (h : W.grownBy W' row) (hr : ∀ k, row = some k → O k) : Turns O W W' :=
  ⟨h.os, h.tape, h.output, h.size, fun k hk hn => h.block k hk (fun e => hn (hr k e.symm))⟩
theorem Turns.putObj {O : Blocks} (W : World) {l : Nat} (o : Obj) (hl : O l) : Turns O W (W.putObj l o) := Turns.of_grown (grownBy_putObj' W l o) (fun k e => by cases e; exact hl)
theorem Turns.setCell {O : Blocks} (W : World) {b i : Nat} (v : Value) (hb : O b) : Turns O W (W.setCell ⟨b, i, none⟩ v) := Turns.of_grown (grownBy_set W b i v) (fun k e => by cases e; exact hb)
theorem Turns.trans {O : Blocks} {A B C : World} (h : Turns O A B) (k : Turns O B C) : Turns O A C :=
  ⟨k.os.trans h.os, k.tape.trans h.tape, k.output.trans h.output, Nat.le_trans h.size k.size, fun i hi hn => (k.block i (Nat.lt_of_lt_of_le hi h.size) hn).trans (h.block i hi hn)⟩
theorem Turns.below {O : Blocks} {n : Nat} {A W W' : World} (h : Turns O W W') (hb : Below n A W) (hn : n ≤ W.heap.size) (hO : ∀ k, O k → n ≤ k) : Below n A W' :=
  ⟨h.os.trans hb.os, h.tape.trans hb.tape, h.output.trans hb.output, Nat.le_trans hb.size h.size, fun k hk => (h.block k (by omega) (fun g => by have := hO k g; omega)).trans (hb.block k hk)⟩
theorem Turns.has {O : Blocks} {W W' : World} {b : Nat} {cs : Array Value} {t : TypeId} (h : Turns O W W') (hb : Has W b cs t) (ho : ¬ O b) : Has W' b cs t := (h.block b hb.lt ho).trans hb

/-- what a round must leave as it was -/
structure Held (O R : Blocks) (W W' : World) : Prop where
  size : W.heap.size ≤ W'.heap.size
  block : ∀ k, k < W.heap.size → O k ∨ R k → W'.heap[k]? = W.heap[k]?
theorem Held.refl (O R : Blocks) (W : World) : Held O R W W := ⟨Nat.le_refl _, fun _ _ _ => rfl⟩
theorem Held.trans {O R : Blocks} {A B C : World} (h : Held O R A B) (k : Held O R B C) : Held O R A C :=
  ⟨Nat.le_trans h.size k.size, fun i hi ho => (k.block i (Nat.lt_of_lt_of_le hi h.size) ho).trans (h.block i hi ho)⟩
theorem Held.mono {O R O' R' : Blocks} {W W' : World} (h : Held O R W W') (ho : ∀ k, O' k ∨ R' k → O k ∨ R k) : Held O' R' W W' := ⟨h.size, fun k hk g => h.block k hk (ho k g)⟩
theorem Held.of_turns {M O R : Blocks} {W W' : World} (h : Turns M W W') (hd : ∀ k, O k ∨ R k → ¬ M k) : Held O R W W' := ⟨h.size, fun k hk g => h.block k hk (hd k g)⟩
theorem Held.has {O R : Blocks} {W W' : World} {b : Nat} {cs : Array Value} {t : TypeId} (h : Held O R W W') (hb : Has W b cs t) (ho : O b ∨ R b) : Has W' b cs t := (h.block b hb.lt ho).trans hb

/-- an invariant of a loop abides the iterator's turns of its own blocks, and new blocks, some of which become the iterator's own -/
def Abides (J : Blocks → World → Prop) : Prop :=
  ∀ O W O' W', J O W → Turns O W W' → (∀ k, O' k → O k ∨ W.heap.size ≤ k) → (∀ k, O' k → k < W'.heap.size) → J O' W'

/-- an iterator's contract at a world -/
def SeqAt {α : Type} (P : Program) (g : Nat) (lb : Array Value) (encs : α → Array Value) (R : Blocks) (xs : List α) (W : World) : Prop :=
  ∀ (l : Nat) (J Jx : List α → Blocks → World → Prop), (∀ s, Go.Proofs.YtemikhnkjligdaaGreatDoor.Abides (J s)) → (∀ s, Go.Proofs.YtemikhnkjligdaaGreatDoor.Abides (Jx s)) →
    (∀ (pre : List α) (x : α) (O : Blocks) (W1 : World), J pre O W1 → (∀ k, O k → k < W1.heap.size) → pre ++ [x] <+: xs → ∀ m, YieldAt Fence.wide m P l (encs x) W1 fun e W' =>
      (e = .returned (.bool true) ∧ J (pre ++ [x]) O W' ∧ Held O R W1 W') ∨ (e = .returned (.bool false) ∧ Jx (pre ++ [x]) O W' ∧ Held O (fun _ => False) W1 W')) →
    J [] (fun _ => False) W →
    Calls P g (#[.func (.yield l) #[] #[]] ++ lb) W fun e W' => (∃ v, e = .returned v) ∧ ((∃ O, J xs O W' ∧ ∀ k, O k → k < W'.heap.size) ∨ (∃ pre O, pre <+: xs ∧ Jx pre O W' ∧ ∀ k, O k → k < W'.heap.size))

/-- how the body of a round may be left -/
def sepPost {α : Type} (R : Blocks) (I : List α → Blocks → World → Prop) (Ix : Code → List α → Blocks → World → Prop) (xs : List α) (O : Blocks) (W : World) : Exit → Act → World → Prop
  | .normal, _, W' => Held O R W W' ∧ I xs O W'
  | .ret, _, W' => Held O (fun _ => False) W W' ∧ Ix .ret xs O W'
  | .exit id, _, W' => Held O (fun _ => False) W W' ∧ Ix (.exit id) xs O W'
  | .goto t, _, W' => Held O (fun _ => False) W W' ∧ Ix (.goto t) xs O W'
  | .panic _, _, _ => False
  | .outgrown, _, _ => False

theorem roundIn_wide {m m' : Nat} {P : Program} {l : Nat} {f : FuncId} {tmps : Array Value} {assign body : Code} {w : World} {R : Ending → World → Prop} (h : RoundIn Fence.wide m P l f tmps assign body w R) : RoundIn Fence.wide m' P l f tmps assign body w R :=
  ⟨h.1, fun c cs _ => h.2 c cs (room_wide _)⟩

theorem wpIn_range_sep {α : Type} {n : Nat} {P : Program} {g : Operand} {ps : Array Tmp} {assign body : Code} {Q : Exit → Act → World → Prop} {a : Act} {w : World}
    {gf : Nat} {lb : Array Value} (hg : a.eval g = .func (.func gf) #[] lb) (eg : ∀ args w, (callFunc gf args).run P w = .ok (.enter gf args) w)
    {encs : α → Array Value} {R : Blocks} {xs : List α} (hseq : ∀ W1, Below w.heap.size w W1 → SeqAt P gf lb encs R xs W1) (hps : ∀ x, (encs x).size = ps.size)
    (I : List α → Blocks → World → Prop) (Ix : Code → List α → Blocks → World → Prop) (hI : ∀ s, Go.Proofs.YtemikhnkjligdaaGreatDoor.Abides (I s)) (hIx : ∀ c s, Go.Proofs.YtemikhnkjligdaaGreatDoor.Abides (Ix c s)) (h0 : I [] (fun _ => False) w) (Ax : α → Nat → Act → World → Prop) (hAx : ∀ x N a' W' o, Ax x N a' W' → w.heap.size + 1 < N → Ax x N a' (W'.putObj (w.heap.size + 1) o))
    (hR : ∀ k, R k → k < w.heap.size)
    (hassign : ∀ (l : Nat) (pre : List α) (x : α) (O : Blocks) (W : World) (K : Act → World → Prop), I pre O W → w.heap.size + 1 < W.heap.size → (∀ a' W', Ax x W.heap.size a' W' → Below W.heap.size W W' → K a' W') →
      assign.wpIn (Fence.wide.inRound l) n P (Exit.then K (fun _ _ _ => False)) { tmps := (ps.zip (encs x)).foldl (fun t (p, v) => t.setIfInBounds p v) a.tmps, defers := [] } W)
    (hbody : ∀ (pre : List α) (x : α) (O : Blocks) (N : Nat) (a' : Act) (W : World), I pre O W → Ax x N a' W → w.heap.size + 1 < N → N ≤ W.heap.size → (∀ k, N ≤ k → k < W.heap.size → O k) → pre ++ [x] <+: xs → (∀ k, O k → k < W.heap.size) → O w.heap.size → O (w.heap.size + 1) → w.heap.size + 1 < W.heap.size →
      body.wpIn (Fence.wide.inRound (w.heap.size + 1)) n P (sepPost R I Ix (pre ++ [x]) O W) a' W)
    (hdone : ∀ (O : Blocks) (W : World), I xs O W → O w.heap.size → (∀ k, O k → k < W.heap.size) → W.heap[w.heap.size]? = some (.deferred (some [])) → Q .normal { a with defers := { target := .collected w.heap.size, args := #[] } :: a.defers } W)
    (hstop : ∀ (c : Code) (pre : List α) (O : Blocks) (W : World), pre <+: xs → Ix c pre O W → O w.heap.size → (∀ k, O k → k < W.heap.size) → W.heap[w.heap.size]? = some (.deferred (some [])) →
      c.wpIn Fence.wide n P Q { a with defers := { target := .collected w.heap.size, args := #[] } :: a.defers } W) :
    (Code.rangeFunc g ps assign body).wpIn Fence.wide n P Q a w := by
  refine wpIn_rangeFunc ?_
  intro fn hfn
  obtain ⟨B, hB⟩ : ∃ B, w.heap.size = B := ⟨_, rfl⟩
  obtain ⟨rec, hrec⟩ : ∃ rec : LoopState → Option Code → Loop, rec = fun st pe => { state := st, pending := pe, fn, tmps := a.tmps, params := ps, assign, body, defers := w.heap.size } := ⟨_, rfl⟩
  obtain ⟨W1, hW1⟩ : ∃ W1, (w.alloc (.deferred (some []))).alloc (.loop (rec .ready none)) = W1 := ⟨_, rfl⟩
  have hL1 : W1.heap[B + 1]? = some (.loop (rec .ready none)) := by
    rw [← hW1, ← hB]; have := World.alloc_heap_new (w.alloc (.deferred (some []))) (.loop (rec .ready none)); rwa [World.size_alloc] at this
  have hK1 : W1.heap[B]? = some (.deferred (some [])) := by
    rw [← hW1, ← hB]; exact (Below.heap_alloc _ _ _ (by simp)).trans (World.alloc_heap_new w _)
  have hb1 : Below w.heap.size w W1 := by
    rw [← hW1]; exact ((Below.refl _ w).alloc (Nat.le_refl _) _).alloc (by simp) _
  have hS1 : W1.heap.size = B + 2 := by rw [← hW1, ← hB]; simp
  have hI1 : I [] (fun k => False ∨ k = B ∨ k = B + 1) W1 := hI [] _ _ _ _ h0 (Turns.of_below hb1 _) (fun k hk => .inr (by
    rcases hk with h | h | h
    · exact h.elim
    · omega
    · omega)) (fun k hk => by
    rcases hk with h | h | h
    · exact h.elim
    · omega
    · omega)
  refine ⟨w.heap.size + 1, [{ target := .collected w.heap.size, args := #[] }], W1, { target := .fn (.func gf) lb, args := #[.func (.yield (w.heap.size + 1)) #[] #[]] }, W1, gf,
    #[.func (.yield (w.heap.size + 1)) #[] #[]] ++ lb, W1, ?_, ?_, ?_, ?_, fun h => (by cases h), ?_⟩
  · rw [← hW1, hrec]; exact run_enterLoop_outer _ _ _ _ _
  · simp only [resolve, hg]
    simp [go_sem]
  · intro f' _; trivial
  · simp [invoke, go_sem, eg]
  · simp only [hB] at hR hseq hbody hassign hAx hdone hstop hrec hb1 ⊢
    have lift : ∀ {O : Blocks} {A A' : World}, Turns O A A' → Turns (fun k => O k ∨ k = B ∨ k = B + 1) A A' := fun h => h.mono (fun k hk => .inl hk)
    refine callsIn_wide.2 ((hseq W1 hb1 (B + 1)
      (fun pre O W => I pre (fun k => O k ∨ k = B ∨ k = B + 1) W ∧ ¬ O B ∧ ¬ O (B + 1) ∧ W.heap[B + 1]? = some (.loop (rec .ready none)) ∧ W.heap[B]? = some (.deferred (some [])))
      (fun pre O W => ∃ c, Ix c pre (fun k => O k ∨ k = B ∨ k = B + 1) W ∧ ¬ O B ∧ ¬ O (B + 1) ∧ W.heap[B + 1]? = some (.loop (rec .done (some c))) ∧ W.heap[B]? = some (.deferred (some [])))
      ?_ ?_ ?_ ⟨hI1, id, id, hL1, hK1⟩).mono ?_)
    · rintro s O A O' A' ⟨hi, n1, n2, hl, hk⟩ ht h1 h2
      have z1 := (Array.getElem?_eq_some_iff.1 hl).1
      have z2 := (Array.getElem?_eq_some_iff.1 hk).1
      refine ⟨hI s _ _ _ _ hi (lift ht) ?_ ?_, fun g => ?_, fun g => ?_, (ht.block _ z1 n2).trans hl, (ht.block _ z2 n1).trans hk⟩
      · rintro k (g | g | g)
        · rcases h1 k g with g | g
          · exact .inl (.inl g)
          · exact .inr g
        · exact .inl (.inr (.inl g))
        · exact .inl (.inr (.inr g))
      · rintro k (g | g | g)
        · exact h2 k g
        · have := ht.size; omega
        · have := ht.size; omega
      · rcases h1 _ g with g | g
        · exact n1 g
        · omega
      · rcases h1 _ g with g | g
        · exact n2 g
        · omega
    · rintro s O A O' A' ⟨c, hi, n1, n2, hl, hk⟩ ht h1 h2
      have z1 := (Array.getElem?_eq_some_iff.1 hl).1
      have z2 := (Array.getElem?_eq_some_iff.1 hk).1
      refine ⟨c, hIx c s _ _ _ _ hi (lift ht) ?_ ?_, fun g => ?_, fun g => ?_, (ht.block _ z1 n2).trans hl, (ht.block _ z2 n1).trans hk⟩
      · rintro k (g | g | g)
        · rcases h1 k g with g | g
          · exact .inl (.inl g)
          · exact .inr g
        · exact .inl (.inr (.inl g))
        · exact .inl (.inr (.inr g))
      · rintro k (g | g | g)
        · exact h2 k g
        · have := ht.size; omega
        · have := ht.size; omega
      · rcases h1 _ g with g | g
        · exact n1 g
        · omega
      · rcases h1 _ g with g | g
        · exact n2 g
        · omega
    · -- one round
      rintro pre x O W0 ⟨hi0, n1, n2, hl0, hk0⟩ hlt0 hpre m
      have z0 : B + 1 < W0.heap.size := (Array.getElem?_eq_some_iff.1 hl0).1
      have hy := run_yield (P := P) (args := encs x) hl0 (by rw [hrec]; exact hps x)
      refine ⟨fn, _, assign, body, by rw [hrec] at hy; exact hy, roundIn_wide (m := n) (roundIn_of_wpIn hfn (hassign _ pre x _ W0 _ hi0 z0 ?_))⟩
      intro a1 W hax hbw
      have hsw := hbw.size
      have hl := (hbw.block _ z0).trans hl0
      have hk := (hbw.block B (by omega)).trans hk0
      have z1 : B + 1 < W.heap.size := by omega
      have hO2 : ∀ k, (O k ∨ k = B ∨ k = B + 1 ∨ (W0.heap.size ≤ k ∧ k < W.heap.size)) → k < W.heap.size := by
        rintro k (g | g | g | g)
        · have := hlt0 k g; omega
        · omega
        · omega
        · exact g.2
      have hO3 : ∀ k, (O k ∨ k = B ∨ k = B + 1) → (O k ∨ k = B ∨ k = B + 1 ∨ (W0.heap.size ≤ k ∧ k < W.heap.size)) := fun k g => g.imp id (fun g => g.imp id .inl)
      have hi := hI pre _ _ (fun k => O k ∨ k = B ∨ k = B + 1 ∨ (W0.heap.size ≤ k ∧ k < W.heap.size)) _ hi0 (Turns.of_below hbw (fun k => O k ∨ k = B ∨ k = B + 1)) (fun k g => by
        rcases g with g | g | g | g
        · exact .inl (.inl g)
        · exact .inl (.inr (.inl g))
        · exact .inl (.inr (.inr g))
        · exact .inr g.1) hO2
      refine ⟨_, run_beginRound hl (by rw [hrec]), ?_⟩
      have hl2 : (W.putObj (B + 1) (.loop { rec .ready none with state := .busy })).heap[B + 1]? = some (.loop { rec .ready none with state := .busy }) := World.putObj_heap_same z1
      have hk2 : (W.putObj (B + 1) (.loop { rec .ready none with state := .busy })).heap[B]? = some (.deferred (some [])) := (World.putObj_heap_other (by omega)).trans hk
      have ht2 : Turns (fun k => O k ∨ k = B ∨ k = B + 1 ∨ (W0.heap.size ≤ k ∧ k < W.heap.size)) W (W.putObj (B + 1) (.loop { rec .ready none with state := .busy })) := Turns.putObj W _ (.inr (.inr (.inl rfl)))
      have hi2 : I pre (fun k => O k ∨ k = B ∨ k = B + 1 ∨ (W0.heap.size ≤ k ∧ k < W.heap.size)) (W.putObj (B + 1) (.loop { rec .ready none with state := .busy })) := hI pre _ _ _ _ hi ht2 (fun k g => .inl g) (fun k g => by have := hO2 k g; simpa using this)
      refine wpIn_mono (hbody pre x _ W0.heap.size _ _ hi2 (hAx _ _ _ _ _ hax z0) z0 (by simpa using hsw) (fun k g1 g2 => .inr (.inr (.inr ⟨g1, by simpa using g2⟩))) hpre (fun k g => by have := hO2 k g; simpa using this) (.inr (.inl rfl)) (.inr (.inr (.inl rfl))) (by simpa using z1)) ?_
      have fin : ∀ (jump : Option Code) (W3 : World) (R' : Blocks), Held (fun k => O k ∨ k = B ∨ k = B + 1 ∨ (W0.heap.size ≤ k ∧ k < W.heap.size)) R' (W.putObj (B + 1) (.loop { rec .ready none with state := .busy })) W3 →
          (Instr.endRound (B + 1) jump).run P W3 = .ok (.bool jump.isNone) (W3.putObj (B + 1) (.loop (rec (if jump.isNone then .ready else .done) jump))) ∧
          Turns (fun k => O k ∨ k = B ∨ k = B + 1) W3 (W3.putObj (B + 1) (.loop (rec (if jump.isNone then .ready else .done) jump))) ∧
          (W3.putObj (B + 1) (.loop (rec (if jump.isNone then .ready else .done) jump))).heap[B + 1]? = some (.loop (rec (if jump.isNone then .ready else .done) jump)) ∧
          (W3.putObj (B + 1) (.loop (rec (if jump.isNone then .ready else .done) jump))).heap[B]? = some (.deferred (some [])) ∧ W.heap.size ≤ W3.heap.size := fun jump W3 R' hk3 => by
        have z3 : W.heap.size ≤ W3.heap.size := by have := hk3.size; simpa using this
        have hl3 := (hk3.block (B + 1) (by simpa using z1) (.inl (.inr (.inr (.inl rfl))))).trans hl2
        have hd3 := (hk3.block B (by simp; omega) (.inl (.inr (.inl rfl)))).trans hk2
        have := run_endRound (P := P) jump hl3
        rw [hrec] at this ⊢
        exact ⟨this, Turns.putObj W3 _ (.inr (.inr rfl)), World.putObj_heap_same (Array.getElem?_eq_some_iff.1 hl3).1, (World.putObj_heap_other (by omega)).trans hd3, z3⟩
      have hO4 : ∀ {W3 : World}, W.heap.size ≤ W3.heap.size → ∀ k, (O k ∨ k = B ∨ k = B + 1) → k < W3.heap.size := fun hz k g => by have := hO2 k (hO3 k g); omega
      have hfin : ∀ (W3 : World) (o : Obj), Held (fun k => O k ∨ k = B ∨ k = B + 1 ∨ (W0.heap.size ≤ k ∧ k < W.heap.size)) (fun _ => False) (W.putObj (B + 1) (.loop { rec .ready none with state := .busy })) W3 → Held O (fun _ => False) W0 (W3.putObj (B + 1) o) := fun W3 o hk3 => by
        have z3 := hk3.size
        refine ⟨by simp at z3; simp; omega, fun k hk0 hor => ?_⟩
        rcases hor with hor | hor
        · have hne : k ≠ B + 1 := fun e => n2 (e ▸ hor)
          rw [World.putObj_heap_other hne, hk3.block k (by simp; omega) (.inl (.inl hor)), World.putObj_heap_other hne, hbw.block k hk0]
        · exact hor.elim
      rintro e a3 W3 hp
      cases e with
      | normal =>
        obtain ⟨hk3, hi3⟩ := hp
        obtain ⟨hr, ht4, hl4, hk4, z4⟩ := fin none W3 _ hk3
        have hi3 := hI _ _ _ (fun k => O k ∨ k = B ∨ k = B + 1) _ hi3 (Turns.refl _ W3) (fun k g => .inl (hO3 k g)) (hO4 z4)
        refine ⟨_, _, hr, .inl ⟨rfl, ⟨hI _ _ _ _ _ hi3 ht4 (fun k g => .inl g) (fun k g => by have := hO2 k (hO3 k g); simp; omega), n1, n2, hl4, hk4⟩, ⟨by simp; omega, fun k hk0 hor => ?_⟩⟩⟩
        have hne : k ≠ B + 1 := by
          rintro rfl
          rcases hor with g | g
          · exact n2 g
          · have := hR _ g; omega
        rw [World.putObj_heap_other hne, hk3.block k (by simp; omega) (hor.imp (fun g => .inl g) id), World.putObj_heap_other hne, hbw.block k hk0]
      | ret =>
        obtain ⟨hk3, hi3⟩ := hp
        obtain ⟨hr, ht4, hl4, hk4, z4⟩ := fin (some .ret) W3 _ hk3
        have hi3 := hIx _ _ _ _ (fun k => O k ∨ k = B ∨ k = B + 1) _ hi3 (Turns.refl _ W3) (fun k g => .inl (hO3 k g)) (hO4 z4)
        exact ⟨_, _, hr, .inr ⟨rfl, ⟨.ret, hIx _ _ _ _ _ _ hi3 ht4 (fun k g => .inl g) (fun k g => by have := hO2 k (hO3 k g); simp; omega), n1, n2, hl4, hk4⟩, hfin _ _ hk3⟩⟩
      | exit id =>
        obtain ⟨hk3, hi3⟩ := hp
        obtain ⟨hr, ht4, hl4, hk4, z4⟩ := fin (some (.exit id)) W3 _ hk3
        have hi3 := hIx _ _ _ _ (fun k => O k ∨ k = B ∨ k = B + 1) _ hi3 (Turns.refl _ W3) (fun k g => .inl (hO3 k g)) (hO4 z4)
        exact ⟨_, _, hr, .inr ⟨rfl, ⟨.exit id, hIx _ _ _ _ _ _ hi3 ht4 (fun k g => .inl g) (fun k g => by have := hO2 k (hO3 k g); simp; omega), n1, n2, hl4, hk4⟩, hfin _ _ hk3⟩⟩
      | goto t =>
        obtain ⟨hk3, hi3⟩ := hp
        obtain ⟨hr, ht4, hl4, hk4, z4⟩ := fin (some (.goto t)) W3 _ hk3
        have hi3 := hIx _ _ _ _ (fun k => O k ∨ k = B ∨ k = B + 1) _ hi3 (Turns.refl _ W3) (fun k g => .inl (hO3 k g)) (hO4 z4)
        exact ⟨_, _, hr, .inr ⟨rfl, ⟨.goto t, hIx _ _ _ _ _ _ hi3 ht4 (fun k g => .inl g) (fun k g => by have := hO2 k (hO3 k g); simp; omega), n1, n2, hl4, hk4⟩, hfin _ _ hk3⟩⟩
      | panic ch => exact hp.elim
      | outgrown => exact hp.elim
    · -- behind the iterator
      rintro e W2 ⟨⟨v, rfl⟩, (⟨O, ⟨hi, n1, n2, hl, hk⟩, hlt⟩ | ⟨pre, O, hpre, ⟨c, hi, n1, n2, hl, hk⟩, hlt⟩)⟩
      · have z1 := (Array.getElem?_eq_some_iff.1 hl).1
        have hO2 : ∀ (o : Obj) k, (O k ∨ k = B ∨ k = B + 1) → k < (W2.putObj (B + 1) o).heap.size := by
          rintro o k (g | g | g)
          · have := hlt k g; simpa using this
          · simp; omega
          · simp; omega
        refine ⟨none, _, by have := run_endLoop (P := P) hl (by rw [hrec]; simp); rw [show (rec .ready none).pending = none by rw [hrec]] at this; exact this, ?_⟩
        refine hdone (fun k => O k ∨ k = B ∨ k = B + 1) _ (hI _ _ _ _ _ hi (Turns.putObj W2 _ (.inr (.inr rfl))) (fun k g => .inl g) (hO2 _)) (.inr (.inl rfl)) (hO2 _) ((World.putObj_heap_other (by omega)).trans hk)
      · have z1 := (Array.getElem?_eq_some_iff.1 hl).1
        have hO2 : ∀ (o : Obj) k, (O k ∨ k = B ∨ k = B + 1) → k < (W2.putObj (B + 1) o).heap.size := by
          rintro o k (g | g | g)
          · have := hlt k g; simpa using this
          · simp; omega
          · simp; omega
        refine ⟨some c, _, by have := run_endLoop (P := P) hl (by rw [hrec]; simp); rw [show (rec .done (some c)).pending = some c by rw [hrec]] at this; exact this, ?_⟩
        exact hstop c pre (fun k => O k ∨ k = B ∨ k = B + 1) _ hpre (hIx _ _ _ _ _ _ hi (Turns.putObj W2 _ (.inr (.inr rfl))) (fun k g => .inl g) (hO2 _)) (.inr (.inl rfl)) (hO2 _) ((World.putObj_heap_other (by omega)).trans hk)

end Go.Proofs.YtemikhnkjligdaaGreatDoor
