/- The walk of cal.Add. -/
import Derived.Test.YtemikhnkjligdaaGreatDoorQWorked
namespace Go.Proofs.YtemikhnkjligdaaGreatDoor
open Go Go.RowKit Go.Shelf
attribute [local go_sem] Oper.semAt_some

/-- what is left of some work behind some spans -/
theorem addF_pre : ∀ (pre r : List Sp) (k : Int), (∀ p q : List Sp, p ++ q = pre → ∀ s, q.head? = some s → s.2 - s.1 ≤ k - lens p) → addF k (pre ++ r) = addF (k - lens pre) r
  | [], r, k, _ => by simp [lens]
  | s :: pre, r, k, h => by
    have h0 := h [] (s :: pre) rfl s rfl
    simp only [lens, Int.sub_zero] at h0
    rw [List.cons_append, addF, if_pos h0, addF_pre pre r (k - (s.2 - s.1))]
    · congr 1
      simp only [lens]
      omega
    · intro p q hpq t ht
      have := h (s :: p) q (by rw [List.cons_append, hpq]) t ht
      simp only [lens] at this
      omega

/-- what a consumer's loop keeps that may return early: three cells of its own, and what was there when the function was entered -/
structure KeepThree (w : World) (B : Nat) (u v1 v2 : Value) (O : Blocks) (W : World) : Prop where
  c0 : Has W B #[u] 3
  c1 : Has W (B + 1) #[v1] 3
  c2 : Has W (B + 1 + 1) #[v2] 28
  below : Below w.heap.size w W
  off : ∀ k, B ≤ k → k < B + 3 → ¬ O k
  own : ∀ k, O k → w.heap.size ≤ k
theorem keepThree_abides {w : World} {B : Nat} {u v1 v2 : Value} : Abides (KeepThree w B u v1 v2) := by
  intro O W O' W' h ht ho hs
  have hb := h.c2.lt
  have hz := h.below.size
  have ho' : ∀ k, O' k → w.heap.size ≤ k := fun k g => by
    rcases ho k g with g | g
    · exact h.own k g
    · omega
  refine ⟨ht.has h.c0 (h.off _ (by omega) (by omega)), ht.has h.c1 (h.off _ (by omega) (by omega)), ht.has h.c2 (h.off _ (by omega) (by omega)), ht.below h.below hz h.own, fun k g1 g2 g => ?_, ho'⟩
  rcases ho _ g with g | g
  · exact h.off k g1 g2 g
  · omega
theorem keepThree_put {w : World} {B : Nat} {u v1 v2 : Value} {O : Blocks} {W : World} (h : KeepThree w B u v1 v2 O W) {D : Nat} (hD : O D) (hlt : ∀ k, O k → k < W.heap.size) (o : Obj) : KeepThree w B u v1 v2 O (W.putObj D o) :=
  keepThree_abides _ _ _ _ h (Turns.putObj W o hD) (fun _ g => .inl g) (fun k g => by simpa using hlt k g)
theorem keepThree_next {w : World} {B : Nat} {u v1 v2 : Value} {O R : Blocks} {W : World} (h : KeepThree w B u v1 v2 O W) (hB : w.heap.size ≤ B) (hR : ∀ k, B ≤ k → k < B + 3 → ¬ R k) (u' : Value) : Held O R W (W.setCell ⟨B, 0, none⟩ u') ∧ KeepThree w B u' v1 v2 O (W.setCell ⟨B, 0, none⟩ u') := by
  refine ⟨Held.of_turns (Turns.setCell (O := fun k => k = B) _ _ rfl) ?_, ⟨h.c0.set 0 u', h.c1.set_other 0 u' (by omega), h.c2.set_other 0 u' (by omega), h.below.setCell (p := ⟨B, 0, none⟩) hB _, h.off, h.own⟩⟩
  rintro k (g | g) rfl
  · exact h.off _ (Nat.le_refl _) (by omega) g
  · exact hR _ (Nat.le_refl _) (by omega) g
theorem keepThree_stop {w : World} {B : Nat} {u v1 v2 : Value} {O R : Blocks} {W : World} (h : KeepThree w B u v1 v2 O W) (hB : w.heap.size ≤ B) (hR : ∀ k, B ≤ k → k < B + 3 → ¬ R k) (v1' v2' : Value) :
    Held O R W ((W.setCell ⟨B + 1, 0, none⟩ v1').setCell ⟨B + 1 + 1, 0, none⟩ v2') ∧ KeepThree w B u v1' v2' O ((W.setCell ⟨B + 1, 0, none⟩ v1').setCell ⟨B + 1 + 1, 0, none⟩ v2') := by
  refine ⟨(Held.of_turns (Turns.setCell (O := fun k => k = B + 1) _ _ rfl) ?_).trans (Held.of_turns (Turns.setCell (O := fun k => k = B + 1 + 1) _ _ rfl) ?_),
    ⟨(h.c0.set_other 0 _ (by omega)).set_other 0 _ (by omega), (h.c1.set 0 v1').set_other 0 _ (by omega), (h.c2.set_other 0 _ (by omega)).set 0 v2', (h.below.setCell (p := ⟨B + 1, 0, none⟩) (by simp only; omega) _).setCell (p := ⟨B + 1 + 1, 0, none⟩) (by simp only; omega) _, h.off, h.own⟩⟩
  · rintro k (g | g) rfl
    · exact h.off _ (by omega) (by omega) g
    · exact hR _ (by omega) (by omega) g
  · rintro k (g | g) rfl
    · exact h.off _ (by omega) (by omega) g
    · exact hR _ (by omega) (by omega) g

structure AddAt (F : Option Int) (f : Int → List Sp → Option Int) (work : Int) (xs pre : List Sp) : Prop where
  ge : 0 ≤ work - lens pre
  eq : ∀ r, pre ++ r = xs → F = f (work - lens pre) r
theorem abides_and {J : Blocks → World → Prop} (h : Abides J) (p : Prop) : Abides (fun O W => J O W ∧ p) := fun O W O' W' hj ht ho hs => ⟨h O W O' W' hj.1 ht ho hs, hj.2⟩
structure AddStop (w : World) (B : Nat) (F : Option Int) (c : Code) (O : Blocks) (W : World) : Prop where
  ret : c = .ret
  three : ∃ m u, F = some m ∧ KeepThree w B u (.int .i64 m) (.int .i64 0) O W
theorem addStop_abides {w : World} {B : Nat} {F : Option Int} {c : Code} : Abides (AddStop w B F c) := by
  intro O W O' W' h ht ho hs
  obtain ⟨m, u, hm, h3⟩ := h.three
  exact ⟨h.ret, m, u, hm, keepThree_abides _ _ _ _ h3 ht ho hs⟩

theorem results_two_cells {fn : Func} {p q : Tmp} (h : fn.results = #[.cell p 3, .cell q 28]) {tmps : Array Value} {w : World} {b1 b2 : Nat} {v1 v2 : Int} (ht1 : tmps.getD p undef = .pointer (some ⟨b1, 0, none⟩)) (ht2 : tmps.getD q undef = .pointer (some ⟨b2, 0, none⟩))
    (h1 : Has w b1 #[.int .i64 v1] 3) (h2 : Has w b2 #[.int .i64 v2] 28) : (results fn tmps).run Tryz.prog w = .ok (.tuple #[.int .i64 v1, .int .i64 v2]) w := by
  have c1 := h1.cell 0
  have c2 := h2.cell 0
  simp at c1 c2
  rw [Array.getD_eq_getD_getElem?] at ht1 ht2
  simp only [results, h]
  simp [go_sem, ht1, ht2, c1, c2]

def AddMid (G : Prop) (w1 : World) (u : Value) (wx : World) : Prop := ∃ k : Int, u = .int .i64 k ∧ (k = 0 ↔ G) ∧ Below w1.heap.size w1 wx
theorem orI3_zero (a b c : Int) : orI [a, b, c] = 0 ↔ a = 0 ∧ b = 0 ∧ c = 0 := by
  rw [orI_cons, orI2]
  by_cases h1 : a = 0
  · by_cases h2 : b = 0
    · simp [h1, h2]
    · simp [h1, h2]
  · simp [h1]
def AddPost (F : Option Int) (G : Prop) (w : World) (e : Ending) (w' : World) : Prop :=
  ∃ n k : Int, e = .returned (.tuple #[.int .i64 n, .int .i64 k]) ∧ (G → (∃ m, F = some m ∧ n = m ∧ k = 0) ∨ (F = none ∧ n = 0 ∧ k = 7)) ∧ (¬ G → n = 0 ∧ k ≠ 0) ∧ Below w.heap.size w w'
theorem below3 {B : Nat} {a w : World} (h : Below B a w) (hB : B ≤ w.heap.size) (x y z : Obj) : Below B a (((w.alloc x).alloc y).alloc z) := ((h.alloc hB x).alloc (by simp; omega) y).alloc (by simp; omega) z
theorem four_boxes (w : World) (a b c d : Array Value) (s t u v : TypeId) : Has ((((w.alloc (.cells a s)).alloc (.cells b t)).alloc (.cells c u)).alloc (.cells d v)) w.heap.size a s ∧ Has ((((w.alloc (.cells a s)).alloc (.cells b t)).alloc (.cells c u)).alloc (.cells d v)) (w.heap.size + 1) b t ∧
    Has ((((w.alloc (.cells a s)).alloc (.cells b t)).alloc (.cells c u)).alloc (.cells d v)) (w.heap.size + 1 + 1) c u ∧ Has ((((w.alloc (.cells a s)).alloc (.cells b t)).alloc (.cells c u)).alloc (.cells d v)) (w.heap.size + 1 + 1 + 1) d v ∧
    Below w.heap.size w ((((w.alloc (.cells a s)).alloc (.cells b t)).alloc (.cells c u)).alloc (.cells d v)) := by
  obtain ⟨h1, h2, h3, hz, hb⟩ := three_boxes w a b c s t u
  have h4 := Has.new (((w.alloc (.cells a s)).alloc (.cells b t)).alloc (.cells c u)) d v
  rw [hz] at h4
  exact ⟨h1.alloc _, h2.alloc _, h3.alloc _, h4, hb.alloc hb.size _⟩

end Go.Proofs.YtemikhnkjligdaaGreatDoor
