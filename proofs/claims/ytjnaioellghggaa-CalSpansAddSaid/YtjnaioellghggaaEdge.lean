/- The walks of cal's sweep, first part: the order of edges, their sorting, the tests of counts. -/
import Derived.Test.YtjnaioellghggaaSpan
import Derived.Test.YtjnaioellghggaaSwLaw
import Derived.Test.YtjnaioellghggaaSortK
import Derived.Test.YtjnaioellghggaaShelf
import Derived.Test.YtjnaioellghggaaEdgeSort
namespace Go.Proofs.Ytjnaioellghggaa
open Go.RowKit Go.Sort

def encE (e : Edg) : List Value := [.int .i64 e.1, .int .i64 e.2.1, .int .i64 e.2.2]
def cmpE (x y : Edg) : Int := Lib.compareInt x.1 y.1
theorem ltE (x y : Edg) : ltOf cmpE x y = decide (x.1 < y.1) := by
  unfold ltOf cmpE Lib.compareInt
  by_cases h1 : x.1 < y.1
  · simp [h1]
  · by_cases h2 : y.1 < x.1 <;> simp [h1, h2]
theorem swoE : SWO (ltOf cmpE) where
  irrefl x := by rw [ltE]; simp
  trans x y z h1 h2 := by rw [ltE] at *; simp at *; omega
  ntrans x y z h1 h2 := by rw [ltE] at *; simp at *; omega

set_option maxHeartbeats 1000000 in
theorem closE (x y : Edg) (W : World) : Calls Try.prog 76 #[.agg #[.int .i64 x.1, .int .i64 x.2.1, .int .i64 x.2.2], .agg #[.int .i64 y.1, .int .i64 y.2.1, .int .i64 y.2.2]] W fun e w' =>
    e = .returned (.int .i64 (Lib.compareInt x.1 y.1)) ∧ ∃ q os', w' = grow (W.drewN q) os' := by
  have hcon := fun W' => Try.cmp_Compare_int x.1 y.1 W'
  generalize Lib.compareInt x.1 y.1 = r at hcon ⊢
  go_enter Try.func76, Try.ntmps76
  go_wp2_with (go_at_call 77; refine (hcon _).mono ?_; rintro e w' ⟨rfl, rfl⟩)
  go_ret
  exact ⟨rfl, 0, _, by rw [alloc_eq_grow, alloc_eq_grow, grow_grow]; rfl⟩

set_option maxRecDepth 100000 in
theorem insE_nil (f : Value) (w : World) :
    Calls Try.prog 94 #[.slice none 0 0, .int .i64 0, .int .i64 0, f] w fun e w' => e = .returned (.tuple #[]) ∧ w = w' := by
  go_enter Try.func94, Try.ntmps94
  go_wp2_with fail
  go_loop [8, 9] (fun iv _ => iv = .int .i64 1) (fun _ _ => 0)
  case atStart => rfl
  case round =>
    subst hrel
    go_wp2_with fail
    go_end0
    exact ⟨rfl, rfl⟩
set_option maxRecDepth 100000 in
theorem pdqE_nil (l : Int) (f : Value) (w : World) :
    Calls Try.prog 91 #[.slice none 0 0, .int .i64 0, .int .i64 0, .int .i64 l, f] w fun e w' => e = .returned (.tuple #[]) ∧ w = w' := by
  go_enter Try.func91, Try.ntmps91
  go_wp2_with fail
  go_loop [1, 2, 3] (fun av bv _ => av = .int .i64 0 ∧ bv = .int .i64 0) (fun _ _ _ => 0)
  case atStart => exact ⟨rfl, rfl⟩
  case round =>
    obtain ⟨rfl, rfl⟩ := hrel
    go_wp2_with fail
    refine (insE_nil f _).mono ?_
    rintro e w' ⟨rfl, rfl⟩
    go_wp2_with fail
    refine bodyPost_ret (results_none rfl _ _ _) rfl ?_
    exact ⟨rfl, rfl⟩
theorem sortE_nil (f : Value) (w : World) :
    Calls Try.prog 75 #[.slice none 0 0, f] w fun e w' => e = .returned (.tuple #[]) ∧ w = w' := by
  go_enter Try.func75, Try.ntmps75
  go_wp2_with fail
  refine (Try.bits_Len 0 _ (by omega) (by omega)).mono ?_
  rintro e w' ⟨rfl, rfl⟩
  go_wp2_with fail
  refine (pdqE_nil _ f _).mono ?_
  rintro e w' ⟨rfl, rfl⟩
  go_wp2_with fail
  go_end0
  exact ⟨rfl, rfl⟩

/-- the sorting of edges that the call has collected -/
theorem sortE_any (B : Nat) (ev : Value) (l : List Edg) (w : World) (h : w.ownsRow B 114 3 ev l.length (l.flatMap encE)) (hl : l.length ≤ 1000000) :
    Calls Try.prog 75 #[ev, .func (.func 76) #[] #[]] w fun e w' => e = .returned (.tuple #[]) ∧ ∃ D : List Edg, D.Perm l ∧ (D.Pairwise fun x y => x.1 ≤ y.1) ∧
      w'.ownsRow B 114 3 ev D.length (D.flatMap encE) ∧ w.grownBy w' ev.ownBlock := by
  have h' := h
  rcases h'.2 with ⟨rfl, h0⟩ | ⟨g, cap, cur, rfl, _, hb, _⟩
  · obtain rfl : l = [] := List.eq_nil_of_length_eq_zero h0
    refine (sortE_nil _ w).mono ?_
    rintro e w' ⟨rfl, rfl⟩
    exact ⟨rfl, [], List.Perm.refl _, List.Pairwise.nil, h, grownBy_refl _ _⟩
  · obtain ⟨hH, hblk, hback⟩ := owns_sortK (enc := encE) (fun _ => rfl) h
    have eg : ∀ args w, (callFunc 76 args).run Try.prog w = .ok (.enter 76 args) w := enters_of Try.func76 (by kernel_rfl) rfl
    have hcon := AnyQ.slices_SortFunc Try.sort_edge 3 Try.isAgg114 Try.sizeOf114 encE (fun _ => rfl) (fun x v hv => by simp [encE] at hv; rcases hv with rfl | rfl | rfl <;> rfl) cmpE swoE 76 #[] g 0 cap l.toArray w eg (fun _ _ _ _ x y => closE x y _) hH hblk (by simp; omega)
    change Calls Try.prog 75 _ _ _ at hcon
    simp only [List.size_toArray] at hcon
    refine hcon.mono ?_
    rintro e w' ⟨rfl, d, n, os, hp, hs, rfl⟩
    obtain ⟨p1, p2⟩ := perm_of_in (by simpa using hp)
    refine ⟨rfl, d.toList, p1, ?_, ?_, grownBy_sortedK d⟩
    · refine (pairwise_of_in p2 hs).imp fun {x y} hxy => ?_
      rw [ltE] at hxy
      simpa using hxy
    · have := hback d n os p2
      have e : d.toList.length = l.length := by rw [Array.length_toList]; exact p2
      rw [e]
      exact this

/-! ### what is asked of the counts -/
def Wants (g : Nat) (want : Int → Int → Bool) : Prop := ∀ (b : Nat) (c0 c1 : Int) (w : World), Has w b #[.int .i64 c0, .int .i64 c1] 3 → -1000000 ≤ c0 → c0 ≤ 1000000 → -1000000 ≤ c1 → c1 ≤ 1000000 →
  Calls Try.prog g #[.slice (some ⟨b, 0, none⟩) 2 2] w fun e w' => e = .returned (.bool (want c0 c1)) ∧ Below w.heap.size w w'
def wantU (x y : Int) : Bool := decide (0 < x + y)
def wantM (x y : Int) : Bool := decide (0 < x) && decide (0 < y)
def wantD (x y : Int) : Bool := decide (0 < x) && decide (y = 0)
set_option maxRecDepth 100000 in
theorem wants_union : Wants 34 wantU := by
  intro b c0 c1 w hx _ _ _ _
  have k0 := hx.cell 0
  have k1 := hx.cell 1
  have s1 : IntKind.i64.wrap (c0 + c1) = c0 + c1 := by rw [IntWalk.i64_in _ (by omega)]
  clear hx
  go_enter Try.func34, Try.ntmps34
  go_wp2_with fail
  go_quiet (fail)
  go_wp2_with fail
  go_ret
  exact ⟨rfl, drewN_below (Below.refl _ _) nq⟩
set_option maxRecDepth 100000 in
theorem wants_meet : Wants 35 wantM := by
  intro b c0 c1 w hx _ _ _ _
  have k0 := hx.cell 0
  have k1 := hx.cell 1
  clear hx
  by_cases h0 : 0 < c0
  · have q0 : decide (0 < c0) = true := decide_eq_true h0
    have hw : wantM c0 c1 = decide (0 < c1) := by unfold wantM; rw [q0]; rfl
    rw [hw]
    go_enter Try.func35, Try.ntmps35
    go_wp2_with fail
    go_ret
    exact ⟨rfl, Below.refl _ _⟩
  · have q0 : decide (0 < c0) = false := decide_eq_false h0
    have hw : wantM c0 c1 = false := by unfold wantM; rw [q0]; rfl
    rw [hw]
    go_enter Try.func35, Try.ntmps35
    go_wp2_with fail
    go_ret
    exact ⟨rfl, Below.refl _ _⟩
set_option maxRecDepth 100000 in
theorem wants_minus : Wants 36 wantD := by
  intro b c0 c1 w hx _ _ _ _
  have k0 := hx.cell 0
  have k1 := hx.cell 1
  clear hx
  by_cases h0 : 0 < c0
  · have q0 : decide (0 < c0) = true := decide_eq_true h0
    have hw : wantD c0 c1 = (c1 == 0) := by unfold wantD; rw [q0, Bool.true_and]; rfl
    rw [hw]
    go_enter Try.func36, Try.ntmps36
    go_wp2_with fail
    go_ret
    exact ⟨rfl, Below.refl _ _⟩
  · have q0 : decide (0 < c0) = false := decide_eq_false h0
    have hw : wantD c0 c1 = false := by unfold wantD; rw [q0]; rfl
    rw [hw]
    go_enter Try.func36, Try.ntmps36
    go_wp2_with fail
    go_ret
    exact ⟨rfl, Below.refl _ _⟩

/-- 'append(l, x, y)' of two elements of 'size' cells each -/
theorem append_two_at {P : Program} {ops : Array Oper} {rest : List Oper} {o : Oper} {a : Act} {Q : Exit → Act → World → Prop} {w1 : World} (hgd : o.guard = none) (s x : Operand) (t : TypeId)
    (ho : o.op = .call { callee := .builtin .append, args := #[s, x], argTypes := #[t, t] })
    (B : Nat) (e : TypeId) (z : Value) (size bytes : Nat) (ht : P.underlying t = some (.slice e)) (hi : (P.info? e).map (fun i => (i.zero, i.size, i.bytes)) = some (some z, size, bytes))
    (hzs : z.cells.size = size) (hsz : 0 < size)
    (W w : World) (v : Value) (n : Nat) (xs : List Value) (hs : a.eval s = v) (hown : w.ownsRow B e size v n xs)
    (g : Nat) (hg : g = w.heap.size) (news : List Value) (hx : a.eval x = .slice (some ⟨g, 0, none⟩) 2 2) (hw1 : w1 = w.alloc (.cells news.toArray e)) (hl : news.length = 2 * size) (h1 : ∀ u ∈ news, u.oneCell' = true)
    (hbytes : (n + 2) * bytes ≤ 140737488355328) (hn : n < 140737488355328) (hB : B ≤ w.heap.size) (hbel : Below B W w)
    (h : ∀ v' w', w'.ownsRow B e size v' (n + 2) (xs ++ news) → Below B W w' → w.grownBy w' v.ownBlock → wpList P ops Q rest (a.put o.dst v') w') :
    wpList P ops Q (o :: rest) a w1 := by
  subst hg
  subst hw1
  obtain ⟨i0, hi0, hz0, hz1, hz2⟩ := info_parts hi
  refine wpList_append_own _ hgd s x t ho B e i0 z size bytes ht hi0 hz0 hz1 hz2 hzs hsz v n xs hs (hown.alloc _) ⟨w.heap.size, 0, none⟩ 2 2 news hx hl ?_ h1 (by unfold maxLen; omega) hbytes (by simp; omega) ?_
  · intro j u hj
    have e : (⟨w.heap.size, 0, none⟩ : Addr).add j = ⟨w.heap.size, j, none⟩ := by unfold Addr.add; split <;> simp_all
    rw [e, World.cell?_alloc_at _ _ _ _ rfl]
    simpa using hj
  · intro v' w' h2 hg h3
    refine h v' w' h2 ?_ ?_
    · refine (hbel.alloc hB _).grown hg (by simp; omega) ?_
      intro k hk
      exact (hown.lt k hk).1
    · exact ⟨hg.os, hg.tape, hg.output, Nat.le_trans (by simp) hg.size, fun k hk hne => (hg.block k (by simp; omega) hne).trans (Below.heap_alloc _ _ _ hk)⟩

end Go.Proofs.Ytjnaioellghggaa
