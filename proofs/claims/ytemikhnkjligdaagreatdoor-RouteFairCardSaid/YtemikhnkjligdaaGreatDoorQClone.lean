/- The walks of slices.Clone at shifts, and of cal.floor at 7. -/
import Derived.Test.YtemikhnkjligdaaGreatDoorQBin
import Derived.Laws.OwnMore
import Derived.Lib.SliceRun
namespace Go.Proofs.YtemikhnkjligdaaGreatDoor
open Go.RowKit

def encSh (x : Shf) : List Value := [.int .i64 x.1, .int .i64 x.2.1, .int .i64 x.2.2]
theorem infoShift : (Tryz.prog.info? 138).map (fun i => (i.zero, i.size, i.bytes)) = some (some (.agg #[.int .i64 0, .int .i64 0, .int .i64 0]), 3, 24) := by kernel_rfl
theorem shifts_of_owns {w : World} {B : Nat} {v : Value} {l : List Shf} (h : w.ownsRow B 138 3 v l.length (l.flatMap encSh)) : Shifts w v l := slice_of_owns encSh h (fun _ _ => rfl) (fun _ _ => rfl)
theorem encSh_length (l : List Shf) : (l.flatMap encSh).length = l.length * 3 := by
  induction l with
  | nil => rfl
  | cons x r ih => rw [List.flatMap_cons, List.length_append, ih]; simp [encSh]; omega
theorem encSh_one (l : List Shf) : ∀ u ∈ l.flatMap encSh, u.oneCell' = true := by
  intro u hu
  obtain ⟨x, _, hx⟩ := List.mem_flatMap.1 hu
  simp [encSh] at hx
  rcases hx with rfl | rfl | rfl <;> rfl
/-- the cells of a slice of shifts, one by one -/
theorem shifts_news {w : World} {b off : Nat} {l : List Shf} (hel : ∀ i (hi : i < l.length), w.cell? ⟨b, off + i * 3, none⟩ = some (.int .i64 l[i].1) ∧ w.cell? ⟨b, off + i * 3 + 1, none⟩ = some (.int .i64 l[i].2.1) ∧ w.cell? ⟨b, off + i * 3 + 2, none⟩ = some (.int .i64 l[i].2.2)) :
    ∀ j u, (l.flatMap encSh)[j]? = some u → w.cell? ((⟨b, off, none⟩ : Addr).add j) = some u := by
  intro j u hj
  have hlt : j < l.length * 3 := by rw [← encSh_length]; exact (List.getElem?_eq_some_iff.1 hj).1
  have hi : j / 3 < l.length := by omega
  have e := flatMap_at encSh 3 l (fun _ _ => rfl) (j / 3) (j % 3) hi (Nat.mod_lt _ (by decide))
  rw [Nat.div_add_mod'] at e
  rw [e] at hj
  obtain ⟨h0, h1, h2⟩ := hel (j / 3) hi
  have ea : (⟨b, off, none⟩ : Addr).add j = ⟨b, off + j, none⟩ := by unfold Addr.add; split <;> simp_all
  rw [ea]
  have hm : j % 3 = 0 ∨ j % 3 = 1 ∨ j % 3 = 2 := by omega
  rcases hm with g | g | g
  · rw [show off + j = off + j / 3 * 3 by omega, h0, ← hj, g]; rfl
  · rw [show off + j = off + j / 3 * 3 + 1 by omega, h1, ← hj, g]; rfl
  · rw [show off + j = off + j / 3 * 3 + 2 by omega, h2, ← hj, g]; rfl

/-- 'append(out, l...)' of elements that lie in memory -/
theorem append_all {P : Program} {ops : Array Oper} {rest : List Oper} {o : Oper} {a : Act} {Q : Exit → Act → World → Prop} (hgd : o.guard = none) (s x : Operand) (t : TypeId)
    (ho : o.op = .call { callee := .builtin .append, args := #[s, x], argTypes := #[t, t] })
    (B : Nat) (e : TypeId) (z : Value) (size bytes : Nat) (ht : P.underlying t = some (.slice e)) (hi : (P.info? e).map (fun i => (i.zero, i.size, i.bytes)) = some (some z, size, bytes))
    (hzs : z.cells.size = size) (hsz : 0 < size)
    (W w : World) (v : Value) (n : Nat) (xs : List Value) (hs : a.eval s = v) (hown : w.ownsRow B e size v n xs)
    (ad : Addr) (m c : Nat) (news : List Value) (hx : a.eval x = .slice (some ad) m c) (hl : news.length = m * size) (hnews : ∀ j u, news[j]? = some u → w.cell? (ad.add j) = some u) (h1 : ∀ u ∈ news, u.oneCell' = true)
    (hbytes : (n + m) * bytes ≤ 140737488355328) (hn : n + m < 140737488355328) (hB : B ≤ w.heap.size) (hbel : Below B W w)
    (h : ∀ v' w', w'.ownsRow B e size v' (n + m) (xs ++ news) → Below B W w' → wpList P ops Q rest (a.put o.dst v') w') :
    wpList P ops Q (o :: rest) a w := by
  obtain ⟨i0, hi0, hz0, hz1, hz2⟩ := info_parts hi
  refine wpList_append_own _ hgd s x t ho B e i0 z size bytes ht hi0 hz0 hz1 hz2 hzs hsz v n xs hs hown ad m c news hx hl hnews h1 (by unfold maxLen; omega) hbytes hB ?_
  intro v' w' h2 hg h3
  exact h v' w' h2 (hbel.grown hg hB (fun k hk => (hown.lt k hk).1))

set_option maxRecDepth 100000 in
theorem clone_any (v : Value) (l : List Shf) (w : World) (h : Shifts w v l) (hl : l.length ≤ 1000) :
    Calls Tryz.prog 142 #[v] w fun e w' => (∃ v', e = .returned v' ∧ w'.ownsRow w.heap.size 138 3 v' l.length (l.flatMap encSh)) ∧ Below w.heap.size w w' := by
  have q22 : ∀ (w : World) (a : Option Addr) (n c n' c' : Nat), (binOp .eql 74 (.slice a n c) (.slice none n' c')).run Tryz.prog w = .ok (.bool a.isNone) w := fun w a n c n' c' => Lib.run_eql_slice_nil w _ _ a n c n' c' Tryz.underlying74
  rcases h with ⟨a, c, rfl, rfl⟩ | ⟨b, off, c, rfl, hc, hb, hel⟩
  · cases a with
    | none =>
      go_enter Tryz.func142, Tryz.ntmps142
      go_wp2_with fail
      go_ret
      exact ⟨⟨_, rfl, ⟨rfl, .inl ⟨rfl, rfl⟩⟩⟩, Below.refl _ _⟩
    | some ad =>
      have hown := World.ownsRow_lit (base := w.heap.size) (e := 138) (size := 3) w #[] 0 (Nat.le_refl _) (by unfold maxLen; omega) rfl
      have hb3 := (Below.refl w.heap.size w).alloc (Nat.le_refl _) (.cells #[] 138)
      have HO := Lib.hid hown
      have HB := Lib.hid hb3
      clear hown hb3
      go_enter Tryz.func142, Tryz.ntmps142
      go_wp2_with (at_builtin; go_must (refine append_all rfl _ _ 74 rfl w.heap.size 138 (.agg #[.int .i64 0, .int .i64 0, .int .i64 0]) 3 24 Tryz.underlying74 infoShift rfl (by decide) w (w.alloc (.cells #[] 138)) (.slice (some ⟨w.heap.size, 0, none⟩) 0 0) 0 [] rfl HO.out ad 0 c [] rfl rfl (fun j u hj => by cases hj) (fun u hu => by cases hu) (by omega) (by omega) HB.out.size HB.out ?_); intro v' w6 ho hb6)
      go_ret
      exact ⟨⟨_, rfl, ho⟩, hb6⟩
  · have hel2 : ∀ i (hi : i < l.length), w.cell? ⟨b, off + i * 3, none⟩ = some (.int .i64 l[i].1) ∧ w.cell? ⟨b, off + i * 3 + 1, none⟩ = some (.int .i64 l[i].2.1) ∧ w.cell? ⟨b, off + i * 3 + 2, none⟩ = some (.int .i64 l[i].2.2) := by
      intro i hi
      obtain ⟨cs, ⟨_, h2⟩, hr⟩ := hel i hi
      cases hr
      exact ⟨h2 0 (by simp), h2 1 (by simp), h2 2 (by simp)⟩
    have hown := World.ownsRow_lit (base := w.heap.size) (e := 138) (size := 3) w #[] 0 (Nat.le_refl _) (by unfold maxLen; omega) rfl
    have hb3 := (Below.refl w.heap.size w).alloc (Nat.le_refl _) (.cells #[] 138)
    have HN := Lib.hid (shifts_news (w := w.alloc (.cells #[] 138)) (l := l) (fun i hi => by
      obtain ⟨q0, q1, q2⟩ := hel2 i hi
      exact ⟨(below_cell hb3 hb).trans q0, (below_cell hb3 hb).trans q1, (below_cell hb3 hb).trans q2⟩))
    have HO := Lib.hid hown
    have HB := Lib.hid hb3
    clear hown hb3 hel hel2
    go_enter Tryz.func142, Tryz.ntmps142
    go_wp2_with (at_builtin; go_must (refine append_all rfl _ _ 74 rfl w.heap.size 138 (.agg #[.int .i64 0, .int .i64 0, .int .i64 0]) 3 24 Tryz.underlying74 infoShift rfl (by decide) w (w.alloc (.cells #[] 138)) (.slice (some ⟨w.heap.size, 0, none⟩) 0 0) 0 [] rfl HO.out ⟨b, off, none⟩ l.length c (l.flatMap encSh) rfl (encSh_length l) HN.out (encSh_one l) (by omega) (by omega) HB.out.size HB.out ?_); intro v' w6 ho hb6)
    go_ret
    refine ⟨⟨_, rfl, ?_⟩, hb6⟩
    have e : ([] : List Value) ++ l.flatMap encSh = l.flatMap encSh := rfl
    simpa using ho

theorem tdiv_7 (a : Int) : (a.tmod 7 < 0 → a.tdiv 7 - 1 = a / 7) ∧ (¬ a.tmod 7 < 0 → a.tdiv 7 = a / 7) := by
  rcases Int.lt_or_le a 0 with h | h
  · obtain ⟨b, rfl⟩ : ∃ b : Int, a = -b := ⟨-a, by omega⟩
    rw [Int.neg_tdiv, Int.neg_tmod, Int.tdiv_eq_ediv_of_nonneg (by omega), Int.tmod_eq_emod_of_nonneg (by omega)]
    omega
  · rw [Int.tdiv_eq_ediv_of_nonneg h, Int.tmod_eq_emod_of_nonneg h]
    omega
theorem floor7_any (a : Int) (h1 : -1000000000 ≤ a) (h2 : a ≤ 1000000000) (w : World) :
    Calls Tryz.prog 127 #[.int .i64 a, .int .i64 7] w fun e w' => e = .returned (.int .i64 (a / 7)) ∧ w = w' := by
  obtain ⟨g1, g2⟩ := tdiv_7 a
  have b1 : -1000000001 ≤ a.tdiv 7 ∧ a.tdiv 7 ≤ 1000000001 := by
    by_cases h : a.tmod 7 < 0
    · have := g1 h; omega
    · have := g2 h; omega
  obtain ⟨b1, b2⟩ := b1
  by_cases h : a.tmod 7 < 0
  · have G := Lib.hid (g1 h)
    have hd : decide (a.tmod 7 < 0) = true := by simpa using h
    clear g1 g2
    go_enter Tryz.func127, Tryz.ntmps127
    go_wp2
    go_ret
    exact ⟨ret_int G.out, rfl⟩
  · have G := Lib.hid (g2 h)
    have hd : decide (a.tmod 7 < 0) = false := by simpa using h
    clear g1 g2
    go_enter Tryz.func127, Tryz.ntmps127
    go_wp2
    go_ret
    exact ⟨ret_int G.out, rfl⟩

end Go.Proofs.YtemikhnkjligdaaGreatDoor
