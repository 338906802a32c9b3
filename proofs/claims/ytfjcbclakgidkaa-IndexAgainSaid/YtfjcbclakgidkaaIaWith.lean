/- The walk of (know.Index).with. -/
import Derived.Test.YtfjcbclakgidkaaIaBsf
import Derived.Test.YtfjcbclakgidkaaIaInt
namespace Go.Proofs.Ytfjcbclakgidkaa
open Go.RowKit

theorem owns_at {w : World} {B : Nat} {e : TypeId} {sz n n' g c : Nat} {xs : List Value} (h : w.ownsRow B e sz (.slice (some ⟨g, 0, none⟩) n' c) n xs) {j : Nat} (hj : j < xs.length) : w.cell? ⟨g, j, none⟩ = some xs[j] ∧ w.frozen? ⟨g, j, none⟩ = false := by
  have h1 := h.cells (g := g) rfl j xs[j] (List.getElem?_eq_getElem hj)
  have e1 : (⟨g, 0, none⟩ : Addr).add j = ⟨g, j, none⟩ := by unfold Addr.add; split <;> simp_all
  rw [e1] at h1
  refine ⟨h1, ?_⟩
  rcases h.2 with ⟨q, _⟩ | ⟨g', cap, cur, q, _, hg, _⟩
  · cases q
  · cases q
    exact Has.fz hg j
theorem owns_setAt {w : World} {B : Nat} {e : TypeId} {sz n g c : Nat} {xs : List Value} (h : w.ownsRow B e sz (.slice (some ⟨g, 0, none⟩) n c) n xs) (j : Nat) (u : Value) : (w.setCell ⟨g, j, none⟩ u).ownsRow B e sz (.slice (some ⟨g, 0, none⟩) n c) n (xs.set j u) := by
  rcases h.2 with ⟨q, _⟩ | ⟨g', cap, cur, q, h1, h2, h3, h4, h5, h6⟩
  · cases q
  · cases q
    refine ⟨by rw [List.length_set]; exact h.1, .inr ⟨g, c, cur.setIfInBounds j u, rfl, h1, Has.set h2 j u, h3, h4, by rw [Array.size_setIfInBounds]; exact h5, ?_⟩⟩
    rw [Array.toList_setIfInBounds, ← h6, List.take_set]
/-- one of a list's terms, with what the index has -/
def upT1 (x : List TmD) (t : TmD) : TmD := (t.1, match findK (fun t : TmD => t.1) x t.1 with | some u => mrg (fun p : PoD => p.1) u.2 t.2 | none => t.2)
theorem upT_map (x l : List TmD) : upT x l = l.map (upT1 x) := rfl
theorem upT1_no {x : List TmD} {t : TmD} (h : ∀ u ∈ x, u.1 ≠ t.1) : upT1 x t = t := by
  unfold upT1
  rw [findK_none _ h]
theorem upT1_yes {x : List TmD} (ha : Asc (fun t : TmD => t.1) x) {t u : TmD} (hu : u ∈ x) (e : u.1 = t.1) : upT1 x t = (t.1, mrg (fun p : PoD => p.1) u.2 t.2) := by
  unfold upT1
  rw [← e, findK_mem (fun t : TmD => t.1) lin_bytes ha hu]
theorem encT_set (A : List TmM) (i : Nat) (y : TmM) (h : ∀ hi : i < A.length, A[i].1.1 = y.1.1) : (A.flatMap encT).set (i * 2 + 1) y.2 = (A.set i y).flatMap encT := by
  induction A generalizing i with
  | nil => simp
  | cons a A ih =>
    cases i with
    | zero =>
      have := h (by simp)
      simp only [List.getElem_cons_zero] at this
      simp [encT, this]
    | succ i =>
      have := ih i (fun hi => by have := h (by simp; omega); simpa using this)
      rw [List.set_cons_succ, List.flatMap_cons, List.flatMap_cons, ← this]
      rw [show (i + 1) * 2 + 1 = (encT a).length + (i * 2 + 1) by simp [encT]; omega, List.set_append_right _ _ (by omega), Nat.add_sub_cancel_left]
theorem encT_len (A : List TmM) : (A.flatMap encT).length = A.length * 2 := by
  induction A with
  | nil => rfl
  | cons x r ih => rw [List.flatMap_cons, List.length_append, ih, List.length_cons]; simp [encT]; omega
structure WtInv (w wr : World) (B Xb Vb Rb : Nat) (iv sv tv : Value) (id : Int) (t b : ByteArray) (x : IxD) (lv : Value) (l0 : List TmD) (i : Nat) (A : List TmM) : Prop where
  xb : Has wr Xb #[iv, sv, tv] 29
  vb : Has wr Vb #[.int .i64 id, .string t, .string b] 24
  rb : Has wr Rb #[.slice none 0 0, .slice none 0 0, .slice none 0 0] 29
  own : wr.ownsRow B 54 2 lv A.length (A.flatMap encT)
  eq : A.map (·.1) = (l0.take i).map (upT1 x.terms) ++ l0.drop i
  at' : ∀ y ∈ A, TmMOk wr y
  below : Below w.heap.size w wr
theorem wt_no {w wr : World} {B Xb Vb Rb : Nat} {iv sv tv : Value} {id : Int} {t b : ByteArray} {x : IxD} {lv : Value} {l0 : List TmD} {i : Nat} {A : List TmM} (h : WtInv w wr B Xb Vb Rb iv sv tv id t b x lv l0 i A) {w' : World} (hb : Below wr.heap.size wr w') (hi : i < l0.length) (hn : ∀ u ∈ x.terms, u.1 ≠ l0[i].1) (hB : w.heap.size ≤ wr.heap.size) :
    WtInv w w' B Xb Vb Rb iv sv tv id t b x lv l0 (i + 1) A :=
  ⟨h.xb.below hb h.xb.lt, h.vb.below hb h.vb.lt, h.rb.below hb h.rb.lt, owns_below h.own hb, by
    rw [h.eq, List.take_succ_eq_append_getElem hi, List.map_append, List.append_assoc, List.drop_eq_getElem_cons hi]
    congr 1
    rw [List.map_singleton, upT1_no hn]
    rfl, fun y hy => PoL.below (h.at' y hy) hb, h.below.trans (hb.mono hB)⟩
theorem set_take_drop {α : Type} (P Q : List α) (i : Nat) (hP : P.length = i) (c : α) (hQ : 0 < Q.length) : (P ++ Q).set i c = (P ++ [c]) ++ Q.drop 1 := by
  cases Q with
  | nil => simp at hQ
  | cons q Q => rw [List.set_append_right _ _ (by omega), hP, Nat.sub_self, List.set_cons_zero]; simp
theorem wt_yes {w wr : World} {B Xb Vb Rb : Nat} {iv sv tv : Value} {id : Int} {t b : ByteArray} {x : IxD} {g c n : Nat} {l0 : List TmD} {i : Nat} {A : List TmM} (hAn : n = A.length) (h : WtInv w wr B Xb Vb Rb iv sv tv id t b x (.slice (some ⟨g, 0, none⟩) n c) l0 i A) {w' : World} (hb : Below wr.heap.size wr w') (hi : i < l0.length) (hll : A.length = l0.length)
    {nv : Value} {u : TmD} (ha : Asc (fun t : TmD => t.1) x.terms) (hu : u ∈ x.terms) (e : u.1 = l0[i].1) (hnv : PoL w' nv (mrg (fun p : PoD => p.1) u.2 l0[i].2)) (hB : w.heap.size ≤ wr.heap.size) (hB2 : w.heap.size ≤ B) :
    WtInv w (w'.setCell ⟨g, i * 2 + 1, none⟩ nv) B Xb Vb Rb iv sv tv id t b x (.slice (some ⟨g, 0, none⟩) n c) l0 (i + 1) (A.set i ((l0[i].1, mrg (fun p : PoD => p.1) u.2 l0[i].2), nv)) := by
  subst hAn
  have hA2 : i < A.length := by omega
  have hAi : A[i].1 = l0[i] := by
    have h1 : (A.map (·.1))[i]? = some (A[i].1) := by rw [List.getElem?_map, List.getElem?_eq_getElem hA2]; rfl
    rw [h.eq, List.getElem?_append_right (by rw [List.length_map, List.length_take]; omega), List.length_map, List.length_take, Nat.min_eq_left (by omega), Nat.sub_self, List.getElem?_drop, Nat.add_zero, List.getElem?_eq_getElem hi] at h1
    exact (Option.some.inj h1).symm
  have ho' := owns_below h.own hb
  have hown := owns_setAt ho' (i * 2 + 1) nv
  have hg := grownBy_set w' g (i * 2 + 1) nv
  have he := encT_set A i ((l0[i].1, mrg (fun p : PoD => p.1) u.2 l0[i].2), nv) (fun _ => by rw [hAi])
  have hgb : B ≤ g := (h.own.lt g rfl).1
  have hne : ∀ {c2 : Nat} {cs : Array Value} {T : TypeId}, Has wr c2 cs T → T ≠ 54 → Has (w'.setCell ⟨g, i * 2 + 1, none⟩ nv) c2 cs T := fun hc hT => ((hc.below hb hc.lt).kept_own ho' hT hg)
  refine ⟨hne h.xb (by decide), hne h.vb (by decide), hne h.rb (by decide), ?_, ?_, fun y hy => ?_, (h.below.trans (hb.mono hB)).setCell (p := ⟨g, i * 2 + 1, none⟩) (Nat.le_trans hB2 hgb) _⟩
  · rw [List.length_set, ← he]
    exact hown
  · rw [List.map_set, h.eq, set_take_drop _ _ i (by rw [List.length_map, List.length_take]; omega) _ (by rw [List.length_drop]; omega), List.take_succ_eq_append_getElem hi, List.map_append, List.map_singleton, upT1_yes ha hu e, List.drop_drop]
  · rcases List.mem_or_eq_of_mem_set hy with hy | rfl
    · exact PoL.kept_own (PoL.below (h.at' y hy) hb) ho' (by decide) (by decide) hg
    · exact PoL.kept_own hnv ho' (by decide) (by decide) hg
theorem IxOk.mem {E : List EnD} {x : IxD} (h : IxOk E x) {u : TmD} (hu : u ∈ x.terms) : u.2 = listF E u.1 ∧ u.2 ≠ [] := by
  have h1 := findK_mem (fun t : TmD => t.1) lin_bytes h.asc hu
  rw [h.find] at h1
  split at h1
  · cases h1
  · rename_i hne
    have := Option.some.inj h1
    have e : u.2 = listF E u.1 := (congrArg Prod.snd this).symm
    exact ⟨e, by rw [e]; exact hne⟩
theorem listF_len (E : List EnD) (s : List UInt8) : (listF E s).length ≤ E.length := List.length_filterMap_le _ _
theorem TmOk.mem {v : EnD} {l : List TmD} (h : TmOk v l) {u : TmD} (hu : u ∈ l) : u.2.length = 1 := by
  have h1 := findK_mem (fun t : TmD => t.1) lin_bytes h.asc hu
  rw [h.find] at h1
  cases hp : poF v u.1 with
  | none => rw [hp] at h1; cases h1
  | some p =>
    rw [hp] at h1
    have := Option.some.inj h1
    have e : u.2 = [p] := (congrArg Prod.snd this).symm
    rw [e]
    rfl
theorem mrg_len {K A : Type} [LT K] [DecidableEq K] [DecidableRel (fun a b : K => a < b)] (key : A → K) : ∀ a b : List A, (mrg key a b).length ≤ a.length + b.length
  | [], b => by rw [mrg]; simp
  | x :: a, [] => by rw [mrg]; simp
  | x :: a, y :: b => by
    rw [mrg]
    split
    · have := mrg_len key a (y :: b)
      simp only [List.length_cons] at this ⊢
      omega
    · split
      · have := mrg_len key a b
        simp only [List.length_cons]
        omega
      · have := mrg_len key (x :: a) b
        simp only [List.length_cons] at this ⊢
        omega
/-- where an entry's number goes -/
theorem ins_lists {E : List EnD} (hE : AscE E) (v : EnD) (hn : ∀ u ∈ E, u.1 ≠ v.1) {α : Type} (f : EnD → α) : (insE v E).map f = (E.map f).take ((E.map (·.1)).countP (· < v.1)) ++ f v :: (E.map f).drop ((E.map (·.1)).countP (· < v.1)) := by
  obtain ⟨k, hk⟩ : ∃ k, k = (E.map (·.1)).countP (· < v.1) := ⟨_, rfl⟩
  have hkE : k = E.countP (fun u => decide (u.1 < v.1)) := by rw [hk, List.countP_map]; rfl
  have key : E.filter (fun u => decide (u.1 < v.1)) = E.take k ∧ E.filter (fun u => decide (v.1 < u.1)) = E.drop k := by
    clear hk
    subst hkE
    induction E with
    | nil => exact ⟨rfl, rfl⟩
    | cons u E ih =>
      have h1 := List.pairwise_cons.1 hE
      have hnu := hn u List.mem_cons_self
      obtain ⟨i1, i2⟩ := ih h1.2 (fun z hz => hn z (List.mem_cons_of_mem _ hz))
      by_cases g : u.1 < v.1
      · have g2 : ¬ v.1 < u.1 := by omega
        rw [List.filter_cons, List.filter_cons, if_pos (by simpa using g), if_neg (by simpa using g2), List.countP_cons, if_pos (by simpa using g), List.take_succ_cons, List.drop_succ_cons, i1, i2]
        exact ⟨rfl, rfl⟩
      · have g2 : v.1 < u.1 := by omega
        have hall : ∀ z ∈ E, ¬ z.1 < v.1 := fun z hz => by have := h1.1 z hz; simp only at this; omega
        have hc : (u :: E).countP (fun u => decide (u.1 < v.1)) = 0 := by
          rw [List.countP_eq_zero]
          intro z hz
          rcases List.mem_cons.1 hz with rfl | hz
          · simpa using g
          · have := hall z hz; simpa using this
        rw [hc, List.take_zero, List.drop_zero]
        refine ⟨List.filter_eq_nil_iff.2 fun z hz => ?_, List.filter_eq_self.2 fun z hz => ?_⟩
        · rcases List.mem_cons.1 hz with rfl | hz
          · simpa using g
          · have := hall z hz; simpa using this
        · rcases List.mem_cons.1 hz with rfl | hz
          · simpa using g2
          · have := h1.1 z hz
            simp only at this
            simp only [decide_eq_true_eq]
            omega
  rw [← hk, ← List.map_take, ← List.map_drop]
  unfold insE
  rw [key.1, key.2, List.map_append, List.map_cons]
theorem infoIx : (Try.prog.info? 29).map (fun i => i.size) = some 3 := by kernel_rfl
def WithPost (w : World) (E : List EnD) (v : EnD) (N : Nat) (e : Ending) (w' : World) : Prop :=
  (∃ iv sv tv x, e = .returned (.agg #[iv, sv, tv]) ∧ IxAt w' iv sv tv x ∧ IxOk (insE v E) x ∧ x.terms.length ≤ N + 100000) ∧ Below w.heap.size w w'
set_option maxRecDepth 100000 in
set_option maxHeartbeats 16000000 in
theorem with_any (iv sv tv : Value) (x : IxD) (E : List EnD) (id : Int) (t b : ByteArray) (N : Nat) (w : World) (h : IxAt w iv sv tv x) (hE : AscE E) (hx : IxOk E x) (hn : ∀ u ∈ E, u.1 ≠ id) (hl : E.length ≤ 1000) (hN : x.terms.length ≤ N) (hN2 : N ≤ 90000000) (ht : t.size ≤ 50000) (hb : b.size ≤ 50000) :
    Calls Try.prog 17 #[.agg #[iv, sv, tv], .agg #[.int .i64 id, .string t, .string b]] w (WithPost w E (id, t.data.toList, b.data.toList) N) := by
  obtain ⟨v, hv⟩ : ∃ v : EnD, v = (id, t.data.toList, b.data.toList) := ⟨_, rfl⟩
  rw [← hv]
  generalize hQ : WithPost w E v N = Q
  have HQ := Lib.hid hQ
  have HV := Lib.hid hv
  have H := Lib.hid h
  have HX := Lib.hid hx
  have HE := Lib.hid hE
  have HNE := Lib.hid hn
  have HN := Lib.hid hN
  clear hQ hv h hx hE hn hN
  go_enter Try.func17, Try.ntmps17
  go_upto_region 1 with fail
  obtain ⟨Xb, hXb⟩ : ∃ Xb, Xb = w.heap.size := ⟨_, rfl⟩
  have k0 := Has.new w #[iv, sv, tv] 29
  have b0 : Below w.heap.size w (w.alloc (.cells #[iv, sv, tv] 29)) := (Below.refl _ _).alloc (Nat.le_refl _) _
  have s0 : (w.alloc (.cells #[iv, sv, tv] 29)).heap.size = w.heap.size + 1 := World.size_alloc _ _
  generalize w.alloc (.cells #[iv, sv, tv] 29) = w1 at *
  have k1 := Has.new w1 #[.int .i64 id, .string t, .string b] 24
  have b1 := b0.alloc b0.size (.cells #[.int .i64 id, .string t, .string b] 24)
  have s1 : (w1.alloc (.cells #[.int .i64 id, .string t, .string b] 24)).heap.size = w1.heap.size + 1 := World.size_alloc _ _
  have m1 := k0.alloc (.cells #[.int .i64 id, .string t, .string b] 24)
  generalize w1.alloc (.cells #[.int .i64 id, .string t, .string b] 24) = w2 at *
  rw [s0] at k1 s1
  have k2 := Has.new w2 #[.slice none 0 0, .slice none 0 0, .slice none 0 0] 29
  have b2 := b1.alloc b1.size (.cells #[.slice none 0 0, .slice none 0 0, .slice none 0 0] 29)
  have m2 := m1.alloc (.cells #[.slice none 0 0, .slice none 0 0, .slice none 0 0] 29)
  have n2 := k1.alloc (.cells #[.slice none 0 0, .slice none 0 0, .slice none 0 0] 29)
  generalize w2.alloc (.cells #[.slice none 0 0, .slice none 0 0, .slice none 0 0] 29) = w3 at *
  rw [s1] at k2
  clear k0 b0 s0 k1 b1 s1 m1
  obtain ⟨Rb, hRb⟩ : ∃ Rb, Rb = w.heap.size + 1 + 1 := ⟨_, rfl⟩
  rw [← hRb] at k2 ⊢
  obtain ⟨Vb, hVb⟩ : ∃ Vb, Vb = w.heap.size + 1 := ⟨_, rfl⟩
  have hVX : Vb ≠ Xb := by omega
  have hVlow : w.heap.size ≤ Vb := by omega
  rw [← hVb] at n2 ⊢
  rw [← hXb] at m2 ⊢
  have hXlow : w.heap.size ≤ Xb := by omega
  have hRlow : w.heap.size ≤ Rb := by omega
  have hRX : Rb ≠ Xb := by omega
  clear hVb hXb hRb
  have v0 : w3.cell? ⟨Vb, 0, none⟩ = some (.int .i64 id) := n2.cell 0
  have v1 : w3.cell? ⟨Vb, 1, none⟩ = some (.string t) := n2.cell 1
  have v2 : w3.cell? ⟨Vb, 2, none⟩ = some (.string b) := n2.cell 2
  have HM2 := Lib.hid m2
  have HN2 := Lib.hid n2
  have HK2 := Lib.hid k2
  have HB2 := Lib.hid b2
  clear m2 n2 k2 b2
  go_wp2_with fail
  refine (postings_any id t b ht hb w3).mono ?_
  rintro e w4 ⟨⟨lv, A, rfl, htm, ⟨hown, hall⟩, hAl⟩, hb4⟩
  rw [← HV.out] at htm
  obtain ⟨sz, hsz⟩ : ∃ sz : Int, sz = szF (id, t.data.toList, b.data.toList) := ⟨_, rfl⟩
  rw [← hsz]
  rw [← HV.out] at hsz
  have HSZ := Lib.hid hsz
  obtain ⟨l0, hl0⟩ : ∃ l0, l0 = A.map (·.1) := ⟨_, rfl⟩
  rw [← hl0] at htm
  have HTM := Lib.hid htm
  have hB2s : w.heap.size ≤ w3.heap.size := HB2.out.size
  have hll : A.length = l0.length := by rw [hl0, List.length_map]
  have hl0l : l0.length ≤ 100000 := by omega
  have HI0 := Lib.hid (show WtInv w w4 w3.heap.size Xb Vb Rb iv sv tv id t b x lv l0 0 A from ⟨HM2.out.below hb4 HM2.out.lt, HN2.out.below hb4 HN2.out.lt, HK2.out.below hb4 HK2.out.lt, hown, by rw [List.take_zero, List.drop_zero, List.map_nil, List.nil_append, hl0], hall, HB2.out.trans (hb4.mono hB2s)⟩)
  obtain ⟨la, lc, hlv⟩ := owns_slice hown
  subst hlv
  rw [hll] at HI0 ⊢
  clear hown hall hb4 htm hsz hl0 v0 v1 v2 HM2 HN2 HK2
  generalize w3.heap.size = B at *
  have hBw0 : w.heap.size ≤ B := hB2s
  go_wp2_with fail
  go_loopw [20] (fun qv wr => ∃ i A2, qv = .int .i64 ((i : Nat) : Int) ∧ i ≤ l0.length ∧ A2.length = l0.length ∧ WtInv w wr B Xb Vb Rb iv sv tv id t b x (.slice la l0.length lc) l0 i A2) (fun qv _ => l0.length - (intOf qv).toNat)
  case atStart => exact ⟨0, A, rfl, Nat.zero_le _, hll, HI0.out⟩
  case round =>
    clear HI0
    obtain ⟨i, A2, rfl, hi, hA2, hI⟩ := hrel
    have HI := Lib.hid hI
    have hBr : w.heap.size ≤ wr.heap.size := hI.below.size
    clear hI
    by_cases hlt : i < l0.length
    · have hA2i : i < A2.length := by omega
      have hfl : (A2.flatMap encT).length = A2.length * 2 := encT_len A2
      have hAi : A2[i].1 = l0[i] := by
        have h1 : (A2.map (·.1))[i]? = some (A2[i].1) := by rw [List.getElem?_map, List.getElem?_eq_getElem hA2i]; rfl
        rw [HI.out.eq, List.getElem?_append_right (by rw [List.length_map, List.length_take]; omega), List.length_map, List.length_take, Nat.min_eq_left (by omega), Nat.sub_self, List.getElem?_drop, Nat.add_zero, List.getElem?_eq_getElem hlt] at h1
        exact (Option.some.inj h1).symm
      obtain ⟨g, hg⟩ : ∃ g, la = some ⟨g, 0, none⟩ := by
        rcases HI.out.own.2 with ⟨q, _⟩ | ⟨g, cap, cur, q, _⟩
        · simp only [Value.slice.injEq] at q
          omega
        · simp only [Value.slice.injEq] at q
          exact ⟨g, q.1⟩
      subst hg
      obtain ⟨lval, hlval⟩ : ∃ lval, lval = A2[i].2 := ⟨_, rfl⟩
      obtain ⟨s, hs⟩ : ∃ s, s = l0[i].1 := ⟨_, rfl⟩
      have hown := HI.out.own
      have c0 : wr.cell? ⟨g, i * 2, none⟩ = some (.string (bs s)) := by
        rw [(hA2.symm : l0.length = A2.length)] at hown
        rw [(owns_at hown (j := i * 2) (by omega)).1]
        have := flatMap_at encT 2 A2 (fun _ _ => rfl) i 0 hA2i (by decide)
        rw [Nat.add_zero, List.getElem?_eq_getElem (by omega)] at this
        rw [this, hs, ← hAi]
        rfl
      have c1 : wr.cell? ⟨g, i * 2 + 1, none⟩ = some lval := by
        rw [(hA2.symm : l0.length = A2.length)] at hown
        rw [(owns_at hown (j := i * 2 + 1) (by omega)).1]
        have := flatMap_at encT 2 A2 (fun _ _ => rfl) i 1 hA2i (by decide)
        rw [List.getElem?_eq_getElem (by omega)] at this
        rw [this, hlval]
        rfl
      have hpl : PoL wr lval l0[i].2 := by
        have := HI.out.at' A2[i] (List.getElem_mem _)
        unfold TmMOk at this
        rw [hAi, ← hlval] at this
        exact this
      have hone : lval.oneCell' = true := by
        obtain ⟨a1, c1, e1⟩ := PoL.len hpl
        rw [e1]; rfl
      obtain ⟨pa, pn, pc, hpe⟩ : ∃ pa pn pc, lval = .slice pa pn pc := by
        obtain ⟨a1, c1, e1⟩ := PoL.len hpl
        exact ⟨_, _, _, e1⟩
      clear hlval
      subst hpe
      have HPL := Lib.hid hpl
      have HS := Lib.hid hs
      have hbt : Below wr.heap.size wr (wr.alloc (.cells #[.string (bs s), (.slice pa pn pc)] 54)) := (Below.refl _ _).alloc (Nat.le_refl _) _
      have hbx := Has.new wr #[.string (bs s), (.slice pa pn pc)] 54
      have HBT := Lib.hid hbt
      have HBX := Lib.hid hbx
      have x2 : (wr.alloc (.cells #[.string (bs s), (.slice pa pn pc)] 54)).cell? ⟨Xb, 2, none⟩ = some tv := (HI.out.xb.below hbt HI.out.xb.lt).cell 2
      have t0 : (wr.alloc (.cells #[.string (bs s), (.slice pa pn pc)] 54)).cell? ⟨wr.heap.size, 0, none⟩ = some (.string (bs s)) := hbx.cell 0
      have t1 : (wr.alloc (.cells #[.string (bs s), (.slice pa pn pc)] 54)).cell? ⟨wr.heap.size, 1, none⟩ = some (.slice pa pn pc) := hbx.cell 1
      clear hown hAi hs hpl hbt hbx
      go_upto_region 5 with fail
      generalize hw5 : wr.alloc (.cells #[.string (bs s), (.slice pa pn pc)] 54) = w5 at *
      obtain ⟨Tb, hTb⟩ : ∃ Tb, Tb = wr.heap.size := ⟨_, rfl⟩
      rw [← hTb] at t0 t1 HBX ⊢
      have hTr : wr.heap.size ≤ Tb := by omega
      clear hw5 hTb
      go_wp2_with fail
      refine (bsf_any tv (.slice pa pn pc) x.terms s w5 (((H.out.below HI.out.below).below HBT.out).terms) hone (by have := HN.out; omega) HX.out.asc).mono ?_
      rintro e w6 ⟨⟨k, is, rfl, hfd⟩, hb6⟩
      have HFD := Lib.hid hfd
      have hbr6 : Below wr.heap.size wr w6 := HBT.out.trans (hb6.mono HBT.out.size)
      have HBR6 := Lib.hid hbr6
      have hTl : Tb < w6.heap.size := Nat.lt_of_lt_of_le HBX.out.lt hb6.size
      have z0 : w6.cell? ⟨Tb, 1, none⟩ = some (.slice pa pn pc) := (below_cell hb6 HBX.out.lt).trans t1
      have hXl : Xb < w6.heap.size := Nat.lt_of_lt_of_le HI.out.xb.lt hbr6.size
      have z2 : w6.cell? ⟨Xb, 2, none⟩ = some tv := (HI.out.xb.below hbr6 HI.out.xb.lt).cell 2
      clear hbr6 hb6 hfd x2 t0 t1 c0 c1
      cases is with
      | false =>
        go_wp2_with fail
        go_roundw
        case rel =>
          refine ⟨i + 1, A2, by go_num, hlt, hA2, wt_no HI.out HBR6.out hlt (fun u hu => ?_) hBr⟩
          rw [← HS.out]
          exact HFD.out.2 rfl u hu
        case measure => simp [intOf]; omega
      | true =>
        obtain ⟨hk, hks⟩ := HFD.out.1 rfl
        obtain ⟨bt, ot, ct, htv, hct, hbl0, hel⟩ := TmL.at ((H.out.below HI.out.below).below HBR6.out).terms (by omega)
        subst htv
        obtain ⟨lx, -, z1, hlx⟩ := hel k hk
        have hbl : bt < w6.heap.size := hbl0
        have HPA := Lib.hid hlx
        have HPB := Lib.hid (HPL.out.below HBR6.out)
        have hla : x.terms[k].2.length ≤ 100000000 := by
          rw [(HX.out.mem (List.getElem_mem hk)).1]
          have := listF_len E x.terms[k].1
          omega
        have hlb : l0[i].2.length ≤ 100000000 := by
          rw [HTM.out.mem (List.getElem_mem hlt)]
          omega
        have HOW := Lib.hid (owns_below HI.out.own HBR6.out)
        have HKS := Lib.hid hks
        clear hel hlx hks hbl0
        go_upto_region 7 with fail
        refine anyT_start (S := fun W : World => W.cell? ⟨Xb, 2, none⟩ = some (.slice (some ⟨bt, ot, none⟩) x.terms.length ct) ∧ W.cell? ⟨bt, ot + k * 2 + 1, none⟩ = some lx ∧ W.cell? ⟨Tb, 1, none⟩ = some (.slice pa pn pc)) (t := 13) (by kernel_rfl) ?_
        have hb0 := (Below.refl w6.heap.size w6).drew
        have HB0 := Lib.hid hb0
        have hS0 : w6.drew.cell? ⟨Xb, 2, none⟩ = some (.slice (some ⟨bt, ot, none⟩) x.terms.length ct) ∧ w6.drew.cell? ⟨bt, ot + k * 2 + 1, none⟩ = some lx ∧ w6.drew.cell? ⟨Tb, 1, none⟩ = some (.slice pa pn pc) := ⟨z2, z1, z0⟩
        have hPA := (HPA.out).below hb0
        have hPB := (HPB.out).below hb0
        have HPA2 := Lib.hid hPA
        have HPB2 := Lib.hid hPB
        have HOW6 := Lib.hid (owns_below HOW.out hb0)
        clear hb0 hPA hPB
        generalize w6.drew = wd at *
        refine takeT (i := 0) (v := ?_) rfl rfl (by kernel_rfl) (by kernel_rfl) (by kernel_rfl) (fun _ _ _ h => h) (by decide) (by kernel_rfl) (by kernel_rfl) ?_ hS0 ?_
        rotate_left
        · intro w hSw; (try dsimp only at hSw); go_simp; (try with_reducible rfl)
        simp only [List.setIfInBounds_toArray, List.set_cons_zero, List.set_cons_succ]
        refine takeT (i := 1) (v := ?_) rfl rfl (by kernel_rfl) (by kernel_rfl) (by kernel_rfl) (fun _ _ _ h => h) (by decide) (by kernel_rfl) (by kernel_rfl) ?_ hS0 ?_
        rotate_left
        · intro w hSw; (try dsimp only at hSw); go_simp; (try with_reducible rfl)
        simp only [List.setIfInBounds_toArray, List.set_cons_zero, List.set_cons_succ]
        refine takeT (i := 2) (v := ?_) rfl rfl (by kernel_rfl) (by kernel_rfl) (by kernel_rfl) (fun _ _ _ h => h) (by decide) (by kernel_rfl) (by kernel_rfl) ?_ hS0 ?_
        rotate_left
        · intro w hSw; (try dsimp only at hSw); go_simp; (try with_reducible rfl)
        simp only [List.setIfInBounds_toArray, List.set_cons_zero, List.set_cons_succ]
        refine takeT (i := 3) (v := ?_) rfl rfl (by kernel_rfl) (by kernel_rfl) (by kernel_rfl) (fun _ _ _ h => h) (by decide) (by kernel_rfl) (by kernel_rfl) ?_ hS0 ?_
        rotate_left
        · intro w hSw; (try dsimp only at hSw); go_simp; (try with_reducible rfl)
        simp only [List.setIfInBounds_toArray, List.set_cons_zero, List.set_cons_succ]
        refine takeT (i := 4) (v := ?_) rfl rfl (by kernel_rfl) (by kernel_rfl) (by kernel_rfl) (fun _ _ _ h => h) (by decide) (by kernel_rfl) (by kernel_rfl) ?_ hS0 ?_
        rotate_left
        · intro w hSw; (try dsimp only at hSw); go_simp; (try with_reducible rfl)
        simp only [List.setIfInBounds_toArray, List.set_cons_zero, List.set_cons_succ]
        refine takeT (i := 5) (v := ?_) rfl rfl (by kernel_rfl) (by kernel_rfl) (by kernel_rfl) (fun _ _ _ h => h) (by decide) (by kernel_rfl) (by kernel_rfl) ?_ hS0 ?_
        rotate_left
        · intro w hSw; (try dsimp only at hSw); go_simp; first | (with_reducible rfl) | (rw [if_pos (by omega)])
        simp only [List.setIfInBounds_toArray, List.set_cons_zero, List.set_cons_succ]
        refine takeT (i := 6) (v := ?_) rfl rfl (by kernel_rfl) (by kernel_rfl) (by kernel_rfl) (fun _ _ _ h => h) (by decide) (by kernel_rfl) (by kernel_rfl) ?_ hS0 ?_
        rotate_left
        · intro w hSw; (try dsimp only at hSw); go_simp; (try with_reducible rfl)
        simp only [List.setIfInBounds_toArray, List.set_cons_zero, List.set_cons_succ]
        refine takeT (i := 7) (v := ?_) rfl rfl (by kernel_rfl) (by kernel_rfl) (by kernel_rfl) (fun _ _ _ h => h) (by decide) (by kernel_rfl) (by kernel_rfl) ?_ hS0 ?_
        rotate_left
        · intro w hSw; (try dsimp only at hSw); go_simp; (try with_reducible rfl)
        simp only [List.setIfInBounds_toArray, List.set_cons_zero, List.set_cons_succ]
        refine takeT (i := 8) (v := ?_) rfl rfl (by kernel_rfl) (by kernel_rfl) (by kernel_rfl) (fun _ _ _ h => h) (by decide) (by kernel_rfl) (by kernel_rfl) ?_ hS0 ?_
        rotate_left
        · intro w hSw; (try dsimp only at hSw); go_simp; (try with_reducible rfl)
        simp only [List.setIfInBounds_toArray, List.set_cons_zero, List.set_cons_succ]
        refine takeT (i := 9) (v := ?_) rfl rfl (by kernel_rfl) (by kernel_rfl) (by kernel_rfl) (fun _ _ _ h => h) (by decide) (by kernel_rfl) (by kernel_rfl) ?_ hS0 ?_
        rotate_left
        · intro w hSw; (try dsimp only at hSw); go_simp; (try with_reducible rfl)
        simp only [List.setIfInBounds_toArray, List.set_cons_zero, List.set_cons_succ]
        refine oneT (i := 10) rfl (by kernel_rfl) (fun K hK => ?_)
        go_simp
        refine (mergedPoL HPA2.out HPB2.out hla hlb).mono ?_
        rintro e w7 ⟨⟨nv, rfl, hnv⟩, hb7⟩
        have hb7q := below_up HB0.out hb7 HB0.out.size
        have HB7 := Lib.hid hb7q
        have HNV := Lib.hid hnv
        have hOW7 := owns_below HOW6.out hb7
        have HOW7 := Lib.hid hOW7
        obtain ⟨na, nc, hnva⟩ := PoL.len hnv
        subst hnva
        have hS4 : w7.cell? ⟨Xb, 2, none⟩ = some (.slice (some ⟨bt, ot, none⟩) x.terms.length ct) ∧ w7.cell? ⟨bt, ot + k * 2 + 1, none⟩ = some lx ∧ w7.cell? ⟨Tb, 1, none⟩ = some (.slice pa pn pc) := ⟨(below_cell hb7q hXl).trans z2, (below_cell hb7q hbl).trans z1, (below_cell hb7q hTl).trans z0⟩
        refine hK.out _ _ (fun _ => hS4) ?_
        obtain ⟨y0, y1⟩ := owns_at hOW7 (j := i * 2 + 1) (by rw [hfl]; omega)
        clear hK hb7 hb7q hnv hOW7
        try simp only [List.setIfInBounds_toArray, List.set_cons_zero, List.set_cons_succ, Act.put]
        refine oneT (i := 11) rfl (by kernel_rfl) (fun K hK => ?_)
        go_simp
        refine hK.out _ _ (fun _ => hS4) ?_
        clear hK
        try simp only [List.setIfInBounds_toArray, List.set_cons_zero, List.set_cons_succ, Act.put]
        refine oneT (i := 12) rfl (by kernel_rfl) (fun K hK => ?_)
        go_simp
        refine hK.out _ _ (fun _ => hS4) ?_
        clear hK
        try simp only [List.setIfInBounds_toArray, List.set_cons_zero, List.set_cons_succ, Act.put]
        refine oneT (i := 13) rfl (by kernel_rfl) (fun K hK => ?_)
        go_simp
        refine hK.out _ _ (fun q => absurd rfl q) ?_
        refine doneT (by kernel_rfl) ?_ _
        clear hK
        go_wp2_with fail
        go_roundw
        case rel =>
          exact ⟨i + 1, _, by go_num, hlt, by rw [List.length_set]; exact hA2, wt_yes hA2.symm HI.out (HBR6.out.trans (HB7.out.mono HBR6.out.size)) hlt hA2 HX.out.asc (List.getElem_mem hk) (by rw [HKS.out, HS.out]) HNV.out hBr hBw0⟩
        case measure => simp [intOf]; omega
    · obtain rfl : i = l0.length := by omega
      have hI := HI.out
      have hiv : IntsAt wr iv x.ids := (H.out.below hI.below).ids
      have x0 : wr.cell? ⟨Xb, 0, none⟩ = some iv := hI.xb.cell 0
      have v0 : wr.cell? ⟨Vb, 0, none⟩ = some (.int .i64 id) := hI.vb.cell 0
      have hids := HX.out.ids
      have hxl : x.ids.length ≤ 1000 := by rw [hids, List.length_map]; exact hl
      have hasc : x.ids.Pairwise (· ≤ ·) := by
        rw [hids]
        exact List.pairwise_map.2 (HE.out.imp fun {a b} h => Int.le_of_lt h)
      have HIV := Lib.hid hiv
      have HASC := Lib.hid hasc
      clear hI hiv hids hasc
      go_wp2_with fail
      refine (binI iv x.ids id wr HIV.out (by omega) HASC.out).mono ?_
      rintro e w8 ⟨rfl, hb8⟩
      obtain ⟨kk, hkk0⟩ : ∃ kk, kk = x.ids.countP (· < id) := ⟨_, rfl⟩
      have hkk : kk ≤ x.ids.length := by rw [hkk0]; exact List.countP_le_length
      rw [← hkk0]
      have HKK := Lib.hid hkk0
      obtain ⟨qb, hqb⟩ : ∃ qb : Bool, qb = x.ids.contains id := ⟨_, rfl⟩
      rw [← hqb]
      have hI := HI.out
      have hall8 := hI.below.trans (hb8.mono hBr)
      have HALL8 := Lib.hid hall8
      have HXB := Lib.hid (hI.xb.below hb8 hI.xb.lt)
      have HVB := Lib.hid (hI.vb.below hb8 hI.vb.lt)
      have HRB := Lib.hid (hI.rb.below hb8 hI.rb.lt)
      have htl : TmL wr (.slice la l0.length lc) (upT x.terms l0) := ⟨A2, by rw [hI.eq, List.take_length, List.drop_length, List.append_nil]; rfl, ⟨rows_of_owns encT hI.own (fun _ => rfl), Typed.of_own hI.own⟩, hI.at'⟩
      have HTL := Lib.hid (htl.below hb8)
      have HIV8 := Lib.hid (HIV.out.below hb8)
      have hXl : Xb < w8.heap.size := HXB.out.lt
      have hVl : Vb < w8.heap.size := HVB.out.lt
      have hB8 : w.heap.size ≤ w8.heap.size := hall8.size
      clear hkk0 hqb hI hall8 htl hb8 x0 v0 HIV
      have x0 : w8.cell? ⟨Xb, 0, none⟩ = some iv := HXB.out.cell 0
      have v0 : w8.cell? ⟨Vb, 0, none⟩ = some (.int .i64 id) := HVB.out.cell 0
      go_upto_region 10 with fail
      go_cut [] from 55 to 63 (fun wx => ∃ iv2, Has wx Xb #[iv2, sv, tv] 29 ∧ w8.grownBy wx (some Xb) ∧ IntsAt wx iv2 (x.ids.take kk ++ id :: x.ids.drop kk))
      case first =>
        refine anyT_start (S := fun W : World => W.cell? ⟨Xb, 0, none⟩ = some iv ∧ W.cell? ⟨Vb, 0, none⟩ = some (.int .i64 id)) (t := 9) (by kernel_rfl) ?_
        have hb0 := (Below.refl w8.heap.size w8).drew
        have HB0 := Lib.hid hb0
        have hS0 : w8.drew.cell? ⟨Xb, 0, none⟩ = some iv ∧ w8.drew.cell? ⟨Vb, 0, none⟩ = some (.int .i64 id) := ⟨x0, v0⟩
        have hwd : w8.heap.size ≤ w8.drew.heap.size := hb0.size
        clear hb0
        generalize w8.drew = wd at *
        refine takeT (i := 0) (v := ?_) rfl rfl (by kernel_rfl) (by kernel_rfl) (by kernel_rfl) (fun _ _ _ h => h) (by decide) (by kernel_rfl) (by kernel_rfl) ?_ hS0 ?_
        rotate_left
        · intro w hSw; (try dsimp only at hSw); go_simp; (try with_reducible rfl)
        simp only [List.setIfInBounds_toArray, List.set_cons_zero, List.set_cons_succ]
        refine takeT (i := 1) (v := ?_) rfl rfl (by kernel_rfl) (by kernel_rfl) (by kernel_rfl) (fun _ _ _ h => h) (by decide) (by kernel_rfl) (by kernel_rfl) ?_ hS0 ?_
        rotate_left
        · intro w hSw; (try dsimp only at hSw); go_simp; (try with_reducible rfl)
        simp only [List.setIfInBounds_toArray, List.set_cons_zero, List.set_cons_succ]
        refine takeT (i := 3) (v := ?_) rfl rfl (by kernel_rfl) (by kernel_rfl) (by kernel_rfl) (fun _ _ _ h => h) (by decide) (by kernel_rfl) (by kernel_rfl) ?_ hS0 ?_
        rotate_left
        · intro w hSw; (try dsimp only at hSw); go_simp; (try with_reducible rfl)
        simp only [List.setIfInBounds_toArray, List.set_cons_zero, List.set_cons_succ]
        refine takeT (i := 4) (v := ?_) rfl rfl (by kernel_rfl) (by kernel_rfl) (by kernel_rfl) (fun _ _ _ h => h) (by decide) (by kernel_rfl) (by kernel_rfl) ?_ hS0 ?_
        rotate_left
        · intro w hSw; (try dsimp only at hSw); go_simp; (try with_reducible rfl)
        simp only [List.setIfInBounds_toArray, List.set_cons_zero, List.set_cons_succ]
        refine takeT (i := 5) (v := ?_) rfl rfl (by kernel_rfl) (by kernel_rfl) (by kernel_rfl) (fun _ _ _ h => h) (by decide) (by kernel_rfl) (by kernel_rfl) ?_ hS0 ?_
        rotate_left
        · intro w hSw; (try dsimp only at hSw); go_simp; (try with_reducible rfl)
        simp only [List.setIfInBounds_toArray, List.set_cons_zero, List.set_cons_succ]
        refine twoT (i := 2) (j := 6) rfl rfl (by kernel_rfl) (fun K hK => ?_) (fun K hK => ?_)
        · -- the clone first
          go_simp
          refine (cloneI iv x.ids wd (HIV8.out.below HB0.out) (by omega)).mono ?_
          rintro e wa ⟨⟨cv, rfl, hcv⟩, hba⟩
          have hS1 : wa.cell? ⟨Xb, 0, none⟩ = some iv ∧ wa.cell? ⟨Vb, 0, none⟩ = some (.int .i64 id) := ⟨(below_cell hba (by omega)).trans hS0.1, (below_cell hba (by omega)).trans hS0.2⟩
          refine hK.out _ _ (fun _ => hS1) ?_
          clear hK
          try simp only [List.setIfInBounds_toArray, List.set_cons_zero, List.set_cons_succ, Act.put]
          refine oneT (i := 6) rfl (by kernel_rfl) (fun K hK => ?_)
          go_simp
          have hnw := Has.new wa #[.int .i64 id] 3
          have hbb : Below wa.heap.size wa (wa.alloc (.cells #[.int .i64 id] 3)) := (Below.refl _ _).alloc (Nat.le_refl _) _
          have hS2 : (wa.alloc (.cells #[.int .i64 id] 3)).cell? ⟨Xb, 0, none⟩ = some iv ∧ (wa.alloc (.cells #[.int .i64 id] 3)).cell? ⟨Vb, 0, none⟩ = some (.int .i64 id) := ⟨(below_cell hbb (Nat.lt_of_lt_of_le (by omega) hba.size)).trans hS1.1, (below_cell hbb (Nat.lt_of_lt_of_le (by omega) hba.size)).trans hS1.2⟩
          refine hK.out _ _ (fun _ => hS2) ?_
          clear hK
          have hcv2 := owns_below hcv hbb
          have hne : cv.ownBlock ≠ some wa.heap.size := fun q => by have := (hcv.lt _ q).2; omega
          obtain ⟨Bq, hBq⟩ : ∃ Bq, Bq = wd.heap.size := ⟨_, rfl⟩
          rw [← hBq] at hcv2
          have hsz := (hba.trans (hbb.mono hba.size)).size
          have hall := below_up HB0.out (hba.trans (hbb.mono hba.size)) HB0.out.size
          generalize hXX : wa.heap.size = XX at *
          generalize wa.alloc (.cells #[.int .i64 id] 3) = wb at *
          clear hba hcv hbb hS1
          try simp only [List.setIfInBounds_toArray, List.set_cons_zero, List.set_cons_succ, Act.put]
          have hBw : Bq ≤ wb.heap.size := by omega
          refine oneT (i := 7) rfl (by kernel_rfl) (fun K hK => ?_)
          go_simp
          refine (insI Bq cv x.ids kk XX id wb hcv2 hnw hne hkk hBw (by omega)).mono ?_
          rintro e wc2 ⟨⟨nv, rfl, hnv⟩, hbc⟩
          obtain ⟨nva, nvc, hnvs⟩ := owns_slice hnv
          subst hnvs
          have hlow : w8.heap.size ≤ Bq := by omega
          have hall2 := hall.trans (hbc.mono hlow)
          have HALL := Lib.hid hall2
          have HNV := Lib.hid hnv
          have hS3 : wc2.cell? ⟨Xb, 0, none⟩ = some iv ∧ wc2.cell? ⟨Vb, 0, none⟩ = some (.int .i64 id) := ⟨(below_cell hall2 hXl).trans x0, (below_cell hall2 hVl).trans v0⟩
          have hXB := HXB.out.below hall2 hXl
          have HXB2 := Lib.hid hXB
          have z0 := hXB.cell 0
          have z1 := hXB.fz 0
          refine hK.out _ _ (fun _ => hS3) ?_
          clear hK hall hall2 hbc hnv hXB
          try simp only [List.setIfInBounds_toArray, List.set_cons_zero, List.set_cons_succ, Act.put]
          refine oneT (i := 8) rfl (by kernel_rfl) (fun K hK => ?_)
          go_simp
          refine hK.out _ _ (fun _ => hS3) ?_
          clear hK
          try simp only [List.setIfInBounds_toArray, List.set_cons_zero, List.set_cons_succ, Act.put]
          refine oneT (i := 9) rfl (by kernel_rfl) (fun K hK => ?_)
          go_simp
          refine hK.out _ _ (fun q => absurd rfl q) ?_
          refine doneT (by kernel_rfl) ?_ _
          clear hK
          go_wp2_with fail
          go_meet
          exact ⟨_, HXB2.out.set 0 _, grownBy_setc (grownBy_of_below HALL.out (some Xb)) (.inr rfl), IntsAt.other (IntsAt.of_own (by rw [List.length_append, List.length_cons, List.length_take, List.length_drop, show min kk x.ids.length + (x.ids.length - kk + 1) = x.ids.length + 1 by omega]; exact HNV.out)) (RowOther.of_has HXB2.out (by decide) (by decide) (by decide)) (grownBy_set _ _ _ _)⟩
        · -- the element first
          go_simp
          have hnw0 := Has.new wd #[.int .i64 id] 3
          have hbb : Below wd.heap.size wd (wd.alloc (.cells #[.int .i64 id] 3)) := (Below.refl _ _).alloc (Nat.le_refl _) _
          have hS1 : (wd.alloc (.cells #[.int .i64 id] 3)).cell? ⟨Xb, 0, none⟩ = some iv ∧ (wd.alloc (.cells #[.int .i64 id] 3)).cell? ⟨Vb, 0, none⟩ = some (.int .i64 id) := ⟨(below_cell hbb (by omega)).trans hS0.1, (below_cell hbb (by omega)).trans hS0.2⟩
          refine hK.out _ _ (fun _ => hS1) ?_
          clear hK
          have hiv := (HIV8.out.below HB0.out).below hbb
          have hXlt : wd.heap.size < (wd.alloc (.cells #[.int .i64 id] 3)).heap.size := hnw0.lt
          obtain ⟨Bq, hBq⟩ : ∃ Bq, Bq = (wd.alloc (.cells #[.int .i64 id] 3)).heap.size := ⟨_, rfl⟩
          have hb1 := below_up HB0.out hbb HB0.out.size
          generalize hXX : wd.heap.size = XX at *
          generalize wd.alloc (.cells #[.int .i64 id] 3) = wa at *
          try simp only [List.setIfInBounds_toArray, List.set_cons_zero, List.set_cons_succ, Act.put]
          refine oneT (i := 2) rfl (by kernel_rfl) (fun K hK => ?_)
          go_simp
          refine (cloneI iv x.ids wa hiv (by omega)).mono ?_
          rintro e wb ⟨⟨cv, rfl, hcv2⟩, hba⟩
          have hS2 : wb.cell? ⟨Xb, 0, none⟩ = some iv ∧ wb.cell? ⟨Vb, 0, none⟩ = some (.int .i64 id) := ⟨(below_cell hba (by omega)).trans hS1.1, (below_cell hba (by omega)).trans hS1.2⟩
          refine hK.out _ _ (fun _ => hS2) ?_
          clear hK
          have hnw := hnw0.below hba hXlt
          have hne : cv.ownBlock ≠ some XX := fun q => by have := (hcv2.lt _ q).1; omega
          have hsz := hba.size
          have hall := below_up hb1 hba hb1.size
          rw [← hBq] at hcv2 hsz
          clear hbb hS1 hba hiv hb1 hnw0
          try simp only [List.setIfInBounds_toArray, List.set_cons_zero, List.set_cons_succ, Act.put]
          have hBw : Bq ≤ wb.heap.size := by omega
          refine oneT (i := 7) rfl (by kernel_rfl) (fun K hK => ?_)
          go_simp
          refine (insI Bq cv x.ids kk XX id wb hcv2 hnw hne hkk hBw (by omega)).mono ?_
          rintro e wc2 ⟨⟨nv, rfl, hnv⟩, hbc⟩
          obtain ⟨nva, nvc, hnvs⟩ := owns_slice hnv
          subst hnvs
          have hlow : w8.heap.size ≤ Bq := by omega
          have hall2 := hall.trans (hbc.mono hlow)
          have HALL := Lib.hid hall2
          have HNV := Lib.hid hnv
          have hS3 : wc2.cell? ⟨Xb, 0, none⟩ = some iv ∧ wc2.cell? ⟨Vb, 0, none⟩ = some (.int .i64 id) := ⟨(below_cell hall2 hXl).trans x0, (below_cell hall2 hVl).trans v0⟩
          have hXB := HXB.out.below hall2 hXl
          have HXB2 := Lib.hid hXB
          have z0 := hXB.cell 0
          have z1 := hXB.fz 0
          refine hK.out _ _ (fun _ => hS3) ?_
          clear hK hall hall2 hbc hnv hXB
          try simp only [List.setIfInBounds_toArray, List.set_cons_zero, List.set_cons_succ, Act.put]
          refine oneT (i := 8) rfl (by kernel_rfl) (fun K hK => ?_)
          go_simp
          refine hK.out _ _ (fun _ => hS3) ?_
          clear hK
          try simp only [List.setIfInBounds_toArray, List.set_cons_zero, List.set_cons_succ, Act.put]
          refine oneT (i := 9) rfl (by kernel_rfl) (fun K hK => ?_)
          go_simp
          refine hK.out _ _ (fun q => absurd rfl q) ?_
          refine doneT (by kernel_rfl) ?_ _
          clear hK
          go_wp2_with fail
          go_meet
          exact ⟨_, HXB2.out.set 0 _, grownBy_setc (grownBy_of_below HALL.out (some Xb)) (.inr rfl), IntsAt.other (IntsAt.of_own (by rw [List.length_append, List.length_cons, List.length_take, List.length_drop, show min kk x.ids.length + (x.ids.length - kk + 1) = x.ids.length + 1 by omega]; exact HNV.out)) (RowOther.of_has HXB2.out (by decide) (by decide) (by decide)) (grownBy_set _ _ _ _)⟩
      case rest =>
        obtain ⟨iv2, hxb, hg, hiv2⟩ := hcut
        obtain ⟨ia, inn, ic, hie⟩ : ∃ ia inn ic, iv2 = .slice ia inn ic := by
          obtain ⟨a1, c1, e1⟩ := SliceAt.len hiv2.1
          exact ⟨_, _, _, e1⟩
        subst hie
        have hro := RowOther.of_has HXB.out (by decide) (by decide) (by decide)
        have hbw : Below w.heap.size w wc := HALL8.out.grown hg hB8 (fun q hq => by cases hq; exact hXlow)
        have hBc : w.heap.size ≤ wc.heap.size := hbw.size
        have HRB1 := Lib.hid (HRB.out.kept hg (by intro e; injection e with e; exact hRX e))
        have HTL1 := Lib.hid (TmL.other HTL.out hro hg)
        have HXB1 := Lib.hid hxb
        have HIV1 := Lib.hid hiv2
        have HBW := Lib.hid hbw
        have x1 : wc.cell? ⟨Xb, 1, none⟩ = some sv := hxb.cell 1
        have hsz0 := HX.out.sizes
        have hsl : x.sizes.length = x.ids.length := by rw [hsz0, HX.out.ids, List.length_map, List.length_map]
        have HSL := Lib.hid hsl
        have hsl2 : x.sizes.length ≤ 1000 := by omega
        clear hxb hg hiv2 hro hbw hsz0 hsl
        go_wp2_with fail
        refine (cloneI sv x.sizes wc (H.out.below HBW.out).sizes (by omega)).mono ?_
        rintro e wd ⟨⟨cv, rfl, hcv⟩, hbd⟩
        have HCV := Lib.hid hcv
        have HBD := Lib.hid hbd
        go_wp2_with fail
        have hbn : Below wd.heap.size wd (wd.alloc (.cells #[.int .i64 sz] 3)) := (Below.refl _ _).alloc (Nat.le_refl _) _
        have hbe : Below wc.heap.size wc (wd.alloc (.cells #[.int .i64 sz] 3)) := HBD.out.trans (hbn.mono HBD.out.size)
        refine (insI wc.heap.size cv x.sizes kk wd.heap.size sz (wd.alloc (.cells #[.int .i64 sz] 3)) (owns_below HCV.out hbn) (Has.new _ _ _) (fun q => by have := (HCV.out.lt _ q).2; omega) (by rw [HSL.out]; exact hkk) hbe.size (by omega)).mono ?_
        rintro e we ⟨⟨nv, rfl, hnv⟩, hbv⟩
        obtain ⟨nva, nvc, hnvs⟩ := owns_slice hnv
        subst hnvs
        have hall9 : Below wc.heap.size wc we := hbe.trans hbv
        have hXB9 := HXB1.out.below hall9 HXB1.out.lt
        have HXB9 := Lib.hid hXB9
        have HNV := Lib.hid (show IntsAt we (.slice nva (x.sizes.length + 1) nvc) (x.sizes.take kk ++ sz :: x.sizes.drop kk) from IntsAt.of_own (by rw [List.length_append, List.length_cons, List.length_take, List.length_drop, show min kk x.sizes.length + (x.sizes.length - kk + 1) = x.sizes.length + 1 by have := HSL.out; omega]; exact hnv))
        have HRB9 := Lib.hid (HRB1.out.below hall9 HRB1.out.lt)
        have HTL9 := Lib.hid (HTL1.out.below hall9)
        have HIV9 := Lib.hid (HIV1.out.below hall9)
        have HBW9 := Lib.hid (HBW.out.trans (hall9.mono hBc))
        have x9 := hXB9.cell 1
        have y9 := hXB9.fz 1
        clear hbn hbe hbv hnv hall9 hXB9 hcv hbd x1 x0 v0
        go_upto_region 12 with fail
        have hro := RowOther.of_has HXB9.out (by decide) (by decide) (by decide)
        have hgs := grownBy_set we Xb 1 (.slice nva (x.sizes.length + 1) nvc)
        have hXB10 := HXB9.out.set 1 (.slice nva (x.sizes.length + 1) nvc)
        have hBW10 := HBW9.out.setCell (p := ⟨Xb, 1, none⟩) hXlow (.slice nva (x.sizes.length + 1) nvc)
        have HRB10 := Lib.hid (HRB9.out.set_other 1 (.slice nva (x.sizes.length + 1) nvc) hRX)
        have HTL10 := Lib.hid (TmL.other HTL9.out hro hgs)
        have HIV10 := Lib.hid (HIV9.out.other hro hgs)
        have HSV10 := Lib.hid (HNV.out.other hro hgs)
        generalize we.setCell ⟨Xb, 1, none⟩ (.slice nva (x.sizes.length + 1) nvc) = wf at *
        have hXB10 : Has wf Xb #[.slice ia inn ic, .slice nva (x.sizes.length + 1) nvc, tv] 29 := hXB10
        have HXB10 := Lib.hid hXB10
        have HBW10 := Lib.hid hBW10
        have x2 : wf.cell? ⟨Xb, 2, none⟩ = some tv := hXB10.cell 2
        have hBf : w.heap.size ≤ wf.heap.size := hBW10.size
        clear hro hgs hXB10 hBW10 x9 y9 HRB9 HTL9 HIV9 HNV HXB9 HBW9
        go_wp2_with fail
        refine (mergedTmL (H.out.below HBW10.out).terms HTL10.out (by have := HN.out; omega) (by unfold upT; rw [List.length_map]; omega)).mono ?_
        rintro e wg ⟨⟨mv, rfl, hmv⟩, hbg⟩
        obtain ⟨mva, mvc, hmvs⟩ := TmL.len hmv
        obtain ⟨mn, hmn⟩ : ∃ mn, mn = (mrg (fun t : TmD => t.1) x.terms (upT x.terms l0)).length := ⟨_, rfl⟩
        rw [← hmn] at hmvs
        subst hmvs
        have HMN := Lib.hid hmn
        have hXB11 := HXB10.out.below hbg HXB10.out.lt
        have HXB11 := Lib.hid hXB11
        have HRB11 := Lib.hid (HRB10.out.below hbg HRB10.out.lt)
        have HMV := Lib.hid hmv
        have HIV11 := Lib.hid (HIV10.out.below hbg)
        have HSV11 := Lib.hid (HSV10.out.below hbg)
        have HBW11 := Lib.hid (HBW10.out.trans (hbg.mono hBf))
        have x3 := hXB11.cell 2
        have y3 := hXB11.fz 2
        clear hmv hmn hbg hXB11 x2
        go_upto_region 13 with fail
        have hro := RowOther.of_has HXB11.out (by decide) (by decide) (by decide)
        have hgs := grownBy_set wg Xb 2 (.slice mva mn mvc)
        have hXB12 := HXB11.out.set 2 (.slice mva mn mvc)
        have hBW12 := HBW11.out.setCell (p := ⟨Xb, 2, none⟩) hXlow (.slice mva mn mvc)
        have hRB12 := HRB11.out.set_other 2 (.slice mva mn mvc) hRX
        have HTM12 := Lib.hid (TmL.other HMV.out hro hgs)
        have HIV12 := Lib.hid (HIV11.out.other hro hgs)
        have HSV12 := Lib.hid (HSV11.out.other hro hgs)
        generalize wg.setCell ⟨Xb, 2, none⟩ (.slice mva mn mvc) = wh at *
        have hXB12 : Has wh Xb #[.slice ia inn ic, .slice nva (x.sizes.length + 1) nvc, .slice mva mn mvc] 29 := hXB12
        have a0 := hXB12.cell 0
        have a1 := hXB12.cell 1
        have a2 := hXB12.cell 2
        have r0 := hRB12.fz 0
        have r1 := hRB12.fz 1
        have r2 := hRB12.fz 2
        have q0 := hRB12.cell 0
        have q1 := hRB12.cell 1
        have q2 := hRB12.cell 2
        have HBW12 := Lib.hid hBW12
        have HRB12 := Lib.hid hRB12
        have HRE := Lib.hid (((hRB12.set 0 (.slice ia inn ic)).set 1 (.slice nva (x.sizes.length + 1) nvc)).set 2 (.slice mva mn mvc))
        clear hro hgs hXB12 hBW12 hRB12 x3 y3
        go_wp2_with fail
        refine bodyPost_ret (results_cell_row rfl _ _ Rb _ _ (0, 0) _ rfl HRE.out Try.underlying29 rfl infoIx) rfl ?_
        rw [← HQ.out]
        have hr0 := RowOther.of_has HRB12.out (by decide) (by decide) (by decide)
        have g0 := grownBy_set wh Rb 0 (.slice ia inn ic)
        have h1 := HRB12.out.set 0 (.slice ia inn ic)
        have hr1 := RowOther.of_has h1 (by decide) (by decide) (by decide)
        have g1 := grownBy_set (wh.setCell ⟨Rb, 0, none⟩ (.slice ia inn ic)) Rb 1 (.slice nva (x.sizes.length + 1) nvc)
        have h2 := h1.set 1 (.slice nva (x.sizes.length + 1) nvc)
        have hr2 := RowOther.of_has h2 (by decide) (by decide) (by decide)
        have g2 := grownBy_set ((wh.setCell ⟨Rb, 0, none⟩ (.slice ia inn ic)).setCell ⟨Rb, 1, none⟩ (.slice nva (x.sizes.length + 1) nvc)) Rb 2 (.slice mva mn mvc)
        have hid : v.1 = id := by rw [HV.out]
        refine ⟨⟨_, _, _, ⟨x.ids.take kk ++ id :: x.ids.drop kk, x.sizes.take kk ++ sz :: x.sizes.drop kk, mrg (fun t : TmD => t.1) x.terms (upT x.terms l0)⟩, rfl, ⟨?_, ?_, ?_⟩, ?_, ?_⟩, ?_⟩
        · exact ((HIV12.out.other hr0 g0).other hr1 g1).other hr2 g2
        · exact ((HSV12.out.other hr0 g0).other hr1 g1).other hr2 g2
        · exact TmL.other (TmL.other (TmL.other HTM12.out hr0 g0) hr1 g1) hr2 g2
        · have hw := with_ok HE.out HX.out (v := v) (by rw [hid]; exact HNE.out) HTM.out
          have i1 := ins_lists HE.out v (by rw [hid]; exact HNE.out) (·.1)
          have i2 := ins_lists HE.out v (by rw [hid]; exact HNE.out) szF
          rw [hid, ← HX.out.ids, ← HKK.out] at i1
          rw [hid, ← HX.out.ids, ← HX.out.sizes, ← HKK.out, ← HSZ.out] at i2
          rw [i1, i2] at hw
          exact hw
        · have h3 := mrg_len (fun t : TmD => t.1) x.terms (upT x.terms l0)
          have h4 : (upT x.terms l0).length = l0.length := by unfold upT; rw [List.length_map]
          have h5 := HN.out
          show (mrg (fun t : TmD => t.1) x.terms (upT x.terms l0)).length ≤ N + 100000
          omega
        · exact ((HBW12.out.setCell (p := ⟨Rb, 0, none⟩) hRlow _).setCell (p := ⟨Rb, 1, none⟩) hRlow _).setCell (p := ⟨Rb, 2, none⟩) hRlow _
end Go.Proofs.Ytfjcbclakgidkaa
