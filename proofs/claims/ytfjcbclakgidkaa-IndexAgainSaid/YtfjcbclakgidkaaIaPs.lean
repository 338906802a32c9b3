/- What know.postings holds in memory while it goes on: a map from stems to boxes, the stems, the places in each box. -/
import Derived.Test.YtfjcbclakgidkaaIaMap
import Derived.Test.YtfjcbclakgidkaaIaLaw2
import Derived.Test.YtfjcbclakgidkaaFam
import Derived.Test.YtfjcbclakgidkaaCellRow
namespace Go.Proofs.Ytfjcbclakgidkaa
open Go.RowKit

theorem posL_append (s : List UInt8) : ∀ (l : List (List UInt8)) (n : Nat) (w : List UInt8), posL s n (l ++ [w]) = posL s n l ++ (if stemF w = s then [((n + l.length : Nat) : Int)] else [])
  | [], n, w => by
    simp only [List.nil_append, posL, List.length_nil, Nat.add_zero]
  | x :: l, n, w => by
    have ih := posL_append s l (n + 1) w
    simp only [List.cons_append, posL, List.length_cons]
    rw [ih, show n + 1 + l.length = n + (l.length + 1) by omega]
    split <;> rfl
theorem posL_nil_iff (s : List UInt8) : ∀ (l : List (List UInt8)) (n : Nat), posL s n l = [] ↔ ∀ w ∈ l, stemF w ≠ s
  | [], n => by simp [posL]
  | x :: l, n => by
    have ih := posL_nil_iff s l (n + 1)
    simp only [posL]
    split
    · rename_i h
      constructor
      · intro g; cases g
      · intro g; exact absurd h (g x List.mem_cons_self)
    · rename_i h
      rw [ih]
      constructor
      · intro g w hw
        rcases List.mem_cons.1 hw with rfl | hw
        · exact h
        · exact g w hw
      · exact fun g w hw => g w (List.mem_cons_of_mem _ hw)
theorem posL_len (s : List UInt8) : ∀ (l : List (List UInt8)) (n : Nat), (posL s n l).length ≤ l.length
  | [], n => Nat.le_refl _
  | x :: l, n => by
    have ih := posL_len s l (n + 1)
    simp only [posL, List.length_cons]
    split
    · simp only [List.length_cons]; omega
    · omega

theorem has_types1 {w : World} {b c : Nat} {cs ds : Array Value} {s t : TypeId} (h : Has w b cs s) (k : Has w c ds t) (hst : s ≠ t) : b ≠ c := by
  rintro rfl
  unfold Has at h k
  rw [h] at k
  cases k
  exact hst rfl
structure PsAt (w : World) (B bm be bz mb : Nat) (id : Int) (t b : ByteArray) (S : List (List UInt8)) (f : List UInt8 → Option Nat) (K : Nat → Nat) (sv : Value) (V : Nat → Value) (X : Nat → List Int) : Prop where
  m : Has w bm #[.map (some mb)] 82
  v : Has w be #[.int .i64 id, .string t, .string b] 24
  z : Has w bz #[sv] 42
  own : w.ownsRow B 9 1 sv S.length (S.map strV)
  map : PMap w mb S.length f
  box : ∀ i, i < S.length → Has w (K i) #[.int .i64 id, V (2 * i), V (2 * i + 1)] 57
  lo : ∀ i, i < S.length → B ≤ K i
  inj : ∀ i j, i < S.length → j < S.length → K i = K j → i = j
  rows : Rows w B 3 1 (2 * S.length) V (fun p => (X p).length) (fun p => (X p).map (Value.int .i64))
  get : ∀ i (h : i < S.length), f S[i] = some (K i)
  no : ∀ s, s ∉ S → f s = none
  nil : ∀ p, 2 * S.length ≤ p → V p = .slice none 0 0 ∧ X p = []
  lob : B ≤ bz ∧ B ≤ mb
section
variable {w w' : World} {B bm be bz mb : Nat} {id : Int} {t b : ByteArray} {S : List (List UInt8)} {f : List UInt8 → Option Nat} {K : Nat → Nat} {sv : Value} {V : Nat → Value} {X : Nat → List Int}
theorem PsAt.below (h : PsAt w B bm be bz mb id t b S f K sv V X) (hb : Below w.heap.size w w') : PsAt w' B bm be bz mb id t b S f K sv V X :=
  ⟨h.m.below hb h.m.lt, h.v.below hb h.v.lt, h.z.below hb h.z.lt, owns_below h.own hb, h.map.below hb, fun i hi => (h.box i hi).below hb (h.box i hi).lt, h.lo, h.inj, h.rows.below hb, h.get, h.no, h.nil, h.lob⟩
theorem PsAt.nd (h : PsAt w B bm be bz mb id t b S f K sv V X) : S.Nodup := by
  rw [List.Nodup, List.pairwise_iff_getElem]
  intro i j hi hj hij e
  have h1 := h.get i hi
  rw [e, h.get j hj] at h1
  have := h.inj j i hj hi (by injection h1)
  omega
theorem PsAt.found (h : PsAt w B bm be bz mb id t b S f K sv V X) {s : List UInt8} (hs : s ∈ S) : ∃ i, i < S.length ∧ f s = some (K i) ∧ S[i]? = some s := by
  obtain ⟨i, hi, rfl⟩ := List.mem_iff_getElem.1 hs
  exact ⟨i, hi, h.get i hi, List.getElem?_eq_getElem hi⟩
theorem strV_one (s : List UInt8) : (strV s).oneCell' = true := rfl
/-- one more place of a stem -/
theorem PsAt.take (h : PsAt w B bm be bz mb id t b S f K sv V X) {i c : Nat} (hi : i < S.length) (hc : c < 2) {v' : Value} {j : Int} (ho : w'.ownsRow B 3 1 v' ((X (2 * i + c)).length + 1) ((X (2 * i + c)).map (Value.int .i64) ++ [.int .i64 j]))
    (hg : w.grownBy w' (V (2 * i + c)).ownBlock) (hf : Fresh w (V (2 * i + c)) v') :
    PsAt (w'.setCell ⟨K i, 1 + c, none⟩ v') B bm be bz mb id t b S f K sv (updV V (2 * i + c) v') (updV X (2 * i + c) (X (2 * i + c) ++ [j])) := by
  have hp : 2 * i + c < 2 * S.length := by omega
  have hbi := h.box i hi
  have ho0 := h.rows.own _ hp
  have hK1 : Has w' (K i) #[.int .i64 id, V (2 * i), V (2 * i + 1)] 57 := hbi.kept_own ho0 (by decide) hg
  have hgs := grownBy_set w' (K i) (1 + c) v'
  have hR := (h.rows.append hp ho hg hf).kept_has hK1 (by decide) hgs
  have hm1 : PMap w' mb S.length f := h.map.kept hg (h.map.ne_own ho0)
  have hown1 : w'.ownsRow B 9 1 sv S.length (S.map strV) := owns_kept_own h.own ho0 (by decide) hg
  refine ⟨?_, ?_, ?_, owns_kept_has hown1 hK1 (by decide) hgs, hm1.kept hgs (fun q => hm1.ne_has hK1 (by injection q)), fun q hq => ?_, h.lo, h.inj, hR.congr (fun p _ => ?_) (fun p _ => ?_), h.get, h.no, fun p hq => ?_, h.lob⟩
  · have h1 := h.m.kept_own ho0 (by decide) hg
    exact h1.set_other _ _ (has_types1 h1 hK1 (by decide))
  · have h1 := h.v.kept_own ho0 (by decide) hg
    exact h1.set_other _ _ (has_types1 h1 hK1 (by decide))
  · have h1 := h.z.kept_own ho0 (by decide) hg
    exact h1.set_other _ _ (has_types1 h1 hK1 (by decide))
  · by_cases e : q = i
    · subst e
      have h1 := hK1.set (1 + c) v'
      rcases (show c = 0 ∨ c = 1 by omega) with rfl | rfl
      · rw [show 2 * q + 0 = 2 * q from rfl, updV_at, updV_ne _ _ (by omega)]
        exact h1
      · rw [updV_ne _ _ (show 2 * q ≠ 2 * q + 1 by omega), updV_at]
        exact h1
    · have h1 : Has w' (K q) #[.int .i64 id, V (2 * q), V (2 * q + 1)] 57 := (h.box q hq).kept_own ho0 (by decide) hg
      rw [updV_ne _ _ (by omega), updV_ne _ _ (by omega)]
      exact h1.set_other _ _ (fun g => e (h.inj q i hq hi g))
  · by_cases e : p = 2 * i + c
    · subst e
      rw [updV_at, updV_at, List.length_append]
      rfl
    · rw [updV_ne _ _ e, updV_ne _ _ e]
  · by_cases e : p = 2 * i + c
    · subst e
      rw [updV_at, updV_at, List.map_append]
      rfl
    · rw [updV_ne _ _ e, updV_ne _ _ e]
  · rw [updV_ne _ _ (by omega), updV_ne _ _ (by omega)]
    exact h.nil p hq
/-- a new stem: its box, the map, the stems -/
theorem PsAt.mid (h : PsAt w B bm be bz mb id t b S f K sv V X) {w1 : World} (hg : (w.alloc (.cells #[.int .i64 id, .slice none 0 0, .slice none 0 0] 57)).grownBy w1 (some mb)) :
    Has w1 bz #[sv] 42 ∧ w1.ownsRow B 9 1 sv S.length (S.map strV) ∧ w.heap.size + 1 ≤ w1.heap.size ∧ (B ≤ w.heap.size → Below B w w1) := by
  have hb0 : Below w.heap.size w (w.alloc (.cells #[.int .i64 id, .slice none 0 0, .slice none 0 0] 57)) := (Below.refl _ _).alloc (Nat.le_refl _) _
  have h0 := h.below hb0
  refine ⟨h0.z.kept hg (fun q => h0.map.ne_has h0.z (by injection q with q; exact q.symm)), h0.own.kept hg ?_, ?_, fun hB => (hb0.mono hB).grown hg (Nat.le_trans hB (by simp)) (fun k hk => by cases hk; exact h.lob.2)⟩
  · cases hq : sv.ownBlock with
    | none => exact .inl rfl
    | some k => exact .inr (fun q => h0.map.ne_own h0.own (by rw [hq]; exact q.symm))
  · have := hg.size
    simpa using this
theorem PsAt.add (h : PsAt w B bm be bz mb id t b S f K sv V X) (hB : B ≤ w.heap.size) {s : List UInt8} (hs : s ∉ S) {w1 w2 : World} {sv' : Value}
    (hg : (w.alloc (.cells #[.int .i64 id, .slice none 0 0, .slice none 0 0] 57)).grownBy w1 (some mb)) (hmap : PMap w1 mb (S.length + 1) (updF f s w.heap.size))
    (ho : w2.ownsRow B 9 1 sv' (S.length + 1) (S.map strV ++ [strV s])) (hg2 : w1.grownBy w2 sv.ownBlock) :
    PsAt (w2.setCell ⟨bz, 0, none⟩ sv') B bm be bz mb id t b (S ++ [s]) (updF f s w.heap.size) (updV K S.length w.heap.size) sv' V X := by
  have hb0 : Below w.heap.size w (w.alloc (.cells #[.int .i64 id, .slice none 0 0, .slice none 0 0] 57)) := (Below.refl _ _).alloc (Nat.le_refl _) _
  have h0 := h.below hb0
  obtain ⟨hz1, hown1, hsz, _⟩ := h.mid hg
  have hz2 : Has w2 bz #[sv] 42 := hz1.kept_own hown1 (by decide) hg2
  have hgs := grownBy_set w2 bz 0 sv'
  have keep : ∀ {c : Nat} {cs : Array Value} {T : TypeId}, Has (w.alloc (.cells #[.int .i64 id, .slice none 0 0, .slice none 0 0] 57)) c cs T → T ≠ 9 → T ≠ 42 → Has (w2.setCell ⟨bz, 0, none⟩ sv') c cs T := by
    intro c cs T hc h1 h2
    have k1 : Has w1 c cs T := hc.kept hg (fun q => h0.map.ne_has hc (by injection q with q; exact q.symm))
    have k2 : Has w2 c cs T := k1.kept_own hown1 h1 hg2
    exact k2.set_other _ _ (has_types1 k2 hz2 h2)
  have hrow1 : Rows w1 B 3 1 (2 * S.length) V (fun p => (X p).length) (fun p => (X p).map (Value.int .i64)) := ⟨fun p hp => (h0.rows.own p hp).kept hg (by
    cases hq : (V p).ownBlock with
    | none => exact .inl rfl
    | some k => exact .inr (fun q => h0.map.ne_own (h0.rows.own p hp) (by rw [hq]; exact q.symm))), h0.rows.ne⟩
  have hrow := (hrow1.kept_own hown1 (by decide) hg2).kept_has hz2 (by decide) hgs
  have hmap2 : PMap w2 mb (S.length + 1) (updF f s w.heap.size) := hmap.kept hg2 (hmap.ne_own hown1)
  have hlen : (S ++ [s]).length = S.length + 1 := by simp
  refine ⟨keep h0.m (by decide) (by decide), keep h0.v (by decide) (by decide), ?_, ?_, ?_, fun i hi => ?_, fun i hi => ?_, fun i j hi hj e => ?_, ⟨fun p hp => ?_, fun p q hp hq hne => ?_⟩, fun i hi => ?_, fun u hu => ?_, fun p hp => ?_, h.lob⟩
  · exact hz2.set 0 sv'
  · rw [hlen, List.map_append]
    exact owns_kept_has ho hz2 (by decide) hgs
  · rw [hlen]
    exact hmap2.kept hgs (fun q => hmap2.ne_has hz2 (by injection q))
  · rw [hlen] at hi
    by_cases e : i = S.length
    · subst e
      rw [updV_at, (h.nil (2 * S.length) (Nat.le_refl _)).1, (h.nil (2 * S.length + 1) (by omega)).1]
      exact keep (Has.new _ _ _) (by decide) (by decide)
    · rw [updV_ne _ _ e]
      exact keep (h0.box i (by omega)) (by decide) (by decide)
  · rw [hlen] at hi
    by_cases e : i = S.length
    · subst e
      rw [updV_at]
      exact hB
    · rw [updV_ne _ _ e]
      exact h.lo i (by omega)
  · rw [hlen] at hi hj
    have hlt : ∀ q, q < S.length → K q < w.heap.size := fun q hq => (h.box q hq).lt
    by_cases e1 : i = S.length
    · by_cases e2 : j = S.length
      · omega
      · rw [e1, updV_at, updV_ne _ _ e2] at e
        have := hlt j (by omega)
        omega
    · by_cases e2 : j = S.length
      · rw [e2, updV_at, updV_ne _ _ e1] at e
        have := hlt i (by omega)
        omega
      · rw [updV_ne _ _ e1, updV_ne _ _ e2] at e
        exact h.inj i j (by omega) (by omega) e
  · rw [hlen] at hp
    by_cases e : p < 2 * S.length
    · exact hrow.own p e
    · obtain ⟨e1, e2⟩ := h.nil p (by omega)
      rw [e1, e2]
      exact World.ownsRow_nil _ _ _ _
  · by_cases e : p < 2 * S.length
    · by_cases e2 : q < 2 * S.length
      · exact hrow.ne p q e e2 hne
      · rw [(h.nil q (by omega)).1]
        exact (NE.nil _).symm
    · rw [(h.nil p (by omega)).1]
      exact NE.nil _
  · rw [hlen] at hi
    by_cases e : i = S.length
    · subst e
      rw [updV_at, List.getElem_append_right (by omega)]
      simp [updF]
    · rw [updV_ne _ _ e, List.getElem_append_left (by omega)]
      have : S[i]'(by omega) ≠ s := fun q => hs (by rw [← q]; exact List.getElem_mem _)
      rw [updF, if_neg this]
      exact h.get i (by omega)
  · have h1 : u ∉ S ∧ u ≠ s := by simpa using hu
    rw [updF, if_neg h1.2]
    exact h.no u h1.1
  · rw [hlen] at hp
    exact h.nil p (by omega)
end
end Go.Proofs.Ytfjcbclakgidkaa
