/- The walk of know.postings. -/
import Derived.Test.YtfjcbclakgidkaaIaTm
import Derived.Sort.OwnSorted
import Derived.Carry
namespace Go.Proofs.Ytfjcbclakgidkaa
open Go.RowKit

structure PsB (w : World) (bm mb : Nat) (B : Nat) (id : Int) (S : List (List UInt8)) (f : List UInt8 → Option Nat) (K : Nat → Nat) (V : Nat → Value) (X : Nat → List Int) : Prop where
  m : Has w bm #[.map (some mb)] 82
  map : PMap w mb S.length f
  box : ∀ i, i < S.length → Has w (K i) #[.int .i64 id, V (2 * i), V (2 * i + 1)] 57
  rows : Rows w B 3 1 (2 * S.length) V (fun p => (X p).length) (fun p => (X p).map (Value.int .i64))
  get : ∀ i (h : i < S.length), f S[i] = some (K i)
theorem PsB.below {w w' : World} {B bm mb : Nat} {id : Int} {S : List (List UInt8)} {f : List UInt8 → Option Nat} {K : Nat → Nat} {V : Nat → Value} {X : Nat → List Int} (h : PsB w bm mb B id S f K V X) (hb : Below w.heap.size w w') : PsB w' bm mb B id S f K V X :=
  ⟨h.m.below hb h.m.lt, h.map.below hb, fun i hi => (h.box i hi).below hb (h.box i hi).lt, h.rows.below hb, h.get⟩
theorem PsB.own {w w' : World} {B bm mb : Nat} {id : Int} {S : List (List UInt8)} {f : List UInt8 → Option Nat} {K : Nat → Nat} {V : Nat → Value} {X : Nat → List Int} (h : PsB w bm mb B id S f K V X) {B' : Nat} {T : TypeId} {sz : Nat} {v : Value} {n : Nat} {xs : List Value} (ho : w.ownsRow B' T sz v n xs) (hg : w.grownBy w' v.ownBlock)
    (h1 : 82 ≠ T) (h2 : 57 ≠ T) (h3 : 3 ≠ T) : PsB w' bm mb B id S f K V X :=
  ⟨h.m.kept_own ho h1 hg, h.map.kept hg (h.map.ne_own ho), fun i hi => (h.box i hi).kept_own ho h2 hg, h.rows.kept_own ho h3 hg, h.get⟩
theorem PsAt.psb {w : World} {B bm be bz mb : Nat} {id : Int} {t b : ByteArray} {S : List (List UInt8)} {f : List UInt8 → Option Nat} {K : Nat → Nat} {sv : Value} {V : Nat → Value} {X : Nat → List Int} (h : PsAt w B bm be bz mb id t b S f K sv V X) : PsB w bm mb B id S f K V X := ⟨h.m, h.map, h.box, h.rows, h.get⟩
theorem one_po {w : World} {P : Nat} {id : Int} {tv bv : Value} {a b : List Int} (h : Has w P #[.int .i64 id, tv, bv] 57) (h1 : IntsAt w tv a) (h2 : IntsAt w bv b) : PoL w (.slice (some ⟨P, 0, none⟩) 1 1) [(id, a, b)] := by
  refine ⟨[((id, a, b), tv, bv)], rfl, ⟨.inr ⟨P, 0, 1, rfl, Nat.le_refl _, h.lt, fun i hi => ⟨[.int .i64 id, tv, bv], ⟨rfl, fun j hj => ?_⟩, ?_⟩⟩, fun c hc => ?_⟩, fun x hx => ?_⟩
  · obtain rfl : i = 0 := by simpa using hi
    rw [show 0 + 0 * 3 + j = j by omega, h.cell j]
    have hj3 : j < 3 := hj
    rcases (show j = 0 ∨ j = 1 ∨ j = 2 by omega) with rfl | rfl | rfl <;> rfl
  · obtain rfl : i = 0 := by simpa using hi
    rfl
  · have : P = c := by simpa [Value.ownBlock] using hc
    subst this
    exact ⟨_, _, h⟩
  · rw [List.mem_singleton.1 hx]
    exact ⟨h1, h2⟩
/-- the start: nothing noted -/
theorem PsAt.start {w : World} {B bm be bz mb : Nat} {id : Int} {t b : ByteArray} (h1 : Has w bm #[.map (some mb)] 82) (h2 : Has w be #[.int .i64 id, .string t, .string b] 24) (h3 : Has w bz #[.slice none 0 0] 42) (h4 : PMap w mb 0 (fun _ => none)) (h5 : B ≤ bz ∧ B ≤ mb) :
    PsAt w B bm be bz mb id t b [] (fun _ => none) (fun _ => 0) (.slice none 0 0) (fun _ => .slice none 0 0) (fun _ => []) :=
  ⟨h1, h2, h3, World.ownsRow_nil _ _ _ _, h4, fun i hi => absurd hi (by simp), fun i hi => absurd hi (by simp), fun i j hi => absurd hi (by simp), Rows.nils _ _ _ _ _, fun i hi => absurd hi (by simp), fun _ _ => rfl, fun _ _ => ⟨rfl, rfl⟩, h5⟩
theorem PsL.start (L : Nat → List (List UInt8)) (h0 : L 0 = []) (h1 : L 1 = []) : PsL [] (fun _ => []) L := by
  refine ⟨fun s => ?_, fun i hi => absurd hi (by simp), fun s hs => absurd hs (by simp), by simp⟩
  constructor
  · intro h; cases h
  · rintro ⟨c, hc, w, hw, _⟩
    rcases (show c = 0 ∨ c = 1 by omega) with rfl | rfl
    · rw [h0] at hw; cases hw
    · rw [h1] at hw; cases hw
/-- terms that the call has made -/
def TmOwn (w : World) (B : Nat) (v : Value) (A : List TmM) : Prop := w.ownsRow B 54 2 v A.length (A.flatMap encT) ∧ ∀ x ∈ A, TmMOk w x
structure PtInv (w wr : World) (B bm mb : Nat) (v : EnD) (S : List (List UInt8)) (f : List UInt8 → Option Nat) (K : Nat → Nat) (sv : Value) (V : Nat → Value) (X : Nat → List Int) (i : Nat) (ov : Value) (A : List TmM) : Prop where
  b : PsB wr bm mb B v.1 S f K V X
  st : wr.ownsRow B 9 1 sv S.length ((sortS S).map strV)
  own : wr.ownsRow B 54 2 ov A.length (A.flatMap encT)
  eq : A.map (·.1) = ((sortS S).take i).map (tmE v)
  at' : ∀ x ∈ A, ∃ P q, ∃ h : q < S.length, x = (tmE v S[q], .slice (some ⟨P, 0, none⟩) 1 1) ∧ Has wr P #[.int .i64 v.1, V (2 * q), V (2 * q + 1)] 57
  below : Below B w wr
def PostPost (w : World) (v : EnD) (e : Ending) (w' : World) : Prop :=
  (∃ lv A, e = .returned (.tuple #[lv, .int .i64 (szF v)]) ∧ TmOk v (A.map (·.1)) ∧ TmOwn w' w.heap.size lv A ∧ A.length ≤ 100000) ∧ Below w.heap.size w w'
theorem PtInv.done {w wr : World} {B bm mb : Nat} {v : EnD} {S : List (List UInt8)} {f : List UInt8 → Option Nat} {K : Nat → Nat} {sv : Value} {V : Nat → Value} {X : Nat → List Int} {i : Nat} {ov : Value} {A : List TmM} (h : PtInv w wr B bm mb v S f K sv V X i ov A) {L : Nat → List (List UInt8)} (hl : PsL S X L) (h0 : L 0 = words v.2.1) (h1 : L 1 = words v.2.2) (hi : S.length ≤ i) (hnd : S.Nodup) :
    TmOk v (A.map (·.1)) ∧ TmOwn wr B ov A := by
  have e1 : A.map (·.1) = (sortS S).map (tmE v) := by rw [h.eq, List.take_of_length_le (by rw [(sortS_perm S).length_eq]; exact hi)]
  refine ⟨?_, h.own, fun x hx => ?_⟩
  · rw [e1]
    refine tm_ok v hnd fun s => ?_
    rw [hl.mem]
    constructor
    · rintro ⟨c, hc, w, hw, e⟩
      refine ⟨c, hc, w, ?_, e⟩
      rcases (show c = 0 ∨ c = 1 by omega) with rfl | rfl
      · simpa [h0] using hw
      · simpa [h1] using hw
    · rintro ⟨c, hc, w, hw, e⟩
      refine ⟨c, hc, w, ?_, e⟩
      rcases (show c = 0 ∨ c = 1 by omega) with rfl | rfl
      · simpa [h0] using hw
      · simpa [h1] using hw
  · obtain ⟨P, q, hq, rfl, hP⟩ := h.at' x hx
    have r0 := h.b.rows.own (2 * q) (by omega)
    have r1 := h.b.rows.own (2 * q + 1) (by omega)
    have p0 := hl.pos q hq 0 (by decide)
    have p1 := hl.pos q hq 1 (by decide)
    rw [h0] at p0
    rw [h1] at p1
    have p0 : X (2 * q) = posL S[q] 0 (words v.2.1) := p0
    simp only [p0] at r0
    simp only [p1] at r1
    exact one_po hP (IntsAt.of_own r0) (IntsAt.of_own r1)
theorem sort_strs (w : World) (B : Nat) (sv : Value) (S : List (List UInt8)) (ho : w.ownsRow B 9 1 sv S.length (S.map strV)) (hl : S.length ≤ 1000000) :
    Calls Try.prog 51 #[sv] w fun e w' => e = .returned (.tuple #[]) ∧ w'.ownsRow B 9 1 sv S.length ((sortS S).map strV) ∧ w.grownBy w' sv.ownBlock := by
  rcases ho.2 with ⟨rfl, h0⟩ | ⟨g, cap, cur, rfl, h1, h2, h3, h4, h5, h6⟩
  · obtain rfl : S = [] := List.eq_nil_of_length_eq_zero h0
    refine (Try.slices_Sort_string_none none 0 w).mono ?_
    rintro e w' ⟨rfl, rfl⟩
    refine ⟨rfl, ?_, grownBy_refl _ _⟩
    rw [show sortS [] = [] from List.eq_nil_of_length_eq_zero (sortS_perm []).length_eq]
    exact World.ownsRow_nil _ _ _ _
  · rw [Nat.mul_one] at h6
    refine (Try.slices_Sort_string g 0 cap S w (holds_of_block h2 h6) (Array.getElem?_eq_some_iff.1 h2).1 (by omega)).mono ?_
    rintro e w' ⟨rfl, n, os, rfl⟩
    exact ⟨rfl, ownsRow_sorted (sortS_perm S).length_eq h1 h2 h3 h4 h5, grownBy_sorted _⟩
theorem infoTmT : (Try.prog.info? 54).map (fun i => (i.zero, i.size, i.bytes)) = some (some (.agg #[.string ⟨#[]⟩, .slice none 0 0]), 2, 40) := by kernel_rfl
set_option maxRecDepth 100000 in
set_option maxHeartbeats 8000000 in
theorem postings_any (id : Int) (t b : ByteArray) (ht : t.size ≤ 50000) (hb : b.size ≤ 50000) (w : World) :
    Calls Try.prog 31 #[.agg #[.int .i64 id, .string t, .string b]] w (PostPost w (id, t.data.toList, b.data.toList)) := by
  have hmm := @run_makeMap Try.prog
  obtain ⟨L, hL⟩ : ∃ L : Nat → List (List UInt8), L = fun _ => [] := ⟨_, rfl⟩
  generalize hQ : PostPost w (id, t.data.toList, b.data.toList) = Q
  have HQ := Lib.hid hQ
  have HL := Lib.hid hL
  clear hQ hL
  go_enter Try.func31, Try.ntmps31
  go_upto_region 4 with fail
  obtain ⟨B, hB⟩ : ∃ B, B = w.heap.size := ⟨_, rfl⟩
  have hps : PsAt ((((w.alloc (.cells #[.int .i64 id, .string t, .string b] 24)).alloc (.map #[] 0)).alloc (.cells #[.map (some (w.heap.size + 1))] 82)).alloc (.cells #[.slice none 0 0] 42)) B (w.heap.size + 1 + 1) w.heap.size (w.heap.size + 1 + 1 + 1) (w.heap.size + 1) id t b [] (fun _ => none) (fun _ => 0) (.slice none 0 0) (fun _ => .slice none 0 0) (fun _ => []) := by
    have k0 := Has.new w #[.int .i64 id, .string t, .string b] 24
    have b0 : Below w.heap.size w (w.alloc (.cells #[.int .i64 id, .string t, .string b] 24)) := (Below.refl _ _).alloc (Nat.le_refl _) _
    have s0 : (w.alloc (.cells #[.int .i64 id, .string t, .string b] 24)).heap.size = w.heap.size + 1 := World.size_alloc _ _
    generalize w.alloc (.cells #[.int .i64 id, .string t, .string b] 24) = w1 at *
    have k1 := PMap.made w1
    have s1 : (w1.alloc (.map #[] 0)).heap.size = w1.heap.size + 1 := World.size_alloc _ _
    have m1 := k0.alloc (.map #[] 0)
    generalize w1.alloc (.map #[] 0) = w2 at *
    rw [s0] at k1 s1
    have k2 := Has.new w2 #[.map (some (w.heap.size + 1))] 82
    have s2 : (w2.alloc (.cells #[.map (some (w.heap.size + 1))] 82)).heap.size = w2.heap.size + 1 := World.size_alloc _ _
    have m2 := m1.alloc (.cells #[.map (some (w.heap.size + 1))] 82)
    have n2 := k1.below ((Below.refl w2.heap.size w2).alloc (Nat.le_refl _) (.cells #[.map (some (w.heap.size + 1))] 82))
    generalize w2.alloc (.cells #[.map (some (w.heap.size + 1))] 82) = w3 at *
    rw [s1] at k2 s2
    have k3 := Has.new w3 #[.slice none 0 0] 42
    rw [s2] at k3
    exact PsAt.start (k2.alloc _) (m2.alloc _) k3 (n2.below ((Below.refl w3.heap.size w3).alloc (Nat.le_refl _) _)) (by omega)
  have hb4 : Below B w ((((w.alloc (.cells #[.int .i64 id, .string t, .string b] 24)).alloc (.map #[] 0)).alloc (.cells #[.map (some (w.heap.size + 1))] 82)).alloc (.cells #[.slice none 0 0] 42)) := by
    rw [hB]
    refine Below.alloc (Below.alloc (Below.alloc (Below.alloc (Below.refl _ _) (Nat.le_refl _) _) ?_ _) ?_ _) ?_ _
    all_goals simp only [World.size_alloc]; omega
  generalize ((((w.alloc (.cells #[.int .i64 id, .string t, .string b] 24)).alloc (.map #[] 0)).alloc (.cells #[.map (some (w.heap.size + 1))] 82)).alloc (.cells #[.slice none 0 0] 42)) = w4 at *
  generalize w.heap.size + 1 + 1 + 1 = bz at *
  generalize w.heap.size + 1 + 1 = bm at *
  generalize w.heap.size + 1 = mb at *
  obtain ⟨be, hbe⟩ : ∃ be, be = w.heap.size := ⟨_, rfl⟩
  rw [← hbe] at hps ⊢
  have HB := Lib.hid hB
  have HPS := Lib.hid hps
  have HB4 := Lib.hid hb4
  have e1 : w4.cell? ⟨be, 1, none⟩ = some (.string t) := hps.v.cell 1
  have hsz4 : B ≤ w4.heap.size := by rw [hB]; exact hb4.size
  clear hps hb4 hB hbe hmm
  go_wp2_with fail
  refine (note_any 0 (by decide) 49 (.inl ⟨rfl, rfl⟩) t (by omega) w4 B bm be bz mb id t b _ _ _ _ _ _ L HPS.out (PsL.start L (by rw [HL.out]) (by rw [HL.out])) (by rw [HL.out]) (by rw [HL.out]; simp) hsz4).mono ?_
  rintro e w5 ⟨rfl, ⟨S5, f5, K5, sv5, V5, X5, hps5, hpl5⟩, hb5⟩
  have HPS5 := Lib.hid hps5
  have HPL5 := Lib.hid hpl5
  have HB5 := Lib.hid (HB4.out.trans hb5)
  have e2 : w5.cell? ⟨be, 2, none⟩ = some (.string b) := hps5.v.cell 2
  have hsz5 : B ≤ w5.heap.size := Nat.le_trans hsz4 hb5.size
  have hwt : (words t.data.toList).length ≤ 50000 := by
    have h1 := words_len t.data.toList.length t.data.toList
    have e1 : t.data.toList.length = t.size := by simp
    unfold words
    omega
  clear hps5 hpl5 hb5 HPS HB4 e1
  go_wp2_with fail
  have hLt : (updV L 0 (words t.data.toList) 0).length + (updV L 0 (words t.data.toList) 1).length ≤ 100000 := by
    rw [updV_at, updV_ne _ _ (by decide), HL.out]
    simp
    omega
  refine (note_any 1 (by decide) 50 (.inr ⟨rfl, rfl⟩) b (by omega) w5 B bm be bz mb id t b _ _ _ _ _ _ _ HPS5.out HPL5.out (by rw [updV_ne _ _ (by decide), HL.out]) hLt hsz5).mono ?_
  rintro e w6 ⟨rfl, ⟨S, f, K, sv, V, X, hps6, hpl6⟩, hb6⟩
  have hS := hpl6.few
  rw [updV_at, updV_ne _ _ (by decide), updV_at] at hS
  have hwb : (words b.data.toList).length ≤ 50000 := by
    have h1 := words_len b.data.toList.length b.data.toList
    have e1 : b.data.toList.length = b.size := by simp
    unfold words
    omega
  have HPS6 := Lib.hid hps6
  have HPL6 := Lib.hid hpl6
  have HB6 := Lib.hid (HB5.out.trans hb6)
  have e3 : w6.cell? ⟨bz, 0, none⟩ = some sv := hps6.z.cell 0
  have hsz6 : B ≤ w6.heap.size := Nat.le_trans hsz5 hb6.size
  have hnd := hps6.nd
  have HND := Lib.hid hnd
  have hSN := Lib.hid hS
  have hS1 : S.length ≤ 100000 := by omega
  obtain ⟨sz, hsz⟩ : ∃ sz : Int, sz = szF (id, t.data.toList, b.data.toList) := ⟨_, rfl⟩
  have q1 : IntKind.i64.wrap (((words t.data.toList).length : Int) + ((words b.data.toList).length : Int)) = sz := by
    rw [IntWalk.i64_in _ (by omega), hsz]
    unfold szF
    simp
  have HSZ := Lib.hid hsz
  clear hps6 hpl6 hb6 HPS5 HPL5 hnd hS hsz e2
  generalize ((words t.data.toList).length : Int) = n1 at *
  generalize ((words b.data.toList).length : Int) = n2 at *
  go_wp2_with fail
  refine (sort_strs w6 B sv S HPS6.out.own (by omega)).mono ?_
  rintro e w7 ⟨rfl, ho7, hg7⟩
  obtain ⟨sa, sc, hsv⟩ := owns_slice ho7
  have h7 := HPS6.out.psb.own HPS6.out.own hg7 (by decide) (by decide) (by decide)
  have hz7 := HPS6.out.z.kept_own HPS6.out.own (by decide) hg7
  have hb7 : Below B w w7 := HB6.out.grown hg7 hsz6 (fun k hk => (HPS6.out.own.lt k hk).1)
  have e4 : w7.cell? ⟨bz, 0, none⟩ = some sv := hz7.cell 0
  rw [hsv] at e4 ho7
  have HI0 := Lib.hid (show PtInv w w7 B bm mb (id, t.data.toList, b.data.toList) S f K (.slice sa S.length sc) V X 0 (.slice none 0 0) [] from ⟨h7, ho7, World.ownsRow_nil _ _ _ _, rfl, fun x hx => (by cases hx), hb7⟩)
  clear h7 hz7 hb7 ho7 hsv hg7 HB6 HB5 q1 e3
  go_wp2_with fail
  go_loopw [8, 27] (fun ov iv wr => ∃ i A, iv = .int .i64 ((i : Nat) : Int) ∧ i ≤ S.length ∧ PtInv w wr B bm mb (id, t.data.toList, b.data.toList) S f K (.slice sa S.length sc) V X i ov A) (fun _ iv _ => S.length - (intOf iv).toNat)
  case atStart => exact ⟨0, [], rfl, Nat.zero_le _, HI0.out⟩
  case round =>
    clear HI0
    obtain ⟨i, A, rfl, hi, hI⟩ := hrel
    have HI := Lib.hid hI
    obtain ⟨oa, oc, hov⟩ := owns_slice hI.own
    subst hov
    clear hI
    by_cases hlt : i < S.length
    · have hlen : (sortS S).length = S.length := (sortS_perm S).length_eq
      obtain ⟨x, hx⟩ : ∃ x, (sortS S)[i]? = some x := ⟨_, List.getElem?_eq_getElem (by omega)⟩
      have hxS : x ∈ S := (sortS_perm S).mem_iff.1 (List.mem_of_getElem? hx)
      have hx30 := HPL6.out.short x hxS
      obtain ⟨q, hq, hqx⟩ := List.mem_iff_getElem.1 hxS
      have hfx := HI.out.b.get q hq
      rw [hqx] at hfx
      have ho := HI.out.st
      obtain ⟨g, hla⟩ : ∃ g, sa = some ⟨g, 0, none⟩ := by
        rcases ho.2 with ⟨q, _⟩ | ⟨g, cap, cur, q, _⟩
        · simp only [Value.slice.injEq] at q
          omega
        · simp only [Value.slice.injEq] at q
          exact ⟨g, q.1⟩
      subst hla
      have c0 : wr.cell? ⟨g, i, none⟩ = some (.string (bs x)) := by
        have h1 := ho.cells (g := g) rfl i (strV x) (by rw [List.getElem?_map, hx]; rfl)
        have e : (⟨g, 0, none⟩ : Addr).add i = ⟨g, i, none⟩ := by unfold Addr.add; split <;> simp_all
        rw [e] at h1
        exact h1
      have c1 : wr.cell? ⟨bm, 0, none⟩ = some (.map (some mb)) := HI.out.b.m.cell 0
      have hlook := HI.out.b.map.look (x := x) (by omega)
      have hlk : (Instr.lookup 82 (.map (some mb)) (.string (bs x)) false).run Try.prog wr = .ok (.pointer (some ⟨K q, 0, none⟩)) wr := by rw [hlook, hfx]; rfl
      have hbx := HI.out.b.box q hq
      have d0 := hbx.cell 0
      obtain ⟨va, vc, hva⟩ := owns_slice (HI.out.b.rows.own (2 * q) (by omega))
      obtain ⟨ua, uc, hua⟩ := owns_slice (HI.out.b.rows.own (2 * q + 1) (by omega))
      have d1 : wr.cell? ⟨K q, 1, none⟩ = some (V (2 * q)) := hbx.cell 1
      have d2 : wr.cell? ⟨K q, 2, none⟩ = some (V (2 * q + 1)) := hbx.cell 2
      rw [hva] at d1
      rw [hua] at d2
      have HVA := Lib.hid hva
      have HUA := Lib.hid hua
      have HX := Lib.hid hx
      have HQX := Lib.hid hqx
      have HLEN := Lib.hid hlen
      have hAl : A.length = i := by
        have := congrArg List.length HI.out.eq
        rw [List.length_map, List.length_map, List.length_take] at this
        omega
      have hAl2 : A.length ≤ 100000 := by omega
      have HAL := Lib.hid hAl
      have hbl : Below wr.heap.size wr (wr.alloc (.cells #[.int .i64 id, .slice va (X (2 * q)).length vc, .slice ua (X (2 * q + 1)).length uc] 57)) := (Below.refl _ _).alloc (Nat.le_refl _) _
      have hbB : B ≤ wr.heap.size := by have := HI.out.below.size; rw [HB.out]; exact this
      have HBL := Lib.hid hbl
      have HNEW := Lib.hid (Has.new wr #[.int .i64 id, .slice va (X (2 * q)).length vc, .slice ua (X (2 * q + 1)).length uc] 57)
      have HOA := Lib.hid (owns_below HI.out.own hbl)
      have hbB1 : B ≤ (wr.alloc (.cells #[.int .i64 id, .slice va (X (2 * q)).length vc, .slice ua (X (2 * q + 1)).length uc] 57)).heap.size := Nat.le_trans hbB hbl.size
      have hbB2 : B ≤ wr.heap.size + 1 := by omega
      clear ho hlook hfx hbx hva hua hx hqx hlen hAl hbl
      go_wp2_with (at_builtin; go_must (refine append_one_at rfl _ _ 27 rfl B 54 (.agg #[.string ⟨#[]⟩, .slice none 0 0]) 2 40 Try.underlying27 infoTmT rfl (by decide) (wr.alloc (.cells #[.int .i64 id, .slice va (X (2 * q)).length vc, .slice ua (X (2 * q + 1)).length uc] 57)) (wr.alloc (.cells #[.int .i64 id, .slice va (X (2 * q)).length vc, .slice ua (X (2 * q + 1)).length uc] 57)) (.slice oa A.length oc) A.length (A.flatMap encT) rfl HOA.out (wr.heap.size + 1) (World.size_alloc _ _).symm [.string (bs x), .slice (some ⟨wr.heap.size, 0, none⟩) 1 1] rfl rfl rfl (by simp [Value.oneCell']) (by omega) (by omega) hbB1 (Below.refl _ _) ?_); intro v' w8 ho8 hb8 hg8 _; have HO8 := Lib.hid ho8; have HB8 := Lib.hid hb8; have HG8 := Lib.hid hg8; clear ho8 hb8 hg8)
      go_roundw
      case rel =>
        refine ⟨i + 1, A ++ [(tmE (id, t.data.toList, b.data.toList) x, .slice (some ⟨wr.heap.size, 0, none⟩) 1 1)], by go_num, hlt, ?_, ?_, ?_, ?_, ?_, ?_⟩
        · exact (HI.out.b.below HBL.out).own HOA.out HG8.out (by decide) (by decide) (by decide)
        · exact owns_kept_own (owns_below HI.out.st HBL.out) HOA.out (by decide) HG8.out
        · have h := HO8.out
          rw [List.length_append, List.flatMap_append]
          simpa [encT, tmE] using h
        · rw [List.map_append, HI.out.eq, List.take_add_one, HX.out, List.map_append]
          rfl
        · intro y hy
          rcases List.mem_append.1 hy with hy | hy
          · obtain ⟨P, r, hr, he, hP⟩ := HI.out.at' y hy
            exact ⟨P, r, hr, he, (hP.below HBL.out hP.lt).kept_own HOA.out (by decide) HG8.out⟩
          · rw [List.mem_singleton.1 hy]
            refine ⟨wr.heap.size, q, hq, by rw [HQX.out], ?_⟩
            rw [HVA.out, HUA.out]
            exact HNEW.out.kept_own HOA.out (by decide) HG8.out
        · exact (HI.out.below.trans (HBL.out.mono hbB)).trans HB8.out
      case measure => simp [intOf]; omega
    · obtain rfl : i = S.length := by omega
      go_wp2_with fail
      have hd := HI.out.done HPL6.out (by rw [updV_ne _ _ (by decide), updV_at]) (by rw [updV_at]) (Nat.le_refl _) HND.out
      rw [← HQ.out]
      refine ⟨⟨_, A, by rw [← HSZ.out]; rfl, hd.1, by rw [← HB.out]; exact hd.2, ?_⟩, by rw [← HB.out]; exact HI.out.below⟩
      have := congrArg List.length HI.out.eq
      rw [List.length_map, List.length_map, List.length_take] at this
      omega
end Go.Proofs.Ytfjcbclakgidkaa
