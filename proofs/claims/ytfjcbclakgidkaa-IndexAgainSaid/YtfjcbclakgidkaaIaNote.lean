/- The walk of the closure of know.postings that notes the words of a text. -/
import Derived.Test.YtfjcbclakgidkaaIaPs
import Derived.Test.YtfjcbclakgidkaaIaStem
namespace Go.Proofs.Ytfjcbclakgidkaa
open Go.RowKit

theorem words_short : ∀ (n : Nat) (l : List UInt8), ∀ w ∈ wordsF n l, w.length ≤ 30
  | 0, l, w, h => by simp [wordsF] at h
  | n + 1, l, w, h => by
    unfold wordsF at h
    split at h
    · cases h
    · rcases List.mem_append.1 h with h | h
      · split at h
        · rename_i g
          rw [List.mem_singleton.1 h, List.length_map]
          exact g.2
        · cases h
      · exact words_short n _ w h
theorem stemF_len (w : List UInt8) : (stemF w).length ≤ w.length := by
  unfold stemF
  repeat' split
  all_goals first | exact Nat.le_refl _ | (simp only [List.length_append, List.length_take, List.length_cons, List.length_nil]; omega)
/-- what is known of the stems and their places, the words L being noted -/
structure PsL (S : List (List UInt8)) (X : Nat → List Int) (L : Nat → List (List UInt8)) : Prop where
  mem : ∀ s, s ∈ S ↔ ∃ c, c < 2 ∧ ∃ w ∈ L c, stemF w = s
  pos : ∀ i (h : i < S.length) c, c < 2 → X (2 * i + c) = posL S[i] 0 (L c)
  short : ∀ s ∈ S, s.length ≤ 30
  few : S.length ≤ (L 0).length + (L 1).length
/-- the stems behind one more word -/
def nextS (S : List (List UInt8)) (s : List UInt8) : List (List UInt8) := if s ∈ S then S else S ++ [s]
theorem nextS_mem (S : List (List UInt8)) (s : List UInt8) : s ∈ nextS S s := by
  unfold nextS
  split
  · assumption
  · simp
theorem nextS_iff (S : List (List UInt8)) (s u : List UInt8) : u ∈ nextS S s ↔ u ∈ S ∨ u = s := by
  unfold nextS
  split
  · rename_i h
    constructor
    · exact .inl
    · rintro (g | rfl)
      · exact g
      · exact h
  · simp
theorem PsL.step {S : List (List UInt8)} {X : Nat → List Int} {L : Nat → List (List UInt8)} (h : PsL S X L) {c : Nat} (hc : c < 2) {w : List UInt8} (hw : w.length ≤ 30) (hnd : (nextS S (stemF w)).Nodup) (hnil : ∀ p, 2 * S.length ≤ p → X p = []) {i : Nat} (hi : i < (nextS S (stemF w)).length) (hwi : (nextS S (stemF w))[i] = stemF w) :
    PsL (nextS S (stemF w)) (updV X (2 * i + c) (X (2 * i + c) ++ [((L c).length : Int)])) (updV L c (L c ++ [w])) := by
  have hinj : ∀ q (hq : q < (nextS S (stemF w)).length), (nextS S (stemF w))[q] = stemF w → q = i := fun q hq e => by
    rcases Nat.lt_trichotomy q i with g | g | g
    · exact absurd (e.trans hwi.symm) (List.pairwise_iff_getElem.1 hnd q i hq hi g)
    · exact g
    · exact absurd (hwi.trans e.symm) (List.pairwise_iff_getElem.1 hnd i q hi hq g)
  have hpos : ∀ q (hq : q < (nextS S (stemF w)).length) d, d < 2 → X (2 * q + d) = posL (nextS S (stemF w))[q] 0 (L d) := fun q hq d hd => by
    by_cases g : q < S.length
    · have e : (nextS S (stemF w))[q] = S[q] := by
        have : (nextS S (stemF w))[q]? = S[q]? := by
          unfold nextS
          split
          · rfl
          · rw [List.getElem?_append_left g]
        rw [List.getElem?_eq_getElem hq, List.getElem?_eq_getElem g] at this
        exact Option.some.inj this
      rw [e]
      exact h.pos q g d hd
    · rw [hnil _ (by omega)]
      symm
      rw [posL_nil_iff]
      intro u hu e
      have hm : stemF u ∈ S := (h.mem _).2 ⟨d, hd, u, hu, rfl⟩
      have hs : ¬ stemF w ∈ S := fun g2 => by
        unfold nextS at hq
        rw [if_pos g2] at hq
        exact g hq
      have e2 : (nextS S (stemF w))[q]? = (S ++ [stemF w])[q]? := by unfold nextS; rw [if_neg hs]
      have hq2 : q < (S ++ [stemF w]).length := by unfold nextS at hq; rw [if_neg hs] at hq; exact hq
      rw [List.getElem?_append_right (by omega), show q - S.length = 0 by simp at hq2; omega, List.getElem?_eq_getElem hq] at e2
      have e3 : (nextS S (stemF w))[q] = stemF w := Option.some.inj e2
      rw [e3] at e
      rw [e] at hm
      exact hs hm
  refine ⟨fun s => ?_, fun q hq d hd => ?_, fun s hs => ?_, ?_⟩
  · rw [nextS_iff, h.mem]
    constructor
    · rintro (⟨d, hd, u, hu, e⟩ | rfl)
      · refine ⟨d, hd, u, ?_, e⟩
        by_cases g : d = c
        · rw [g, updV_at]; exact List.mem_append_left _ (g ▸ hu)
        · rw [updV_ne _ _ g]; exact hu
      · refine ⟨c, hc, w, ?_, rfl⟩
        rw [updV_at]
        simp
    · rintro ⟨d, hd, u, hu, e⟩
      by_cases g : d = c
      · rw [g, updV_at] at hu
        rcases List.mem_append.1 hu with hu | hu
        · exact .inl ⟨c, hc, u, hu, e⟩
        · rw [List.mem_singleton.1 hu] at e
          exact .inr e.symm
      · rw [updV_ne _ _ g] at hu
        exact .inl ⟨d, hd, u, hu, e⟩
  · by_cases g : d = c
    · subst g
      rw [updV_at, posL_append]
      by_cases g2 : q = i
      · subst g2
        rw [updV_at, if_pos hwi.symm, hpos q hq d hd, Nat.zero_add]
      · rw [updV_ne _ _ (by omega), if_neg (fun e => g2 (hinj q hq e.symm)), List.append_nil]
        exact hpos q hq d hd
    · rw [updV_ne _ _ g, updV_ne _ _ (by omega)]
      exact hpos q hq d hd
  · rcases (nextS_iff S _ s).1 hs with g | rfl
    · exact h.short s g
    · exact Nat.le_trans (stemF_len w) hw
  · have h1 := h.few
    have h2 : (nextS S (stemF w)).length ≤ S.length + 1 := by
      unfold nextS
      split
      · omega
      · simp
    rcases (show c = 0 ∨ c = 1 by omega) with rfl | rfl
    · rw [updV_at, updV_ne _ _ (by decide), List.length_append, List.length_singleton]
      omega
    · rw [updV_at, updV_ne _ _ (by decide), List.length_append, List.length_singleton]
      omega
theorem updV_updV {α : Type} (f : Nat → α) (c : Nat) (x y : α) : updV (updV f c x) c y = updV f c y := by
  funext p
  unfold updV
  split <;> rfl
theorem updV_self {α : Type} (f : Nat → α) (c : Nat) : updV f c (f c) = f := by
  funext p
  unfold updV
  split
  · rename_i h; rw [h]
  · rfl
theorem nt_end {S : List (List UInt8)} {X : Nat → List Int} {L : Nat → List (List UInt8)} {c : Nat} (hc : c < 2) {ws : List (List UInt8)} {j : Nat} (h : PsL S X (updV L c (ws.take j))) (hj : j < ws.length) {x : List UInt8} (hx : x = ws[j]) (hx30 : x.length ≤ 30)
    (hnd : (nextS S (stemF x)).Nodup) (hnil : ∀ p, 2 * S.length ≤ p → X p = []) {i : Nat} (hi : i < (nextS S (stemF x)).length) (hsi : (nextS S (stemF x))[i]? = some (stemF x)) :
    PsL (nextS S (stemF x)) (updV X (2 * i + c) (X (2 * i + c) ++ [(j : Int)])) (updV L c (ws.take (j + 1))) := by
  have h1 := h.step hc hx30 hnd hnil hi (by rw [List.getElem?_eq_getElem hi] at hsi; exact Option.some.inj hsi)
  rw [updV_at, updV_updV] at h1
  rw [List.length_take, Nat.min_eq_left (by omega)] at h1
  rw [List.take_succ_eq_append_getElem hj, ← hx]
  exact h1
theorem ptrEq (o : Option Nat) (W : World) : (Go.binOp .eql 84 (ptrV o) (.pointer none)).run Try.prog W = Result.ok (Value.bool o.isNone) W := by
  cases o with
  | none =>
    show (Go.binOp .eql 84 (.pointer none) (.pointer none)).run Try.prog W = _
    go_simp
  | some k =>
    show (Go.binOp .eql 84 (.pointer (some ⟨k, 0, none⟩)) (.pointer none)).run Try.prog W = _
    go_simp
theorem ptrGuard (o : Option Nat) (a b : Operand) (W : World) : (Go.eqGuard .eql 84 a b (ptrV o) (.pointer none)).run Try.prog W = Result.ok () W := by
  cases o with
  | none =>
    show (Go.eqGuard .eql 84 a b (.pointer none) (.pointer none)).run Try.prog W = _
    go_simp
  | some k =>
    show (Go.eqGuard .eql 84 a b (.pointer (some ⟨k, 0, none⟩)) (.pointer none)).run Try.prog W = _
    go_simp
theorem toTitle_any (k : Nat) (w : World) : Calls Try.prog 49 #[.pointer (some ⟨k, 0, none⟩)] w fun e w' => e = .returned (.pointer (some ⟨k, 1, none⟩)) ∧ w' = w := by
  go_enter Try.func49, Try.ntmps49
  go_wp2_with fail
  go_ret
  exact ⟨rfl, rfl⟩
theorem toBody_any (k : Nat) (w : World) : Calls Try.prog 50 #[.pointer (some ⟨k, 0, none⟩)] w fun e w' => e = .returned (.pointer (some ⟨k, 2, none⟩)) ∧ w' = w := by
  go_enter Try.func50, Try.ntmps50
  go_wp2_with fail
  go_ret
  exact ⟨rfl, rfl⟩
theorem PsL.xlen {S : List (List UInt8)} {X : Nat → List Int} {L : Nat → List (List UInt8)} (h : PsL S X L) (hnil : ∀ p, 2 * S.length ≤ p → X p = []) (i : Nat) {c : Nat} (hc : c < 2) : (X (2 * i + c)).length ≤ (L c).length := by
  by_cases g : i < S.length
  · rw [h.pos i g c hc]
    exact posL_len _ _ _
  · rw [hnil _ (by omega)]
    exact Nat.zero_le _
structure NtInv (w wr : World) (B bm be bz mb : Nat) (id : Int) (t b : ByteArray) (L : Nat → List (List UInt8)) (ws : List (List UInt8)) (lv : Value) (S : List (List UInt8)) (f : List UInt8 → Option Nat) (K : Nat → Nat) (sv : Value) (V : Nat → Value) (X : Nat → List Int) : Prop where
  ps : PsAt wr B bm be bz mb id t b S f K sv V X
  pl : PsL S X L
  own : wr.ownsRow w.heap.size 9 1 lv ws.length (ws.map strV)
  ne : NE sv lv
  below : Below B w wr
def NtEnd (w : World) (B bm be bz mb : Nat) (id : Int) (t b : ByteArray) (L : Nat → List (List UInt8)) (n : Nat) (e : Ending) (w' : World) : Prop :=
  e = .returned (.int .i64 (n : Nat)) ∧ (∃ S f K sv V X, PsAt w' B bm be bz mb id t b S f K sv V X ∧ PsL S X L) ∧ Below B w w'
structure NtMid (w wx : World) (B bm be bz mb : Nat) (id : Int) (t b : ByteArray) (ws : List (List UInt8)) (lv : Value) (S : List (List UInt8)) (f : List UInt8 → Option Nat) (K : Nat → Nat) (sv : Value) (V : Nat → Value) (X : Nat → List Int) : Prop where
  ps : PsAt wx B bm be bz mb id t b S f K sv V X
  own : wx.ownsRow w.heap.size 9 1 lv ws.length (ws.map strV)
  ne : NE sv lv
  below : Below B w wx
set_option maxRecDepth 100000 in
set_option maxHeartbeats 8000000 in
theorem note_any (c : Nat) (hc : c < 2) (F : Nat) (hF : (c = 0 ∧ F = 49) ∨ (c = 1 ∧ F = 50)) (text : ByteArray) (htx : text.size ≤ 100000)
    (w : World) (B bm be bz mb : Nat) (id : Int) (t b : ByteArray) (S : List (List UInt8)) (f : List UInt8 → Option Nat) (K : Nat → Nat) (sv : Value) (V : Nat → Value) (X : Nat → List Int) (L : Nat → List (List UInt8))
    (h : PsAt w B bm be bz mb id t b S f K sv V X) (hl : PsL S X L) (hc0 : L c = []) (hL : (L 0).length + (L 1).length ≤ 100000) (hB : B ≤ w.heap.size) :
    Calls Try.prog 47 #[.string text, .func (.func F) #[] #[], .pointer (some ⟨bm, 0, none⟩), .pointer (some ⟨be, 0, none⟩), .pointer (some ⟨bz, 0, none⟩)] w (NtEnd w B bm be bz mb id t b (updV L c (words text.data.toList)) (words text.data.toList).length) := by
  have HF := Lib.hid hF
  have H := Lib.hid h
  have HL := Lib.hid hl
  clear hF h hl
  generalize hQ : NtEnd w B bm be bz mb id t b (updV L c (words text.data.toList)) (words text.data.toList).length = Q
  have HQ := Lib.hid hQ
  clear hQ
  go_enter Try.func47, Try.ntmps47
  go_wp2_with fail
  refine (Words_any text w (by omega)).mono ?_
  rintro e w2 ⟨la, lc, rfl, ho2, hb2⟩
  obtain ⟨ws, hws⟩ : ∃ ws, ws = wordsS text := ⟨_, rfl⟩
  have hwl : ws.length ≤ 100000 := by
    have h1 := words_len text.data.toList.length text.data.toList
    rw [hws]
    have e1 : text.data.toList.length = text.size := by simp
    unfold wordsS words
    omega
  have hwsh : ∀ x ∈ ws, x.length ≤ 30 := fun x hx => words_short _ text.data.toList x (by rw [hws] at hx; exact hx)
  rw [← hws] at ho2 ⊢
  have hQ := HQ.out
  clear HQ
  rw [show words text.data.toList = ws from hws.symm] at hQ
  have HQ := Lib.hid hQ
  have HSH := Lib.hid hwsh
  have HI0 := Lib.hid (show NtInv w w2 B bm be bz mb id t b (updV L c (ws.take 0)) ws (.slice la ws.length lc) S f K sv V X from ⟨H.out.below hb2, by rw [List.take_zero, ← hc0, updV_self]; exact HL.out, ho2, by
    have h1 := H.out.own
    cases hq : sv.ownBlock with
    | none => exact .inl hq
    | some k =>
      cases hq2 : (Value.slice la ws.length lc).ownBlock with
      | none => exact .inr (.inl hq2)
      | some k2 =>
        refine .inr (.inr ?_)
        have := (h1.lt k hq).2
        have := (ho2.lt k2 hq2).1
        rw [hq, hq2]
        simp only [ne_eq, Option.some.injEq]
        omega, hb2.mono hB⟩)
  clear hQ hwsh ho2 hb2 hws H HL
  go_wp2_with fail
  go_loopw [17] (fun iv wr => ∃ j S f K sv V X, iv = .int .i64 ((j : Nat) : Int) ∧ j ≤ ws.length ∧ NtInv w wr B bm be bz mb id t b (updV L c (ws.take j)) ws (.slice la ws.length lc) S f K sv V X) (fun iv _ => ws.length - (intOf iv).toNat)
  case atStart => exact ⟨0, S, f, K, sv, V, X, rfl, Nat.zero_le _, HI0.out⟩
  case round =>
    clear HI0
    obtain ⟨j, S, f, K, sv, V, X, rfl, hj, hI⟩ := hrel
    have HI := Lib.hid hI
    clear hI
    by_cases hlt : j < ws.length
    · obtain ⟨x, hx⟩ : ∃ x, x = ws[j] := ⟨_, rfl⟩
      have hx30 := HSH.out x (by rw [hx]; exact List.getElem_mem _)
      have ho := HI.out.own
      obtain ⟨g, hla⟩ : ∃ g, la = some ⟨g, 0, none⟩ := by
        rcases ho.2 with ⟨q, _⟩ | ⟨g, cap, cur, q, _⟩
        · simp only [Value.slice.injEq] at q
          omega
        · simp only [Value.slice.injEq] at q
          exact ⟨g, q.1⟩
      subst hla
      have c0 : wr.cell? ⟨g, j, none⟩ = some (.string (bs x)) := by
        have h1 := ho.cells (g := g) rfl j (strV x) (by rw [hx]; simp [hlt])
        have e : (⟨g, 0, none⟩ : Addr).add j = ⟨g, j, none⟩ := by unfold Addr.add; split <;> simp_all
        rw [e] at h1
        exact h1
      have HX := Lib.hid hx
      clear ho hx
      go_wp2_with fail
      refine (Stem_any (bs x) (by rw [bs_size]; omega) _).mono ?_
      rintro e w3 ⟨rfl, rfl⟩
      rw [bs_data]
      obtain ⟨s, hs⟩ : ∃ s, s = stemF x := ⟨_, rfl⟩
      rw [← hs]
      have hs30 : s.length ≤ 30 := by rw [hs]; exact Nat.le_trans (stemF_len x) hx30
      have HS := Lib.hid hs
      clear hs
      have c1 : wr.cell? ⟨bm, 0, none⟩ = some (.map (some mb)) := HI.out.ps.m.cell 0
      have hlook := HI.out.ps.map.look (x := s) (by omega)
      obtain ⟨o, hoe⟩ : ∃ o, o = f s := ⟨_, rfl⟩
      rw [← hoe] at hlook
      clear c0
      have HFS := Lib.hid hoe
      clear hoe
      have hq1 := ptrEq o
      have hq2 := ptrGuard o
      go_upto_if 27 with fail
      clear hq1 hq2
      go_cut [] from 28 to 38 (fun wx => ∃ f2 K2 sv2, NtMid w wx B bm be bz mb id t b ws (.slice (some ⟨g, 0, none⟩) ws.length lc) (nextS S s) f2 K2 sv2 V X)
      case first =>
        have hfs := HFS.out
        clear HFS hlook
        cases o with
        | some k =>
          have hin : s ∈ S := Classical.byContradiction fun g => by
            rw [HI.out.ps.no s g] at hfs
            cases hfs
          have HN := Lib.hid (show nextS S s = S from if_pos hin)
          clear hin hfs
          go_wp2_with fail
          go_meet
          exact ⟨f, K, sv, by rw [HN.out]; exact ⟨HI.out.ps, HI.out.own, HI.out.ne, HI.out.below⟩⟩
        | none =>
          have hin : s ∉ S := fun g => by
            obtain ⟨i, _, h2, _⟩ := HI.out.ps.found g
            rw [← hfs] at h2
            cases h2
          have HN := Lib.hid (show nextS S s = S ++ [s] from if_neg hin)
          have HIN := Lib.hid hin
          clear hin hfs
          have hBr : B ≤ wr.heap.size := Nat.le_trans hB (HI.out.below.size)
          have e0 : wr.cell? ⟨be, 0, none⟩ = some (.int .i64 id) := HI.out.ps.v.cell 0
          have h0 := HI.out.ps.below ((Below.refl wr.heap.size wr).alloc (Nat.le_refl _) (.cells #[.int .i64 id, .slice none 0 0, .slice none 0 0] 57))
          have hfew := HI.out.pl.few
          have hfew2 : S.length ≤ 300000 := by
            rcases (show c = 0 ∨ c = 1 by omega) with rfl | rfl
            · rw [updV_at, updV_ne _ _ (by decide), List.length_take] at hfew
              omega
            · rw [updV_at, updV_ne _ _ (by decide), List.length_take] at hfew
              omega
          obtain ⟨w4, hput, hm4, hg4⟩ := h0.map.put (x := s) (by omega) wr.heap.size (by omega)
          obtain ⟨hz4, ho4, hsz4, hb4⟩ := HI.out.ps.mid hg4
          have z4 := hz4.cell 0
          have z5 := hz4.fz 0
          have HM4 := Lib.hid hm4
          have HG4 := Lib.hid hg4
          have HO4 := Lib.hid ho4
          have HB4 := Lib.hid (hb4 hBr)
          have HZ4 := Lib.hid hz4
          clear h0 hm4 hg4 hz4 ho4 hb4 hfew
          have hB4 : B ≤ w4.heap.size := Nat.le_trans hBr (HB4.out.size)
          go_wp2_with (at_builtin; go_must (refine append_two rfl _ _ 42 rfl B 9 (.string ⟨#[]⟩) 1 16 Try.underlying42 infoStrT rfl (by decide) w4 w4 sv S.length (S.map strV) rfl HO4.out w4.heap.size rfl [.string (bs s)] rfl rfl rfl (by simp [Value.oneCell']) (by omega) (by omega) hB4 (Below.refl _ _) ?_); intro v' w6 ho6 hb6 hg6 hf6 hv6; obtain ⟨g6, c6, rfl⟩ := hv6; have HO6 := Lib.hid ho6; have HB6 := Lib.hid hb6; have HG6 := Lib.hid hg6; have HF6 := Lib.hid hf6; have hz6 := HZ4.out.kept_own HO4.out (by decide) hg6; have z6 := hz6.cell 0; have z7 := hz6.fz 0; clear ho6 hb6 hg6 hf6 hz6 z4 z5)
          go_meet
          have hPS := HI.out.ps.add hBr HIN.out HG4.out HM4.out HO6.out HG6.out
          refine ⟨updF f s wr.heap.size, updV K S.length wr.heap.size, .slice (some ⟨g6, 0, none⟩) (S.length + 1) c6, ?_⟩
          rw [HN.out]
          have hlv0 := owns_below HI.out.own ((Below.refl wr.heap.size wr).alloc (Nat.le_refl _) (.cells #[.int .i64 id, .slice none 0 0, .slice none 0 0] 57))
          have hm0 := (HI.out.ps.below ((Below.refl wr.heap.size wr).alloc (Nat.le_refl _) (.cells #[.int .i64 id, .slice none 0 0, .slice none 0 0] 57))).map
          have hlv4 := hlv0.kept HG4.out (by
            cases hq : (Value.slice (some ⟨g, 0, none⟩) ws.length lc).ownBlock with
            | none => exact .inl rfl
            | some k => exact .inr (fun q => hm0.ne_own hlv0 (by rw [hq]; exact q.symm)))
          have hlv6 := hlv4.kept HG6.out HI.out.ne.far
          have hz6 := HZ4.out.kept_own HO4.out (by decide) HG6.out
          refine ⟨hPS, ?_, ?_, ?_⟩
          · exact owns_kept_has hlv6 hz6 (by decide) (grownBy_set w6 bz 0 _)
          · exact HI.out.ne.fresh hlv4 HF6.out
          · exact ((HI.out.below.trans HB4.out).trans HB6.out).setCell (p := ⟨bz, 0, none⟩) HI.out.ps.lob.1 _
      case rest =>
        obtain ⟨f2, K2, sv2, hM⟩ := hcut
        clear hlook HFS
        have hM1 := HI.out.pl
        have hnil := HI.out.ps.nil
        clear HI
        have HM := Lib.hid hM
        obtain ⟨i, hi, hfi, hsi⟩ := hM.ps.found (nextS_mem S s)
        have hi2 : 2 * i + c < 2 * (nextS S s).length := by omega
        have hxl := hM1.xlen (fun p hp => (hnil p hp).2) i hc
        rw [updV_at, List.length_take] at hxl
        have c2 : wc.cell? ⟨bm, 0, none⟩ = some (.map (some mb)) := hM.ps.m.cell 0
        have hlook := hM.ps.map.look (x := s) (by omega)
        have hlk : (Instr.lookup 82 (.map (some mb)) (.string (bs s)) false).run Try.prog wc = .ok (.pointer (some ⟨K2 i, 0, none⟩)) wc := by rw [hlook, hfi]; rfl
        have hor := hM.ps.rows.own _ hi2
        have hb0 := hM.ps.box i hi
        have HM1 := Lib.hid hM1
        have HNIL := Lib.hid hnil
        have HOR := Lib.hid hor
        have HB0 := Lib.hid hb0
        have HSI := Lib.hid hsi
        have hBc : B ≤ wc.heap.size := Nat.le_trans hB (hM.below.size)
        clear hM hM1 hnil hor hfi hsi hlook
        rcases HF.out with ⟨rfl, rfl⟩ | ⟨rfl, rfl⟩
        · have d0 : wc.cell? ⟨K2 i, 1, none⟩ = some (V (2 * i)) := hb0.cell 1
          obtain ⟨va, vc, hva⟩ := owns_slice HOR.out
          rw [show 2 * i + 0 = 2 * i from rfl] at hva hxl
          have hor2 : wc.ownsRow B 3 1 (.slice va (X (2 * i)).length vc) (X (2 * i)).length ((X (2 * i)).map (Value.int .i64)) := by
            have h1 := HOR.out
            rw [show 2 * i + 0 = 2 * i from rfl] at h1
            rw [← show V (2 * i) = .slice va (X (2 * i)).length vc from hva]
            exact h1
          rw [hva] at d0
          have HVA := Lib.hid hva
          have HOR2 := Lib.hid hor2
          have HB0 := Lib.hid hb0
          clear hva hb0 hor2
          go_wp2_with fail
          refine (toTitle_any _ _).mono ?_
          rintro e w5 ⟨rfl, rfl⟩
          go_wp2_with (at_builtin; go_must (refine append_two rfl _ _ 26 rfl B 3 (.int .i64 0) 1 8 Try.underlying26 infoInt rfl (by decide) w5 w5 (.slice va (X (2 * i)).length vc) (X (2 * i)).length ((X (2 * i)).map (Value.int .i64)) rfl HOR2.out w5.heap.size rfl [.int .i64 j] rfl rfl rfl (by simp [Value.oneCell']) (by omega) (by omega) hBc (Below.refl _ _) ?_); intro v' w6 ho6 hb6 hg6 hf6 hv6; obtain ⟨g6, c6, rfl⟩ := hv6; have HO6 := Lib.hid ho6; have HB6 := Lib.hid hb6; have HG6 := Lib.hid hg6; have HF6 := Lib.hid hf6; have hz6 := HB0.out.kept_own HOR2.out (by decide) hg6; have z6 := hz6.cell 1; have z7 := hz6.fz 1; clear ho6 hb6 hg6 hf6 hz6 d0)
          go_roundw
          case rel =>
            have hPS := HM.out.ps.take (c := 0) (j := (j : Int)) hi hc HO6.out (by rw [show 2 * i + 0 = 2 * i from rfl, HVA.out]; exact HG6.out) (by rw [show 2 * i + 0 = 2 * i from rfl, HVA.out]; exact HF6.out)
            have hPL := nt_end hc HM1.out hlt HX.out hx30 (by rw [← HS.out]; exact HM.out.ps.nd) (fun p hp => (HNIL.out p hp).2) (by rw [← HS.out]; exact hi) (by rw [← HS.out]; exact HSI.out)
            rw [← HS.out] at hPL
            have hK6 : Has w6 (K2 i) #[.int .i64 id, V (2 * i), V (2 * i + 1)] 57 := HB0.out.kept_own HOR2.out (by decide) HG6.out
            refine ⟨j + 1, nextS S s, f2, K2, sv2, _, _, by go_num, hlt, hPS, hPL, ?_, HM.out.ne, ?_⟩
            · exact owns_kept_has (owns_kept_own HM.out.own HOR2.out (by decide) HG6.out) hK6 (by decide) (grownBy_set w6 (K2 i) 1 _)
            · exact (HM.out.below.trans HB6.out).setCell (p := ⟨K2 i, 1, none⟩) (HM.out.ps.lo i hi) _
          case measure => simp [intOf]; omega
        · have d0 : wc.cell? ⟨K2 i, 2, none⟩ = some (V (2 * i + 1)) := hb0.cell 2
          obtain ⟨va, vc, hva⟩ := owns_slice HOR.out
          rw [show 2 * i + 1 = 2 * i + 1 from rfl] at hva hxl
          have hor2 : wc.ownsRow B 3 1 (.slice va (X (2 * i + 1)).length vc) (X (2 * i + 1)).length ((X (2 * i + 1)).map (Value.int .i64)) := by
            have h1 := HOR.out
            rw [show 2 * i + 1 = 2 * i + 1 from rfl] at h1
            rw [← show V (2 * i + 1) = .slice va (X (2 * i + 1)).length vc from hva]
            exact h1
          rw [hva] at d0
          have HVA := Lib.hid hva
          have HOR2 := Lib.hid hor2
          have HB0 := Lib.hid hb0
          clear hva hb0 hor2
          go_wp2_with fail
          refine (toBody_any _ _).mono ?_
          rintro e w5 ⟨rfl, rfl⟩
          go_wp2_with (at_builtin; go_must (refine append_two rfl _ _ 26 rfl B 3 (.int .i64 0) 1 8 Try.underlying26 infoInt rfl (by decide) w5 w5 (.slice va (X (2 * i + 1)).length vc) (X (2 * i + 1)).length ((X (2 * i + 1)).map (Value.int .i64)) rfl HOR2.out w5.heap.size rfl [.int .i64 j] rfl rfl rfl (by simp [Value.oneCell']) (by omega) (by omega) hBc (Below.refl _ _) ?_); intro v' w6 ho6 hb6 hg6 hf6 hv6; obtain ⟨g6, c6, rfl⟩ := hv6; have HO6 := Lib.hid ho6; have HB6 := Lib.hid hb6; have HG6 := Lib.hid hg6; have HF6 := Lib.hid hf6; have hz6 := HB0.out.kept_own HOR2.out (by decide) hg6; have z6 := hz6.cell 2; have z7 := hz6.fz 2; clear ho6 hb6 hg6 hf6 hz6 d0)
          go_roundw
          case rel =>
            have hPS := HM.out.ps.take (c := 1) (j := (j : Int)) hi hc HO6.out (by rw [show 2 * i + 1 = 2 * i + 1 from rfl, HVA.out]; exact HG6.out) (by rw [show 2 * i + 1 = 2 * i + 1 from rfl, HVA.out]; exact HF6.out)
            have hPL := nt_end hc HM1.out hlt HX.out hx30 (by rw [← HS.out]; exact HM.out.ps.nd) (fun p hp => (HNIL.out p hp).2) (by rw [← HS.out]; exact hi) (by rw [← HS.out]; exact HSI.out)
            rw [← HS.out] at hPL
            have hK6 : Has w6 (K2 i) #[.int .i64 id, V (2 * i), V (2 * i + 1)] 57 := HB0.out.kept_own HOR2.out (by decide) HG6.out
            refine ⟨j + 1, nextS S s, f2, K2, sv2, _, _, by go_num, hlt, hPS, hPL, ?_, HM.out.ne, ?_⟩
            · exact owns_kept_has (owns_kept_own HM.out.own HOR2.out (by decide) HG6.out) hK6 (by decide) (grownBy_set w6 (K2 i) 2 _)
            · exact (HM.out.below.trans HB6.out).setCell (p := ⟨K2 i, 2, none⟩) (HM.out.ps.lo i hi) _
          case measure => simp [intOf]; omega
    · obtain rfl : j = ws.length := by omega
      go_wp2_with fail
      have hI := HI.out
      rw [List.take_length] at hI
      rw [← HQ.out]
      exact ⟨rfl, ⟨S, f, K, sv, V, X, hI.ps, hI.pl⟩, hI.below⟩
end Go.Proofs.Ytfjcbclakgidkaa
