/- strings.Split at a text of words, and at a text whose first word is known. -/
import Derived.Test.YtllcgcnebofdoaaGreatDoorNumb
import Derived.Test.YtllcgcnebofdoaaGreatDoorPpLaw
namespace Go.Proofs.YtllcgcnebofdoaaGreatDoor
open Go.RowKit

theorem map_inj_data : ∀ {a b : List ByteArray}, a.map (fun x => x.data.toList) = b.map (fun x => x.data.toList) → a = b
  | [], [], _ => rfl
  | [], _ :: _, h => by simp at h
  | _ :: _, [], h => by simp at h
  | x :: a, y :: b, h => by
    simp only [List.map_cons, List.cons.injEq] at h
    rw [bs_inj h.1, map_inj_data h.2]
theorem split_words (w0 : List UInt8) (ws : List (List UInt8)) (hc : ∀ x ∈ w0 :: ws, (32 : UInt8) ∉ x) (hl : (Lib.join (w0 :: ws) [32]).length ≤ 1000000) (w : World) (hE : Env w) :
    Calls Tryz.prog 25 #[.string (bs (Lib.join (w0 :: ws) [32])), .string ⟨#[32]⟩] w fun e w' =>
      e = .returned (.slice (some ⟨w.heap.size, 0, none⟩) (ws.length + 1) (ws.length + 1)) ∧ Below w.heap.size w w' ∧ WordsB w' w.heap.size (w0 :: ws) := by
  obtain ⟨m, hm⟩ := hE.ml
  have c := Tryz.strings_Split (bs (Lib.join (w0 :: ws) [32])) ⟨#[32]⟩ m w (by rw [bs_size]; omega) hm (by decide)
  obtain ⟨h1, h2⟩ := split_join w0 ws hc
  have hs : Lib.splitB ⟨#[32]⟩ 0 (Lib.countB (bs (Lib.join (w0 :: ws) [32])) ⟨#[32]⟩) (bs (Lib.join (w0 :: ws) [32])) = (w0 :: ws).map bs := by
    refine map_inj_data ?_
    rw [Lib.splitB_data]
    show Lib.splitK [32] 0 (Lib.count (Lib.join (w0 :: ws) [32]) [32]) (Lib.join (w0 :: ws) [32]) = _
    rw [h1, List.map_map]
    exact (List.map_id' _).symm
  have hn : Lib.countB (bs (Lib.join (w0 :: ws) [32])) ⟨#[32]⟩ = ws.length := by
    have h := Lib.splitB_all ⟨#[32]⟩ (by decide) 0 _ (bs (Lib.join (w0 :: ws) [32])) rfl
    rw [hs, List.length_map, List.length_cons] at h
    omega
  rw [hs, hn, List.map_map] at c
  refine c.mono ?_
  rintro e w' ⟨rfl, rfl⟩
  exact ⟨rfl, (Below.refl _ _).alloc (Nat.le_refl _) _, Has.new _ _ _⟩
/-- only the first word is told -/
theorem split_first (w0 r : List UInt8) (hc : (32 : UInt8) ∉ w0) (hl : w0.length + r.length ≤ 1000000) (w : World) (hE : Env w) :
    Calls Tryz.prog 25 #[.string (bs (w0 ++ 32 :: r)), .string ⟨#[32]⟩] w fun e w' =>
      ∃ ws : List (List UInt8), e = .returned (.slice (some ⟨w.heap.size, 0, none⟩) (ws.length + 1) (ws.length + 1)) ∧ ws.length ≤ 1000001 ∧ Below w.heap.size w w' ∧ WordsB w' w.heap.size (w0 :: ws) := by
  obtain ⟨m, hm⟩ := hE.ml
  have hsz : (bs (w0 ++ 32 :: r)).size = w0.length + r.length + 1 := by rw [bs_size, List.length_append, List.length_cons]; omega
  have c := Tryz.strings_Split (bs (w0 ++ 32 :: r)) ⟨#[32]⟩ m w (by rw [hsz]; omega) hm (by decide)
  have hct : Lib.count (w0 ++ 32 :: r) [32] = Lib.count r [32] + 1 := by
    rw [Lib.count_one, Lib.count_one, List.count_append, List.count_eq_zero.2 hc, List.count_cons]
    simp
  have hsp : ∃ ws, Lib.splitK [32] 0 (Lib.count (w0 ++ 32 :: r) [32]) (w0 ++ 32 :: r) = w0 :: ws := by
    rw [hct]
    unfold Lib.splitK
    have hi := index_at 32 w0 r hc
    have hmm : ¬ (Lib.index (w0 ++ 32 :: r) [32] == -1) = true := fun g => by rw [hi] at g; have := beq_iff_eq.1 g; omega
    rw [if_neg hmm, hi]
    refine ⟨Lib.splitK [32] 0 (Lib.count r [32]) r, ?_⟩
    simp only [Int.toNat_natCast, List.length_cons, List.length_nil, Nat.zero_add, Nat.add_zero]
    have h1 : (w0 ++ 32 :: r).take w0.length = w0 := by simp
    have h2 : (w0 ++ 32 :: r).drop (w0.length + 1) = r := by
      rw [List.drop_append]
      simp
    rw [h1, h2]
  obtain ⟨ws, hws⟩ := hsp
  have hs : Lib.splitB ⟨#[32]⟩ 0 (Lib.countB (bs (w0 ++ 32 :: r)) ⟨#[32]⟩) (bs (w0 ++ 32 :: r)) = (w0 :: ws).map bs := by
    refine map_inj_data ?_
    rw [Lib.splitB_data]
    show Lib.splitK [32] 0 (Lib.count (w0 ++ 32 :: r) [32]) (w0 ++ 32 :: r) = _
    rw [hws, List.map_map]
    exact (List.map_id' _).symm
  have hn : Lib.countB (bs (w0 ++ 32 :: r)) ⟨#[32]⟩ = ws.length := by
    have h := Lib.splitB_all ⟨#[32]⟩ (by decide) 0 _ (bs (w0 ++ 32 :: r)) rfl
    rw [hs, List.length_map, List.length_cons] at h
    omega
  have hle : ws.length ≤ 1000001 := by
    have h1 : Lib.countB (bs (w0 ++ 32 :: r)) ⟨#[32]⟩ = Lib.count (w0 ++ 32 :: r) [32] := rfl
    have h2 : Lib.count r [32] ≤ r.length := by rw [Lib.count_one]; exact List.count_le_length
    rw [h1, hct] at hn
    omega
  rw [hs, hn, List.map_map] at c
  refine c.mono ?_
  rintro e w' ⟨rfl, rfl⟩
  exact ⟨ws, rfl, hle, (Below.refl _ _).alloc (Nat.le_refl _) _, Has.new _ _ _⟩
/-- words behind the first one, cut off -/
theorem words_cut {w : World} {b n : Nat} {w0 : List UInt8} {ws : List (List UInt8)} (h : WordsB w b (w0 :: ws)) (hn : n = ws.length) :
    SliceAt 1 strR w (.slice (if n + 1 = 1 then some ⟨b, 0, none⟩ else some ⟨b, 1, none⟩) n n) (ws.map bs) := by
  subst hn
  by_cases e : ws.length + 1 = 1
  · have e0 : ws = [] := List.eq_nil_of_length_eq_zero (by omega)
    subst e0
    exact .inl ⟨_, _, rfl, rfl⟩
  · rw [if_neg e]
    refine .inr ⟨b, 1, ws.length, by rw [List.length_map], by rw [List.length_map]; exact Nat.le_refl _, Has.lt h, fun i hi => ?_⟩
    rw [List.length_map] at hi
    refine ⟨[.string (bs ws[i])], ⟨rfl, fun j hj => ?_⟩, by rw [List.getElem_map]; rfl⟩
    have hj0 : j = 0 := by simpa using hj
    subst hj0
    have := h.cell (i + 1) (by rw [List.length_cons]; omega)
    rw [show (w0 :: ws).getD (i + 1) [] = ws[i] by simp [List.getD, hi]] at this
    rw [show 1 + i * 1 + 0 = i + 1 by omega]
    exact this
end Go.Proofs.YtllcgcnebofdoaaGreatDoor
