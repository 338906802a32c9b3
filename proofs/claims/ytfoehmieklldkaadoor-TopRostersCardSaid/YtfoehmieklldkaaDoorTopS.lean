/- What the law TopRosters needs beside Roster and Judge: the look whether the package is there, the search for a number above 0, and that a plan with one less does not cover. -/
import Derived.Test.YtfoehmieklldkaaDoorMany
import Derived.Test.YtfoehmieklldkaaDoorGrows
import Derived.Test.YtfoehmieklldkaaDoorRoster
import Derived.Test.YtfoehmieklldkaaDoorSpare
import Derived.Test.YtfoehmieklldkaaDoorCovers
namespace Go.Proofs.YtfoehmieklldkaaDoor
open Go.RowKit

set_option maxRecDepth 100000 in
theorem awakeTop_any (w : World) : Calls Tryd.prog 20 #[] w fun e w' => e = .returned (.bool true) ∧ Below w.heap.size w w' := by
  go_enter Tryd.func20, Tryd.ntmps20
  go_wp2_with fail
  refine (RatioOf_no w).mono ?_
  rintro e w1 ⟨rfl, hb⟩
  go_wp2
  go_ret
  exact ⟨rfl, hb.alloc hb.size _⟩

theorem pos_yes (n : Nat) (h : 0 < n) (w : World) : Calls Tryd.prog 28 #[.int .i64 (n : Nat)] w fun e w' => e = .returned (.bool true) ∧ w = w' := by
  have hd : decide ((0 : Int) < (n : Int)) = true := by simp; omega
  go_enter Tryd.func28, Tryd.ntmps28
  go_wp2
  go_ret
  exact ⟨rfl, rfl⟩
theorem pos_no (w : World) : Calls Tryd.prog 28 #[.int .i64 0] w fun e w' => e = .returned (.bool false) ∧ w = w' := by
  go_enter Tryd.func28, Tryd.ntmps28
  go_wp2
  go_ret
  exact ⟨rfl, rfl⟩

def FoundPost (w : World) (e : Ending) (w' : World) : Prop := ∃ k : Nat, e = .returned (.int .i64 (k : Nat)) ∧ w = w'
set_option maxRecDepth 100000 in
theorem indexI_any (v : Value) (ns : List Nat) (w : World) (h : NatsAt w v ns) (hl : ns.length ≤ 1000) (hs : ∃ s, ∃ h : s < ns.length, 0 < ns[s]) :
    Calls Tryd.prog 57 #[v, .func (.func 28) #[] #[]] w (FoundPost w) := by
  obtain ⟨a, cap, rfl⟩ := h.len
  have H := Lib.hid h
  obtain ⟨s, hs1, hs2⟩ := hs
  have HS := Lib.hid (show ∃ h : s < ns.length, 0 < ns[s] from ⟨hs1, hs2⟩)
  clear h hs2
  go_enter Tryd.func57, Tryd.ntmps57
  go_wp2_with fail
  go_loop [5, 8] (fun _ iv => ∃ i : Nat, iv = .int .i64 i ∧ i ≤ s) (fun _ iv => s + 1 - (intOf iv).toNat)
  case atStart => exact ⟨0, rfl, Nat.zero_le _⟩
  case round =>
    obtain ⟨i, rfl, hi⟩ := hrel
    have hlt : i < ns.length := by omega
    obtain ⟨b, off, cap', hv, hb, hel⟩ := H.out.at (by omega)
    cases hv
    have c0 := hel i hlt
    by_cases hp : 0 < ns[i]
    · have HC := Lib.hid (pos_yes ns[i] hp w)
      clear hel hp
      generalize ns[i] = x at *
      go_wp2_with fail
      refine HC.out.mono ?_
      rintro e w' ⟨rfl, rfl⟩
      go_wp2_with fail
      go_ret
      exact ⟨i, rfl, rfl⟩
    · have hz : ns[i] = 0 := by omega
      have his : i ≠ s := by
        rintro rfl
        obtain ⟨_, h2⟩ := HS.out
        omega
      have hlt2 : i < s := by omega
      rw [hz] at c0
      clear hel hp hz his
      go_wp2_with fail
      refine (pos_no w).mono ?_
      rintro e w' ⟨rfl, rfl⟩
      go_wp2_with fail
      go_round
      case rel => exact ⟨i + 1, by go_num, by omega⟩
      case measure => simp [intOf]; omega
set_option maxRecDepth 100000 in
theorem containsI_any (v : Value) (ns : List Nat) (w : World) (h : NatsAt w v ns) (hl : ns.length ≤ 1000) (hs : ∃ s, ∃ h : s < ns.length, 0 < ns[s]) :
    Calls Tryd.prog 27 #[v, .func (.func 28) #[] #[]] w fun e w' => e = .returned (.bool true) ∧ w = w' := by
  have HI := Lib.hid (indexI_any v ns w h hl hs)
  clear h hs
  go_enter Tryd.func27, Tryd.ntmps27
  go_wp2_with fail
  refine HI.out.mono ?_
  rintro e w' ⟨k, rfl, rfl⟩
  have hk : (0 : Int) ≤ (k : Int) := by omega
  go_wp2_with fail
  go_ret
  exact ⟨rfl, rfl⟩

theorem pOf_set (ps : List Nat) (i x : Nat) (h : i < ps.length) : pOf (ps.set i x) = upd (pOf ps) i x := by
  funext j
  unfold pOf upd
  by_cases e : j = i
  · subst e
    simp [h]
  · rw [if_neg e]
    simp only [List.getD_eq_getElem?_getD]
    rw [List.getElem?_set_ne (fun g => e g.symm)]
theorem pOf_get {ps : List Nat} {i : Nat} (h : i < ps.length) : pOf ps i = ps[i] := by simp [pOf, h]
/-- with one less of a form that is planned, a slot is short -/
theorem less_short {fs : List FN} {ds ps : List Nat} (h : PlanInv (fmOf fs) (pOf ds) fs.length ds.length (pOf ps)) (hpl : ps.length = fs.length) {i : Nat} (hi : i < ps.length) (h0 : ps[i] ≠ 0) :
    ∃ s, s < ds.length ∧ cov (fmOf fs) (pOf (ps.set i (ps[i] - 1))) fs.length s < pOf ds s := by
  obtain ⟨s, hs, ⟨h1, h2, _⟩, h3⟩ := h.tight i (by omega) (by rw [pOf_get hi]; omega)
  refine ⟨s, hs, ?_⟩
  rw [pOf_set _ _ _ hi]
  have e : upd (upd (pOf ps) i (ps[i] - 1)) i (upd (pOf ps) i (ps[i] - 1) i + 1) = pOf ps := by
    funext j
    unfold upd
    by_cases e : j = i
    · subst e
      rw [if_pos rfl, if_pos rfl, pOf_get hi]
      omega
    · rw [if_neg e, if_neg e]
  have hp := pick_upd (fun j => hitB (fmOf fs j) s) (upd (pOf ps) i (ps[i] - 1)) i 1 fs.length
  rw [e, if_pos ⟨h1, h2⟩] at hp
  unfold cov at h3 ⊢
  omega
theorem intsOf_inj {a b : List Nat} (h : intsOf a = intsOf b) : a = b := by
  apply List.ext_getElem
  · have := congrArg List.length h
    rw [intsOf_length, intsOf_length] at this
    exact this
  · intro i h1 h2
    have h3 : (intsOf a)[i]? = (intsOf b)[i]? := by rw [h]
    have h4 : ((a[i] : Nat) : Int) = ((b[i] : Nat) : Int) := by simpa [intsOf, h1, h2] using h3
    omega
theorem pair_inj : ∀ {a b : List FN}, a.map FN.pair = b.map FN.pair → a = b
  | [], [], _ => rfl
  | [], _ :: _, h => by simp at h
  | _ :: _, [], h => by simp at h
  | ⟨f, n⟩ :: a, ⟨g, m⟩ :: b, h => by
    simp only [List.map_cons, List.cons.injEq, FN.pair, Prod.mk.injEq] at h
    obtain ⟨⟨h1, h2⟩, h3⟩ := h
    obtain rfl : f = g := by omega
    obtain rfl : n = m := by omega
    rw [pair_inj h3]
theorem short_pos {ds cs : List Nat} {s : Nat} (hs : s < ds.length) (h : pOf cs s < pOf ds s) : ∃ s, ∃ h : s < (shortL ds cs).length, 0 < (shortL ds cs)[s] := by
  refine ⟨s, by rw [shortL_length]; exact hs, ?_⟩
  unfold pOf at h
  simp only [shortL, List.getElem_map, List.getElem_range]
  omega
theorem set_le {ps : List Nat} {i x m : Nat} (h : ∀ p ∈ ps, p ≤ m) (hx : x ≤ m) : ∀ p ∈ ps.set i x, p ≤ m := by
  intro p hp
  rcases List.mem_or_eq_of_mem_set hp with h1 | h1
  · exact h p h1
  · omega
/-- 'less := slices.Clone(plan)': the call's own -/
theorem clone_nats (v : Value) (ps : List Nat) (w : World) (h : NatsAt w v ps) (h0 : 0 < ps.length) (hl : ps.length ≤ 1000) :
    Calls Tryd.prog 26 #[v] w fun e w' => ∃ g c, e = .returned (.slice (some ⟨g, 0, none⟩) ps.length c) ∧ w'.ownsRow w.heap.size 3 1 (.slice (some ⟨g, 0, none⟩) ps.length c) ps.length ((intsOf ps).map (Value.int .i64)) ∧ Below w.heap.size w w' := by
  obtain ⟨b, off, cap, rfl, hb, hel⟩ := h.at h0
  refine (Tryd.slices_Clone_int b off ps.length cap (intsOf ps) w (by rw [intsOf_length]; omega) (by omega) (fun j hj => ?_)).mono ?_
  · rw [intsOf_length] at hj
    rw [hel j hj]
    simp [intsOf, hj]
  · rintro e w' ⟨v', rfl, ho, _, hb'⟩
    rw [List.take_of_length_le (by rw [intsOf_length]; omega)] at ho
    obtain ⟨g, c, hv⟩ : ∃ g c, v' = .slice (some ⟨g, 0, none⟩) ps.length c := by
      rcases ho.2 with ⟨_, h2⟩ | ⟨g, c, cur, h2, _⟩
      · omega
      · exact ⟨g, c, h2⟩
    subst hv
    exact ⟨g, c, rfl, ho, hb'⟩

end Go.Proofs.YtfoehmieklldkaaDoor
