/- slices.SortFunc of special days by their days. -/
import Derived.Test.YtjnaioellghggaaTwSm
import Derived.Test.YtjnaioellghggaaSortK
import Derived.Test.YtjnaioellghggaaEdgeSort
namespace Go.Proofs.Ytjnaioellghggaa
open Go Go.RowKit Go.Sort Go.Shelf

/-- a special day that may be compared -/
abbrev Gf := { x : Gs // (-1 ≤ x.1 ∧ x.1 ≤ 2084) ∧ x.2.1.oneCell' = true }
instance : Inhabited Gf := ⟨⟨(0, .int .i64 0, []), ⟨by decide, by decide⟩, rfl⟩⟩
def encF (x : Gf) : List Value := encG x.1
def cmpS (x y : Gf) : Int := x.1.1 - y.1.1
theorem ltS (x y : Gf) : ltOf cmpS x y = decide (x.1.1 < y.1.1) := by
  unfold ltOf cmpS
  by_cases h : x.1.1 < y.1.1
  · simp [h]; omega
  · simp [h]; omega
theorem swoS : SWO (ltOf cmpS) where
  irrefl x := by rw [ltS]; simp
  trans x y z h1 h2 := by rw [ltS] at *; simp at *; omega
  ntrans x y z h1 h2 := by rw [ltS] at *; simp at *; omega
set_option maxHeartbeats 1000000 in
theorem closeS (a b : Int) (u v : Value) (hu : u.oneCell' = true) (hv : v.oneCell' = true) (a1 : -1 ≤ a) (a2 : a ≤ 2084) (b1 : -1 ≤ b) (b2 : b ≤ 2084) (W : World) : Calls Try.prog 25 #[.agg #[.int .i64 a, u], .agg #[.int .i64 b, v]] W fun e w' =>
    e = .returned (.int .i64 (a - b)) ∧ ∃ q os', w' = grow (W.drewN q) os' := by
  go_enter Try.func25, Try.ntmps25
  go_wp2_with fail
  go_ret
  exact ⟨rfl, 0, _, by rw [alloc_eq_grow, alloc_eq_grow, grow_grow]; rfl⟩
set_option maxRecDepth 100000 in
theorem sortS_any (B g cap : Nat) (l : List Gs) (hb : ∀ x ∈ l, (-1 ≤ x.1 ∧ x.1 ≤ 2084) ∧ x.2.1.oneCell' = true) (w : World) (h : w.ownsRow B 52 2 (.slice (some ⟨g, 0, none⟩) l.length cap) l.length (l.flatMap encG)) (hl : l.length ≤ 1000) :
    Calls Try.prog 24 #[.slice (some ⟨g, 0, none⟩) l.length cap, .func (.func 25) #[] #[]] w fun e w' => e = .returned (.tuple #[]) ∧ ∃ D : List Gs, D.Perm l ∧ (D.Pairwise fun x y => x.1 ≤ y.1) ∧
      w'.ownsRow B 52 2 (.slice (some ⟨g, 0, none⟩) D.length cap) D.length (D.flatMap encG) ∧ w.grownBy w' (some g) := by
  obtain ⟨lf, hlf⟩ : ∃ lf : List Gf, lf.map Subtype.val = l := ⟨l.pmap Subtype.mk hb, by rw [List.map_pmap]; simp⟩
  have hfm : ∀ d : List Gf, d.flatMap encF = (d.map Subtype.val).flatMap encG := fun d => by rw [List.flatMap_map]; rfl
  have hll : lf.length = l.length := by rw [← hlf, List.length_map]
  have h' : w.ownsRow B 52 2 (.slice (some ⟨g, 0, none⟩) lf.length cap) lf.length (lf.flatMap encF) := by rw [hfm, hlf, hll]; exact h
  obtain ⟨hH, hblk, hback⟩ := owns_sortK (enc := encF) (fun _ => rfl) h'
  have eg : ∀ args w, (callFunc 25 args).run Try.prog w = .ok (.enter 25 args) w := enters_of Try.func25 (by kernel_rfl) rfl
  have hcon := AnyQ.slices_SortFunc Try.sort_Special 2 Try.isAgg52 Try.sizeOf52 encF (fun _ => rfl) (fun x v hv => by
      obtain ⟨x, hx⟩ := x
      simp [encF, encG] at hv
      rcases hv with rfl | rfl
      · rfl
      · exact hx.2) cmpS swoS 25 #[] g 0 cap lf.toArray w eg (fun _ _ _ _ x y => closeS x.1.1 y.1.1 x.1.2.1 y.1.2.1 x.2.2 y.2.2 x.2.1.1 x.2.1.2 y.2.1.1 y.2.1.2 _) hH hblk (by simp; omega)
  change Calls Try.prog 24 _ _ _ at hcon
  simp only [List.size_toArray] at hcon
  rw [hll] at hcon
  refine hcon.mono ?_
  rintro e w' ⟨rfl, d, n, os, hp, hs, rfl⟩
  rw [← hll] at hp hs
  obtain ⟨p1, p2⟩ := perm_of_in (by simpa using hp)
  refine ⟨rfl, d.toList.map Subtype.val, by rw [← hlf]; exact p1.map _, ?_, ?_, grownBy_sortedK d⟩
  · rw [List.pairwise_map]
    refine (pairwise_of_in p2 hs).imp fun {x y} hxy => ?_
    rw [ltS] at hxy
    simpa using hxy
  · have := hback d n os p2
    have e : (d.toList.map Subtype.val).length = lf.length := by rw [List.length_map, Array.length_toList]; exact p2
    rw [e, ← hfm]
    exact this

end Go.Proofs.Ytjnaioellghggaa
