/- The walk of know.checkPairs at pairs of right names. -/
import Derived.Test.YtfohehldkchnjaaTpMap
import Derived.Test.YtfohehldkchnjaaTpTpl
namespace Go.Proofs.Ytfohehldkchnjaa
open Go.RowKit

abbrev PrD : Type := List UInt8 × List UInt8
def encP (p : PrD) : List Value := [.string (bs p.1), .string (bs p.2)]
def prR (_ : World) (cs : List Value) (p : PrD) : Prop := cs = encP p
theorem prR_stable : Stable prR := fun _ _ _ _ h _ => h
def Prs (w : World) (v : Value) (l : List PrD) : Prop := SliceAt 2 prR w v l
theorem Prs.below {w w' : World} {v : Value} {l : List PrD} (h : Prs w v l) (hb : Below w.heap.size w w') : Prs w' v l := SliceAt.stable prR_stable h hb
theorem Prs.at {w : World} {v : Value} {l : List PrD} (h : Prs w v l) (hl : 0 < l.length) : ∃ b off cap, v = .slice (some ⟨b, off, none⟩) l.length cap ∧ b < w.heap.size ∧
    ∀ i (hi : i < l.length), w.cell? ⟨b, off + i * 2, none⟩ = some (.string (bs l[i].1)) ∧ w.cell? ⟨b, off + i * 2 + 1, none⟩ = some (.string (bs l[i].2)) := by
  obtain ⟨b, off, cap, hv, hc, hb, hel⟩ := SliceAt.at h hl
  refine ⟨b, off, cap, hv, hb, fun i hi => ?_⟩
  obtain ⟨cs, ⟨_, h2⟩, hr⟩ := hel i hi
  cases hr
  exact ⟨h2 0 (by show 0 < 2; decide), h2 1 (by show 1 < 2; decide)⟩
/-- pairs of right names -/
structure PrsOk (l : List PrD) : Prop where
  few : l.length ≤ 40
  name : ∀ x ∈ l, 0 < x.1.length ∧ x.1.length ≤ 20 ∧ ∀ c ∈ x.1, nameB c = true
  apart : (l.map (·.1)).Nodup
  val : ∀ x ∈ l, x.2.length ≤ 1152921504606846976
theorem look_none : ∀ {l : List PrD} {x : List UInt8}, x ∉ l.map (·.1) → lookL l x = none
  | [], _, _ => rfl
  | (k, v) :: r, x, h => by
    simp only [List.map_cons, List.mem_cons, not_or] at h
    unfold lookL
    rw [if_neg (fun e => h.1 e.symm)]
    exact look_none h.2
theorem look_mem : ∀ {l : List PrD} {k v : List UInt8}, (l.map (·.1)).Nodup → (k, v) ∈ l → lookL l k = some v
  | (k', v') :: r, k, v, hn, hm => by
    simp only [List.map_cons, List.nodup_cons] at hn
    unfold lookL
    rcases List.mem_cons.1 hm with e | e
    · cases e
      rw [if_pos rfl]
    · have : k' ≠ k := by
        rintro rfl
        exact hn.1 (List.mem_map_of_mem (f := (·.1)) e)
      rw [if_neg this]
      exact look_mem hn.2 e
theorem look_fresh {l : List PrD} (h : (l.map (·.1)).Nodup) {i : Nat} (hi : i < l.length) : lookL (l.take i).reverse l[i].1 = none := by
  refine look_none ?_
  rw [List.map_reverse, List.mem_reverse]
  intro hm
  rw [List.map_take] at hm
  obtain ⟨j, hj, e⟩ := List.mem_iff_getElem.1 hm
  rw [List.length_take, List.length_map] at hj
  rw [List.getElem_take, List.getElem_map] at e
  have h1 := (List.getElem_inj (i := j) (j := i) (h₀ := by rw [List.length_map]; omega) (h₁ := by rw [List.length_map]; omega) h).1 (by simpa using e)
  omega
structure CpI (l : List PrD) (w wr : World) (b i : Nat) : Prop where
  le : i ≤ l.length
  ge : w.heap.size ≤ b
  map : SMap wr b i (l.take i).reverse
  below : Below w.heap.size w wr
  small : ∀ x ∈ l.take i, x.2.length ≤ 20000
def CpPost (l : List PrD) (w : World) (e : Ending) (w' : World) : Prop :=
  ∃ m k, e = .returned (.tuple #[m, .int .i64 k]) ∧ Below w.heap.size w w' ∧ ((k = 4 ∧ m = .map none ∧ ∃ x ∈ l, 20000 < x.2.length) ∨ (k = 0 ∧ (∀ x ∈ l, x.2.length ≤ 20000) ∧ ∃ b, m = .map (some b) ∧ SMap w' b l.length l.reverse))
set_option maxRecDepth 100000 in
set_option maxHeartbeats 4000000 in
theorem checkPairs_any (l : List PrD) (v : Value) (w : World) (h : Prs w v l) (hk : PrsOk l) :
    Calls Try.prog 12 #[v] w (CpPost l w) := by
  obtain ⟨va, vc, rfl⟩ := SliceAt.len h
  have H := Lib.hid h
  have HK := Lib.hid hk
  have hl := hk.few
  have q40 : decide ((40 : Int) < (l.length : Int)) = false := decide_eq_false (by omega)
  have hmm := @run_makeMap Try.prog
  have hb0 := (Below.refl w.heap.size w).alloc (Nat.le_refl _) (.map #[] 0)
  have HI0 := Lib.hid (show CpI l w (w.alloc (.map #[] 0)) w.heap.size 0 from ⟨Nat.zero_le _, Nat.le_refl _, SMap.made w, hb0, fun x hx => by cases hx⟩)
  clear h hk hb0
  go_enter Try.func12, Try.ntmps12
  go_upto_region 4 with fail
  generalize w.alloc (.map #[] 0) = w1 at *
  generalize hB : w.heap.size = B at *
  have HBW := Lib.hid hB
  clear hB hmm
  go_wp2_with fail
  go_loopw [15] (fun iv wr => ∃ i : Nat, iv = .int .i64 ((i : Nat) : Int) ∧ CpI l w wr B i) (fun iv _ => l.length - (intOf iv).toNat)
  case atStart => exact ⟨0, rfl, HI0.out⟩
  case round =>
    obtain ⟨i, rfl, hI⟩ := hrel
    have HI := Lib.hid hI
    have hi := hI.le
    clear hI HI0
    by_cases hlt : i < l.length
    · obtain ⟨b, of', cap', hv, hb, hel⟩ := Prs.at H.out (by omega)
      cases hv
      obtain ⟨e0, e1⟩ := hel i hlt
      have c0 := (below_cell HI.out.below hb).trans e0
      have c1 := (below_cell HI.out.below hb).trans e1
      have HNM := Lib.hid (HK.out.name _ (List.getElem_mem hlt))
      have HVL := Lib.hid (HK.out.val _ (List.getElem_mem hlt))
      have HMEM := Lib.hid (List.getElem_mem hlt)
      have HSM := Lib.hid (show l[i].2.length ≤ 20000 → ∀ x ∈ l.take (i + 1), x.2.length ≤ 20000 from fun g x hx => by
        rw [List.take_succ_eq_append_getElem hlt] at hx
        rcases List.mem_append.1 hx with q | q
        · exact HI.out.small x q
        · rw [List.mem_singleton.1 q]; exact g)
      have HFR := Lib.hid (look_fresh HK.out.apart hlt)
      have HTK := Lib.hid (show (l.take (i + 1)).reverse = l[i] :: (l.take i).reverse by rw [List.take_succ_eq_append_getElem hlt]; simp)
      clear hel e0 e1
      generalize l[i] = x at *
      obtain ⟨nm, vl⟩ := x
      simp only at c0 c1 HNM HVL HFR
      obtain ⟨hn1, hn2, hn3⟩ := HNM.out
      have hnz : (bs nm).size = nm.length := bs_size nm
      have hvz : (bs vl).size = vl.length := bs_size vl
      have hvl := HVL.out
      obtain ⟨bx, bbl⟩ := box1 wr #[.string (bs nm), .string (bs vl)] 27
      have HB4 := Lib.hid (below_up HI.out.below bbl HI.out.below.size)
      have HM4 := Lib.hid (HI.out.map.below bbl HI.out.map.lt)
      have HX4 := Lib.hid bx
      go_upto_region 7 with fail
      generalize wr.alloc (.cells #[.string (bs nm), .string (bs vl)] 27) = w4 at *
      have hge := HI.out.ge
      generalize wr.heap.size = D at *
      clear bx bbl c0 c1 HI
      have k0 := HX4.out.cell 0
      have k1 := HX4.out.cell 1
      have HCF := Lib.hid (containsFunc_name nm hn3 (by omega))
      have HWI := Lib.hid (within_any (nm.length : Int) 1 20)
      have hwi : (decide ((1 : Int) ≤ (nm.length : Int)) && decide ((nm.length : Int) ≤ 20)) = true := by simp; omega
      go_wp2_with fail
      refine (HWI.out _).mono ?_
      rintro e w5 ⟨rfl, rfl⟩
      rw [hwi]
      clear hwi
      go_wp2_with fail
      refine (HCF.out _).mono ?_
      rintro e w6 ⟨rfl, hb6⟩
      have HB6 := Lib.hid (below_up HB4.out hb6 HB4.out.size)
      have HM6 := Lib.hid (HM4.out.below hb6 HM4.out.lt)
      have HX6 := Lib.hid (HX4.out.below hb6 HX4.out.lt)
      clear hb6 HCF HWI HX4 HM4 HB4 k0 k1
      have k0 := HX6.out.cell 0
      have k1 := HX6.out.cell 1
      have hlk := HM6.out.look (x := nm) (by omega)
      rw [HFR.out] at hlk
      simp only [Option.getD_none, Option.isSome_none] at hlk
      by_cases hbig : 20000 < vl.length
      · have qb : decide ((20000 : Int) < (vl.length : Int)) = true := decide_eq_true (by omega)
        have HBG := Lib.hid (show ∃ x ∈ l, 20000 < x.2.length from ⟨_, HMEM.out, hbig⟩)
        clear hbig
        go_wp2_with fail
        go_ret2
        exact ⟨_, _, rfl, HB6.out, .inl ⟨rfl, rfl, HBG.out⟩⟩
      · have qb : decide ((20000 : Int) < (vl.length : Int)) = false := decide_eq_false (by omega)
        obtain ⟨w7, hrun, hm7, hg7⟩ := HM6.out.put (x := nm) (v := vl) (by omega) (by omega) (by omega)
        have HZ := Lib.hid (show CpI l w w7 B (i + 1) from ⟨hlt, hge, by rw [HTK.out]; exact hm7, below_grown HB6.out hg7 HB6.out.size (by rw [HBW.out]; exact Nat.le_refl _), HSM.out (by show vl.length ≤ 20000; omega)⟩)
        clear hbig hm7 hg7
        go_wp2_with fail
        go_roundw
        case rel => exact ⟨i + 1, by go_num, HZ.out⟩
        case measure => simp [intOf]; omega
    · obtain rfl : i = l.length := by omega
      have hm := HI.out.map
      rw [List.take_length] at hm
      have HM := Lib.hid hm
      have HBI := Lib.hid HI.out.below
      have hsm := HI.out.small
      rw [List.take_length] at hsm
      have HSM := Lib.hid hsm
      clear hm HI hlt hi hsm
      go_wp2_with fail
      go_ret2
      exact ⟨_, _, rfl, HBI.out, .inr ⟨rfl, HSM.out, B, rfl, HM.out⟩⟩
end Go.Proofs.Ytfohehldkchnjaa
