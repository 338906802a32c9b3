/- The walks of cal's zones: CheckZone, OffsetAt before time begins, Local. -/
import Derived.Test.YtemikhnkjligdaaGreatDoorQZoneLaw
import Derived.Test.YtemikhnkjligdaaGreatDoorQBase
namespace Go.Proofs.YtemikhnkjligdaaGreatDoor
open Go.RowKit

structure CzInv (off : Int) (cs : List (Int × Int)) (w wr : World) (i : Nat) (at_ o : Int) : Prop where
  le : i ≤ cs.length
  eq : zgo at_ o (cs.drop i) = zgo 0 off cs
  below : Below w.heap.size w wr

set_option maxRecDepth 100000 in
set_option maxHeartbeats 4000000 in
theorem CheckZone_any (off : Int) (v : Value) (cs : List (Int × Int)) (w : World) (h : Changes w v cs) :
    Calls Tryz.prog 46 #[.agg #[.int .i64 off, v]] w fun e w' => e = .returned (.int .i64 (zcode off cs)) ∧ Below w.heap.size w w' := by
  obtain ⟨a, cap, rfl⟩ := SliceAt.len h
  have H := Lib.hid h
  clear h
  have hbx := box1 w #[.int .i64 off, .slice a cs.length cap] 73
  obtain ⟨r, hr⟩ : ∃ r, r = zcode off cs := ⟨_, rfl⟩
  rw [← hr]
  have HR := Lib.hid hr
  clear hr
  go_enter Tryz.func46, Tryz.ntmps46
  go_upto_region 1 with fail
  generalize w.alloc (.cells #[.int .i64 off, .slice a cs.length cap] 73) = w2 at *
  obtain ⟨hx, hbl⟩ := hbx
  have k0 := hx.cell 0
  have k1 := hx.cell 1
  have HB2 := Lib.hid hbl
  clear hx hbl
  by_cases h1 : -1440 ≤ off ∧ off ≤ 1440
  · have hb1 : (decide (-1440 ≤ off) && decide (off ≤ 1440)) = true := by simpa using h1
    have e1 : zcode off cs = if 60 < cs.length then 4 else zgo 0 off cs := by unfold zcode; rw [if_neg (fun g => g h1)]
    clear h1
    by_cases h2 : 60 < cs.length
    · have hb2 : decide ((60 : Int) < (cs.length : Int)) = true := by simp; omega
      rw [if_pos h2] at e1
      have E1 := Lib.hid e1
      clear e1
      go_wp2_with fail
      refine (within_any _ _ _ _).mono ?_
      rintro e w' ⟨rfl, rfl⟩
      rw [hb1]
      go_wp2_with fail
      go_ret
      exact ⟨ret_int (by rw [HR.out, E1.out]), HB2.out⟩
    · have hb2 : decide ((60 : Int) < (cs.length : Int)) = false := by simp; omega
      rw [if_neg h2] at e1
      have E1 := Lib.hid e1
      clear e1
      go_wp2_with fail
      refine (within_any _ _ _ _).mono ?_
      rintro e w' ⟨rfl, rfl⟩
      rw [hb1]
      go_wp2_with fail
      go_quiet (fail)
      go_wp2_with fail
      have hb3 := drewN_below HB2.out nq
      generalize w2.drewN nq = w3 at *
      have HB3 := Lib.hid hb3
      clear hb3 k0 k1
      go_loopw [3, 4, 6, 20] (fun av ov _ iv wr => ∃ (i : Nat) (at_ o : Int), iv = .int .i64 i ∧ av = .int .i64 at_ ∧ ov = .int .i64 o ∧ CzInv off cs w wr i at_ o) (fun _ _ _ iv _ => cs.length - (intOf iv).toNat)
      case atStart => exact ⟨0, 0, off, rfl, rfl, rfl, Nat.zero_le _, rfl, HB3.out⟩
      case round =>
        obtain ⟨i, at_, o, rfl, rfl, rfl, hI⟩ := hrel
        have HI := Lib.hid hI
        have hi := hI.le
        clear hI
        by_cases hlt : i < cs.length
        · obtain ⟨b, of', cap', hv, hb, hel⟩ := H.out.at (by omega)
          cases hv
          obtain ⟨e0, e1⟩ := hel i hlt
          have c0 := (below_cell HI.out.below hb).trans e0
          have c1 := (below_cell HI.out.below hb).trans e1
          have hd : cs.drop i = cs[i] :: cs.drop (i + 1) := List.drop_eq_getElem_cons hlt
          have he := HI.out.eq
          rw [hd] at he
          generalize cs[i] = x at *
          obtain ⟨ca, co⟩ := x
          simp only [zgo] at he
          simp only at c0 c1
          have HE := Lib.hid he
          clear hel e0 e1 hd he
          go_upto_region 9 with fail
          obtain ⟨bx, bb⟩ := box1 wr #[.int .i64 ca, .int .i64 co] 136
          have HB4 := Lib.hid (below_up HI.out.below bb HI.out.below.size)
          have k0 := bx.cell 0
          have k1 := bx.cell 1
          generalize wr.alloc (.cells #[.int .i64 ca, .int .i64 co] 136) = wb at *
          generalize wr.heap.size = B at *
          clear bx bb c0 c1
          by_cases g1 : 1 ≤ ca ∧ ca ≤ 3000000
          · have d1 : (decide (1 ≤ ca) && decide (ca ≤ 3000000)) = true := by simpa using g1
            by_cases g2 : -1440 ≤ co ∧ co ≤ 1440
            · have d2 : (decide (-1440 ≤ co) && decide (co ≤ 1440)) = true := by simpa using g2
              have he := HE.out
              rw [if_neg (fun g => g.elim (fun q => q g1) (fun q => q g2))] at he
              clear g1 g2
              by_cases g3 : ca ≤ at_
              · have d3 : decide (ca ≤ at_) = true := by simpa using g3
                rw [if_pos g3] at he
                have HE2 := Lib.hid he
                clear he g3
                go_wp2_with fail
                refine (within_any _ _ _ _).mono ?_
                rintro e w' ⟨rfl, rfl⟩
                rw [d1]
                go_wp2_with fail
                refine (within_any _ _ _ _).mono ?_
                rintro e w' ⟨rfl, rfl⟩
                rw [d2]
                go_wp2_with fail
                go_ret
                exact ⟨ret_int (by rw [HR.out, E1.out, ← HE2.out]), HB4.out⟩
              · have d3 : decide (ca ≤ at_) = false := by simpa using g3
                rw [if_neg g3] at he
                clear g3
                by_cases g4 : co = o
                · have d4 : (co == o) = true := by simpa using g4
                  rw [if_pos g4] at he
                  have HE2 := Lib.hid he
                  clear he g4
                  go_wp2_with fail
                  refine (within_any _ _ _ _).mono ?_
                  rintro e w' ⟨rfl, rfl⟩
                  rw [d1]
                  go_wp2_with fail
                  refine (within_any _ _ _ _).mono ?_
                  rintro e w' ⟨rfl, rfl⟩
                  rw [d2]
                  go_wp2_with fail
                  go_ret
                  exact ⟨ret_int (by rw [HR.out, E1.out, ← HE2.out]), HB4.out⟩
                · have d4 : (co == o) = false := by simpa using g4
                  rw [if_neg g4] at he
                  have HE2 := Lib.hid he
                  clear he g4
                  go_wp2_with fail
                  refine (within_any _ _ _ _).mono ?_
                  rintro e w' ⟨rfl, rfl⟩
                  rw [d1]
                  go_wp2_with fail
                  refine (within_any _ _ _ _).mono ?_
                  rintro e w' ⟨rfl, rfl⟩
                  rw [d2]
                  go_wp2_with fail
                  go_quiet (fail)
                  go_wp2_with fail
                  go_roundw
                  case rel => exact ⟨i + 1, _, _, by go_num, rfl, rfl, by omega, HE2.out, drewN_below HB4.out _⟩
                  case measure => simp [intOf]; omega
            · have d2 : (decide (-1440 ≤ co) && decide (co ≤ 1440)) = false := by simpa using g2
              have he := HE.out
              rw [if_pos (.inr g2)] at he
              have HE2 := Lib.hid he
              clear he g1 g2
              go_wp2_with fail
              refine (within_any _ _ _ _).mono ?_
              rintro e w' ⟨rfl, rfl⟩
              rw [d1]
              go_wp2_with fail
              refine (within_any _ _ _ _).mono ?_
              rintro e w' ⟨rfl, rfl⟩
              rw [d2]
              go_wp2_with fail
              go_ret
              exact ⟨ret_int (by rw [HR.out, E1.out, ← HE2.out]), HB4.out⟩
          · have d1 : (decide (1 ≤ ca) && decide (ca ≤ 3000000)) = false := by simpa using g1
            have he := HE.out
            rw [if_pos (.inl g1)] at he
            have HE2 := Lib.hid he
            clear he g1
            go_wp2_with fail
            refine (within_any _ _ _ _).mono ?_
            rintro e w' ⟨rfl, rfl⟩
            rw [d1]
            go_wp2_with fail
            go_ret
            exact ⟨ret_int (by rw [HR.out, E1.out, ← HE2.out]), HB4.out⟩
        · obtain rfl : i = cs.length := by omega
          have he := HI.out.eq
          rw [List.drop_length] at he
          have HE2 := Lib.hid he
          clear he
          go_wp2_with fail
          go_ret
          exact ⟨ret_int (by rw [HR.out, E1.out, ← HE2.out]; rfl), HI.out.below⟩
  · have hb1 : (decide (-1440 ≤ off) && decide (off ≤ 1440)) = false := by simpa using h1
    have E1 := Lib.hid (show zcode off cs = 2 by unfold zcode; rw [if_pos h1])
    clear h1
    go_wp2_with fail
    refine (within_any _ _ _ _).mono ?_
    rintro e w' ⟨rfl, rfl⟩
    rw [hb1]
    go_wp2_with fail
    go_ret
    exact ⟨ret_int (by rw [HR.out, E1.out]), HB2.out⟩

end Go.Proofs.YtemikhnkjligdaaGreatDoor

/- Plain laws of spans: merging, counting of covered moments, the moment up en9 which so much is worked. No program in sight. -/
namespace Go.Proofs.YtemikhnkjligdaaGreatDoor

abbrev Sp := Int × Int
def covB (l : List Sp) (t : Int) : Bool := l.any fun s => decide (s.1 ≤ t) && decide (t < s.2)
theorem covB_nil (t : Int) : covB [] t = false := rfl
theorem covB_cons (s : Sp) (l : List Sp) (t : Int) : covB (s :: l) t = (decide (s.1 ≤ t) && decide (t < s.2) || covB l t) := rfl
theorem covB_iff {l : List Sp} {t : Int} : covB l t = true ↔ ∃ s ∈ l, s.1 ≤ t ∧ t < s.2 := by
  unfold covB
  rw [List.any_eq_true]
  constructor
  · rintro ⟨s, h1, h2⟩
    exact ⟨s, h1, by simpa using h2⟩
  · rintro ⟨s, h1, h2⟩
    exact ⟨s, h1, by simpa using h2⟩
theorem covB_append (a b : List Sp) (t : Int) : covB (a ++ b) t = (covB a t || covB b t) := by unfold covB; rw [List.any_append]

/-- how many of n moments from a on have a property -/
def cntN (p : Int → Bool) (a : Int) : Nat → Nat
  | 0 => 0
  | n + 1 => cntN p a n + if p (a + n) then 1 else 0
theorem cntN_add (p : Int → Bool) (a : Int) (m : Nat) : ∀ n, cntN p a (m + n) = cntN p a m + cntN p (a + m) n
  | 0 => rfl
  | n + 1 => by
    rw [← Nat.add_assoc, cntN, cntN_add p a m n, cntN, Nat.add_assoc]
    congr 3
    rw [show a + ((m + n : Nat) : Int) = a + (m : Int) + (n : Int) by omega]
theorem cntN_congr {p q : Int → Bool} {a : Int} : ∀ {n : Nat}, (∀ t, a ≤ t → t < a + n → p t = q t) → cntN p a n = cntN q a n
  | 0, _ => rfl
  | n + 1, h => by
    rw [cntN, cntN, cntN_congr (n := n) (fun t h1 h2 => h t h1 (by omega)), h (a + n) (by omega) (by omega)]
theorem cntN_false (a : Int) : ∀ n, cntN (fun _ => false) a n = 0
  | 0 => rfl
  | n + 1 => by rw [cntN, cntN_false a n]; rfl
theorem cntN_true (a : Int) : ∀ n, cntN (fun _ => true) a n = n
  | 0 => rfl
  | n + 1 => by rw [cntN, cntN_true a n]; rfl
theorem cntN_le (p : Int → Bool) (a : Int) : ∀ n, cntN p a n ≤ n
  | 0 => Nat.le_refl _
  | n + 1 => by rw [cntN]; have := cntN_le p a n; split <;> omega
theorem cntN_sum {p q r : Int → Bool} {a : Int} : ∀ {n : Nat}, (∀ t, a ≤ t → t < a + n → (if p t then 1 else 0) = (if q t then 1 else 0) + (if r t then 1 else 0)) → cntN p a n = cntN q a n + cntN r a n
  | 0, _ => rfl
  | n + 1, h => by
    rw [cntN, cntN, cntN, cntN_sum (n := n) (fun t h1 h2 => h t h1 (by omega)), h (a + n) (by omega) (by omega)]
    omega

/-- how many moments in a, b .. have a property -/
def cnt (p : Int → Bool) (a b : Int) : Nat := cntN p a (b - a).toNat
theorem cnt_self (p : Int → Bool) (a : Int) : cnt p a a = 0 := by unfold cnt; rw [Int.sub_self]; rfl
theorem cnt_split (p : Int → Bool) {a b c : Int} (h1 : a ≤ b) (h2 : b ≤ c) : cnt p a c = cnt p a b + cnt p b c := by
  unfold cnt
  obtain ⟨m, rfl⟩ : ∃ m : Nat, b = a + m := ⟨(b - a).toNat, by omega⟩
  obtain ⟨n, rfl⟩ : ∃ n : Nat, c = a + m + n := ⟨(c - (a + m)).toNat, by omega⟩
  rw [show (a + m + n - a).toNat = m + n by omega, show (a + (m : Int) - a).toNat = m by omega, show (a + m + n - (a + m)).toNat = n by omega]
  exact cntN_add p a m n
theorem cnt_congr {p q : Int → Bool} {a b : Int} (h : ∀ t, a ≤ t → t < b → p t = q t) : cnt p a b = cnt q a b := cntN_congr fun t h1 h2 => h t h1 (by omega)
theorem cnt_none {p : Int → Bool} {a b : Int} (h : ∀ t, a ≤ t → t < b → p t = false) : cnt p a b = 0 := by rw [cnt_congr (q := fun _ => false) h]; exact cntN_false _ _
theorem cnt_all {p : Int → Bool} {a b : Int} (h : ∀ t, a ≤ t → t < b → p t = true) : cnt p a b = (b - a).toNat := by rw [cnt_congr (q := fun _ => true) h]; exact cntN_true _ _
theorem cnt_le (p : Int → Bool) (a b : Int) : cnt p a b ≤ (b - a).toNat := cntN_le _ _ _
theorem cnt_sum {p q r : Int → Bool} {a b : Int} (h : ∀ t, a ≤ t → t < b → (if p t then 1 else 0) = (if q t then 1 else 0) + (if r t then 1 else 0)) : cnt p a b = cnt q a b + cnt r a b :=
  cntN_sum fun t h1 h2 => h t h1 (by omega)

/-- spans that rise and do not touch, in lo, hi .. -/
def Apart : Int → Int → List Sp → Prop
  | _, _, [] => True
  | lo, hi, s :: r => lo ≤ s.1 ∧ s.1 < s.2 ∧ s.2 ≤ hi ∧ Apart (s.2 + 1) hi r
theorem Apart.le : ∀ {l : List Sp} {lo lo' hi : Int}, Apart lo hi l → lo' ≤ lo → Apart lo' hi l
  | [], _, _, _, _, _ => True.intro
  | _ :: _, _, _, _, ⟨h1, h2, h3, h4⟩, h => ⟨by omega, h2, h3, h4⟩
theorem Apart.hi : ∀ {l : List Sp} {lo hi hi' : Int}, Apart lo hi l → hi ≤ hi' → Apart lo hi' l
  | [], _, _, _, _, _ => True.intro
  | _ :: _, _, _, _, ⟨h1, h2, h3, h4⟩, h => ⟨h1, h2, by omega, h4.hi h⟩
theorem Apart.below : ∀ {l : List Sp} {lo hi : Int} {t : Int}, Apart lo hi l → t < lo → covB l t = false
  | [], _, _, _, _, _ => rfl
  | s :: r, lo, hi, t, ⟨h1, h2, h3, h4⟩, h => by
    rw [covB_cons, Apart.below h4 (by omega), Bool.or_false]
    simp; intro; omega
theorem Apart.above : ∀ {l : List Sp} {lo hi : Int} {t : Int}, Apart lo hi l → hi ≤ t → covB l t = false
  | [], _, _, _, _, _ => rfl
  | s :: r, lo, hi, t, ⟨h1, h2, h3, h4⟩, h => by
    rw [covB_cons, Apart.above h4 h, Bool.or_false]
    simp; intro; omega
theorem Apart.mem : ∀ {l : List Sp} {lo hi : Int}, Apart lo hi l → ∀ s ∈ l, lo ≤ s.1 ∧ s.1 < s.2 ∧ s.2 ≤ hi
  | [], _, _, _, s, h => by cases h
  | x :: r, lo, hi, ⟨h1, h2, h3, h4⟩, s, h => by
    rcases List.mem_cons.1 h with rfl | h
    · exact ⟨h1, h2, h3⟩
    · have := h4.mem s h
      omega
/-- what covers of the head, and what of the rest -/
theorem Apart.cov_head {s : Sp} {r : List Sp} {lo hi t : Int} (h : Apart lo hi (s :: r)) : (t < s.1 → covB (s :: r) t = false) ∧ (s.1 ≤ t → t < s.2 → covB (s :: r) t = true) ∧ (s.2 ≤ t → covB (s :: r) t = covB r t) := by
  obtain ⟨h1, h2, h3, h4⟩ := h
  refine ⟨fun g => ?_, fun g1 g2 => ?_, fun g => ?_⟩
  · rw [covB_cons, Apart.below h4 (by omega), Bool.or_false]; simp; intro; omega
  · rw [covB_cons]; simp [g1, g2]
  · rw [covB_cons, show (decide (s.1 ≤ t) && decide (t < s.2)) = false by simp; intro; omega, Bool.false_or]

def lens : List Sp → Int
  | [] => 0
  | s :: r => (s.2 - s.1) + lens r
theorem lens_append (a b : List Sp) : lens (a ++ b) = lens a + lens b := by
  induction a with
  | nil => simp [lens]
  | cons s r ih => simp only [List.cons_append, lens, ih]; omega
theorem lens_cnt : ∀ {l : List Sp} {lo hi : Int}, Apart lo hi l → lo ≤ hi → lens l = (cnt (covB l) lo hi : Nat)
  | [], lo, hi, _, _ => by rw [cnt_none (fun t _ _ => covB_nil t)]; rfl
  | s :: r, lo, hi, h, hle => by
    have hc := fun t => h.cov_head (t := t)
    obtain ⟨h1, h2, h3, h4⟩ := h
    rw [cnt_split _ h1 (by omega), cnt_split _ (show s.1 ≤ s.2 by omega) h3, cnt_none (fun t _ g => (hc t).1 g), cnt_all (fun t g1 g2 => (hc t).2.1 g1 g2), cnt_congr (fun t g _ => (hc t).2.2 g)]
    have ih : lens r = (cnt (covB r) s.2 hi : Nat) := by
      by_cases e : s.2 + 1 ≤ hi
      · rw [lens_cnt h4 e, cnt_split (covB r) (show s.2 ≤ s.2 + 1 by omega) e, cnt_none (a := s.2) (fun t _ g => Apart.below h4 (by omega))]
        simp
      · have : r = [] := by
          cases r with
          | nil => rfl
          | cons x y => obtain ⟨g1, g2, g3, _⟩ := h4; omega
        subst this
        rw [cnt_none (fun t _ _ => covB_nil t)]; rfl
    simp only [lens]
    rw [ih]
    omega

/-- overlapping spans made into few -/
def mergeF : Option Sp → List Sp → List Sp
  | none, [] => []
  | some s, [] => [s]
  | none, s :: r => mergeF (some s) r
  | some l, s :: r => if s.1 ≤ l.2 then mergeF (some (l.1, max l.2 s.2)) r else l :: mergeF (some s) r
/-- spans that rise by their beginnings, none of them empty -/
def Rising : Int → Int → List Sp → Prop
  | _, _, [] => True
  | lo, hi, s :: r => lo ≤ s.1 ∧ s.1 < s.2 ∧ s.2 ≤ hi ∧ Rising s.1 hi r
theorem Rising.le : ∀ {l : List Sp} {lo lo' hi : Int}, Rising lo hi l → lo' ≤ lo → Rising lo' hi l
  | [], _, _, _, _, _ => True.intro
  | _ :: _, _, _, _, ⟨h1, h2, h3, h4⟩, h => ⟨by omega, h2, h3, h4⟩
theorem merge_some : ∀ (r : List Sp) (l : Sp) (lo hi : Int), lo ≤ l.1 → l.1 < l.2 → l.2 ≤ hi → Rising l.1 hi r → Apart lo hi (mergeF (some l) r) ∧ ∀ t, covB (mergeF (some l) r) t = covB (l :: r) t
  | [], l, lo, hi, h1, h2, h3, _ => ⟨⟨h1, h2, h3, True.intro⟩, fun t => rfl⟩
  | s :: r, l, lo, hi, h1, h2, h3, ⟨g1, g2, g3, g4⟩ => by
    unfold mergeF
    by_cases e : s.1 ≤ l.2
    · rw [if_pos e]
      obtain ⟨k1, k2⟩ := merge_some r (l.1, max l.2 s.2) lo hi h1 (by simp only; omega) (by simp only; omega) (g4.le g1)
      refine ⟨k1, fun t => ?_⟩
      rw [k2, covB_cons, covB_cons, covB_cons, ← Bool.or_assoc]
      congr 1
      rw [Bool.eq_iff_iff]
      simp only [Bool.or_eq_true, Bool.and_eq_true, decide_eq_true_eq]
      omega
    · rw [if_neg e]
      obtain ⟨k1, k2⟩ := merge_some r s (l.2 + 1) hi (by omega) g2 g3 g4
      exact ⟨⟨h1, h2, h3, k1⟩, fun t => by rw [covB_cons, k2, covB_cons l]⟩
theorem merge_none (r : List Sp) (lo hi : Int) (h : Rising lo hi r) : Apart lo hi (mergeF none r) ∧ ∀ t, covB (mergeF none r) t = covB r t := by
  cases r with
  | nil => exact ⟨True.intro, fun t => rfl⟩
  | cons s r =>
    obtain ⟨h1, h2, h3, h4⟩ := h
    exact merge_some r s lo hi h1 h2 h3 h4

/-- the first open moment up en9 which so much is worked -/
def addF : Int → List Sp → Option Int
  | _, [] => none
  | k, s :: r => if s.2 - s.1 ≤ k then addF (k - (s.2 - s.1)) r else some (s.1 + k)
/-- the first moment up en9 which so much is worked -/
def endF : Int → List Sp → Option Int
  | _, [] => none
  | k, s :: r => if s.2 - s.1 < k then endF (k - (s.2 - s.1)) r else some (s.1 + k)
theorem addF_to : ∀ {l : List Sp} {lo hi en9 : Int}, Apart lo hi l → lo ≤ en9 → covB l en9 = true → addF (cnt (covB l) lo en9 : Nat) l = some en9
  | [], _, _, _, _, _, h => by cases h
  | s :: r, lo, hi, en9, h, hle, hc => by
    have hh := fun t => h.cov_head (t := t)
    obtain ⟨h1, h2, h3, h4⟩ := h
    have hs : s.1 ≤ en9 := by
      apply Classical.byContradiction
      intro g
      rw [(hh en9).1 (by omega)] at hc
      cases hc
    rw [cnt_split _ h1 hs, cnt_none (fun t _ g => (hh t).1 g), Nat.zero_add]
    unfold addF
    by_cases e : en9 < s.2
    · rw [cnt_all (fun t g1 g2 => (hh t).2.1 g1 (by omega)), if_neg (by omega)]
      congr 1; omega
    · rw [cnt_split _ (show s.1 ≤ s.2 by omega) (show s.2 ≤ en9 by omega), cnt_all (fun t g1 g2 => (hh t).2.1 g1 g2), cnt_congr (fun t g _ => (hh t).2.2 g), if_pos (by omega)]
      rw [(hh en9).2.2 (by omega)] at hc
      have hlt : s.2 + 1 ≤ en9 := by
        apply Classical.byContradiction
        intro g
        rw [Apart.below h4 (by omega)] at hc
        cases hc
      have ih := addF_to h4 hlt hc
      rw [cnt_split (covB r) (show s.2 ≤ s.2 + 1 by omega) hlt, cnt_none (a := s.2) (fun t _ g => Apart.below h4 (by omega)), Nat.zero_add, ← ih]
      congr 1
      omega
theorem endF_to : ∀ {l : List Sp} {lo hi en9 : Int}, Apart lo hi l → lo ≤ en9 → covB l en9 = true → 0 < cnt (covB l) lo en9 → ∃ n, endF (cnt (covB l) lo en9 : Nat) l = some n ∧ lo ≤ n ∧ n ≤ en9 ∧ cnt (covB l) n en9 = 0
  | [], _, _, _, _, _, h, _ => by cases h
  | s :: r, lo, hi, en9, h, hle, hc, hpos => by
    have hh := fun t => h.cov_head (t := t)
    obtain ⟨h1, h2, h3, h4⟩ := h
    have hs : s.1 ≤ en9 := by
      apply Classical.byContradiction
      intro g
      rw [(hh en9).1 (by omega)] at hc
      cases hc
    rw [cnt_split _ h1 hs, cnt_none (fun t _ g => (hh t).1 g), Nat.zero_add] at hpos ⊢
    unfold endF
    by_cases e : en9 < s.2
    · rw [cnt_all (fun t g1 g2 => (hh t).2.1 g1 (by omega)), if_neg (by omega)]
      exact ⟨_, rfl, by omega, by omega, by rw [show s.1 + ((en9 - s.1).toNat : Int) = en9 by omega, cnt_self]⟩
    · rw [cnt_split _ (show s.1 ≤ s.2 by omega) (show s.2 ≤ en9 by omega), cnt_all (fun t g1 g2 => (hh t).2.1 g1 g2), cnt_congr (fun t g _ => (hh t).2.2 g)]
      rw [(hh en9).2.2 (by omega)] at hc
      have hlt : s.2 + 1 ≤ en9 := by
        apply Classical.byContradiction
        intro g
        rw [Apart.below h4 (by omega)] at hc
        cases hc
      have hz : cnt (covB r) s.2 en9 = cnt (covB r) (s.2 + 1) en9 := by rw [cnt_split (covB r) (show s.2 ≤ s.2 + 1 by omega) hlt, cnt_none (a := s.2) (fun t _ g => Apart.below h4 (by omega)), Nat.zero_add]
      by_cases e0 : cnt (covB r) s.2 en9 = 0
      · rw [e0, if_neg (by omega)]
        refine ⟨_, rfl, by omega, by omega, ?_⟩
        rw [show s.1 + (((s.2 - s.1).toNat + 0 : Nat) : Int) = s.2 by omega, cnt_congr (fun t g _ => (hh t).2.2 g), e0]
      · rw [if_pos (by omega)]
        obtain ⟨n, k1, k2, k3, k4⟩ := endF_to h4 hlt hc (by omega)
        refine ⟨n, ?_, by omega, k3, ?_⟩
        · rw [← k1]
          congr 1
          omega
        · rw [cnt_congr (fun t g _ => (hh t).2.2 (by omega)), k4]

end Go.Proofs.YtemikhnkjligdaaGreatDoor
