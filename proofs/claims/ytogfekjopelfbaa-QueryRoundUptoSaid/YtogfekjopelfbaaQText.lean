/- The walk of know.QueryText. -/
import Derived.Test.YtogfekjopelfbaaWords
import Derived.Test.YtogfekjopelfbaaShelf
import Derived.Deep.DeepCutAuto
import Derived.Deep.CutBlock
namespace Go.Proofs.Ytogfekjopelfbaa
open Go.RowKit

def bs (l : List UInt8) : ByteArray := ⟨l.toArray⟩
theorem bs_data (l : List UInt8) : (bs l).data.toList = l := rfl
theorem bs_of (s : ByteArray) : bs s.data.toList = s := rfl

structure PartD where
  kind : Int
  neg : Bool
  ws : List ByteArray

def PartR (w : World) (cs : List Value) (x : PartD) : Prop := ∃ v, cs = [.int .i64 x.kind, .bool x.neg, v] ∧ SliceAt 1 strR w v x.ws
theorem PartR_stable : Stable PartR := fun _ _ _ _ ⟨v, h1, h2⟩ hb => ⟨v, h1, h2.stable strR_stable hb⟩

def okWord (s : ByteArray) : Bool := decide (wordsS s = [s.data.toList])
def shapeOk (x : PartD) : Bool := decide (0 ≤ x.kind ∧ x.kind ≤ 2) && decide (x.ws.length ≠ 0) && decide (x.kind = 1 ∨ x.ws.length ≤ 1)
def okPart (x : PartD) : Bool := shapeOk x && x.ws.all okWord
def joinS (xs : List ByteArray) : ByteArray := bs (Lib.join (xs.map (·.data.toList)) [32])
def partL (x : PartD) : List UInt8 :=
  (if x.neg then [45] else []) ++ (if x.kind = 1 then [34] ++ (joinS x.ws).data.toList ++ [34] else if x.kind = 2 then (joinS x.ws).data.toList ++ [42] else (joinS x.ws).data.toList)
def queryS (l : List PartD) : ByteArray := joinS (l.map fun x => bs (partL x))

/-- QueryText: the text, or the empty one with an error -/
def QTPost (l : List PartD) (w : World) (e : Ending) (w' : World) : Prop :=
  ∃ s n, e = .returned (.tuple #[.string s, .int .i64 n]) ∧ Below w.heap.size w w' ∧
    ((n = 0 ∧ s = queryS l ∧ s.size ≤ 400 ∧ l.length ≤ 20 ∧ l.all okPart = true) ∨ (n ≠ 0 ∧ s = ⟨#[]⟩ ∧ ¬ (l.length ≤ 20 ∧ l.all okPart = true ∧ (queryS l).size ≤ 400)))

/-- bounds that an input of small bulk gives -/
structure SmallQ (l : List PartD) : Prop where
  ws : ∀ x ∈ l, x.ws.length ≤ 1048576
  word : ∀ x ∈ l, ∀ s ∈ x.ws, s.size ≤ 1048576

theorem join_any (v : Value) (xs : List ByteArray) (w : World) (h : SliceAt 1 strR w v xs) (hN : xs.length ≤ 1048576) (hS : (joinS xs).size ≤ 70368744177664) :
    Calls Try.prog 25 #[v, .string ⟨#[32]⟩] w fun e w' => e = .returned (.string (joinS xs)) ∧ Below w.heap.size w w' := by
  rcases h with ⟨a, cap, rfl, rfl⟩ | ⟨b, off, cap, rfl, hcap, hb, h⟩
  · refine (Try.strings_Join_none a cap ⟨#[32]⟩ w).mono ?_
    rintro e w' ⟨rfl, rfl⟩
    exact ⟨rfl, Below.refl _ _⟩
  · refine (Try.strings_Join b off cap xs ⟨#[32]⟩ w (strs_cell h) hb (by omega) hcap ?_).mono ?_
    · have : (Lib.join (xs.map (·.data.toList)) [32]).length = (joinS xs).size := by simp [joinS, bs, ByteArray.size]
      show (Lib.join (xs.map (·.data.toList)) [32]).length ≤ _
      omega
    · rintro e w' ⟨rfl, hb⟩
      exact ⟨rfl, hb⟩

theorem shapeNot (k : Int) (n : Bool) (ws : List ByteArray) : (!shapeOk ⟨k, n, ws⟩) = true ↔ (¬ (0 ≤ k ∧ k ≤ 2) ∨ ws.length = 0 ∨ (k ≠ 1 ∧ 1 < ws.length)) := by
  unfold shapeOk
  simp only [Bool.not_eq_true', Bool.and_eq_false_iff, decide_eq_false_iff_not]
  omega

theorem words_one {w : World} {B : Nat} {e : TypeId} {L : List (List UInt8)} {a : Option Addr} {c : Nat} (h : w.ownsRow B e 1 (.slice a L.length c) L.length (L.map strV)) (h1 : L.length = 1) :
    ∃ g x, a = some ⟨g, 0, none⟩ ∧ L = [x] ∧ w.cell? ⟨g, 0, none⟩ = some (.string (bs x)) := by
  obtain ⟨x, rfl⟩ : ∃ x, L = [x] := List.length_eq_one_iff.1 h1
  rcases h.2 with ⟨hv, h0⟩ | ⟨g, cap, cur, hv, _, hg, _⟩
  · simp at h0
  · cases hv
    refine ⟨g, x, rfl, rfl, ?_⟩
    have := h.cells (g := g) rfl 0 (strV x) (by simp)
    simp only [Addr.add, if_true] at this
    exact this

theorem lens_le (N : Nat) : ∀ (xs : List ByteArray), (∀ s ∈ xs, s.size ≤ N) → Lib.lens (xs.map (·.data.toList)) ≤ xs.length * N
  | [], _ => by simp [Lib.lens]
  | s :: xs, h => by
    have h1 := lens_le N xs (fun t ht => h t (List.mem_cons_of_mem _ ht))
    have h2 := h s List.mem_cons_self
    have h3 : s.data.toList.length = s.size := by simp
    simp only [Lib.lens, List.map_cons, List.sum_cons, List.length_cons, Nat.succ_mul] at h1 ⊢
    omega
theorem joinS_size (xs : List ByteArray) (N : Nat) (h : ∀ s ∈ xs, s.size ≤ N) : (joinS xs).size ≤ xs.length * (N + 1) := by
  have e : (joinS xs).size = (Lib.join (xs.map (·.data.toList)) [32]).length := by simp [joinS, bs, ByteArray.size]
  rw [e]
  cases xs with
  | nil => simp [Lib.join_nil]
  | cons x r =>
    rw [List.map_cons, Lib.join_length, ← List.map_cons (f := fun s : ByteArray => s.data.toList)]
    have := lens_le N (x :: r) h
    rw [Nat.mul_add]
    simp at this ⊢
    omega
theorem joinS_small (xs : List ByteArray) (hl : xs.length ≤ 1048576) (h : ∀ s ∈ xs, s.size ≤ 1048576) : (joinS xs).size ≤ 70368744177664 := by
  have h1 := joinS_size xs 1048576 h
  have h2 : xs.length * (1048576 + 1) ≤ 1048576 * (1048576 + 1) := Nat.mul_le_mul_right _ hl
  omega

/-- the text of a part but for its sign -/
def midS (kind : Int) (j : ByteArray) : ByteArray := if kind = 1 then ⟨#[34]⟩ ++ j ++ ⟨#[34]⟩ else if kind = 2 then j ++ ⟨#[42]⟩ else j
theorem midS_size (kind : Int) (j : ByteArray) (h : j.size ≤ 70368744177664) : (midS kind j).size ≤ 70368744177666 := by
  unfold midS
  split
  · rw [ByteArray.size_append, ByteArray.size_append, show (⟨#[34]⟩ : ByteArray).size = 1 from rfl]; omega
  · split
    · rw [ByteArray.size_append, show (⟨#[42]⟩ : ByteArray).size = 1 from rfl]; omega
    · omega
theorem shape_kind {k : Int} {n : Bool} {ws : List ByteArray} (h : shapeOk ⟨k, n, ws⟩ = true) : 0 ≤ k ∧ k ≤ 2 := by
  simp only [shapeOk, Bool.and_eq_true, decide_eq_true_eq] at h
  exact h.1.1

structure QTInv (l : List PartD) (w wr : World) (pv : Value) (i : Nat) : Prop where
  le : i ≤ l.length
  own : wr.ownsRow w.heap.size 9 1 pv i ((l.take i).map fun x => .string (bs (partL x)))
  below : Below w.heap.size w wr
  ok : (l.take i).all okPart = true

theorem bs_inj {a b : ByteArray} (h : a.data.toList = b.data.toList) : a = b := by
  rw [← bs_of a, ← bs_of b, h]
theorem partS_true (k : Int) (ws : List ByteArray) : ⟨#[45]⟩ ++ midS k (joinS ws) = bs (partL ⟨k, true, ws⟩) := by
  apply bs_inj
  rw [bs_data]
  unfold partL midS
  by_cases h1 : k = 1
  · simp [h1]
  · by_cases h2 : k = 2
    · simp [h2]
    · simp [h1, h2]
theorem partS_false (k : Int) (ws : List ByteArray) : midS k (joinS ws) = bs (partL ⟨k, false, ws⟩) := by
  apply bs_inj
  rw [bs_data]
  unfold partL midS
  by_cases h1 : k = 1
  · simp [h1]
  · by_cases h2 : k = 2
    · simp [h2]
    · simp [h1, h2]
theorem QTInv.add {l : List PartD} {w wr w' : World} {pv v' : Value} {i : Nat} {x : PartD} {t : ByteArray} (h : QTInv l w wr pv i) (hlt : i < l.length) (hx : x = l[i]) (hok : okPart x = true)
    (hb : Below w.heap.size w w') (ht : t = bs (partL x)) (ho : w'.ownsRow w.heap.size 9 1 v' (i + 1) ((l.take i).map (fun x => .string (bs (partL x))) ++ [.string t])) : QTInv l w w' v' (i + 1) := by
  refine ⟨by omega, ?_, hb, ?_⟩
  · rw [List.take_succ_eq_append_getElem hlt, List.map_append, List.map_singleton, ← hx, ← ht]
    exact ho
  · rw [List.take_succ_eq_append_getElem hlt, List.all_append, h.ok, ← hx]
    simp [hok]
theorem wordsF_30 : ∀ (n : Nat) (l : List UInt8), ∀ x ∈ wordsF n l, x.length ≤ 30
  | 0, l, x, h => by simp [wordsF] at h
  | n + 1, l, x, h => by
    unfold wordsF at h
    by_cases hl : l = []
    · simp [hl] at h
    · rw [if_neg hl, List.mem_append] at h
      rcases h with h | h
      · split at h
        · rename_i hc
          rw [List.mem_singleton] at h
          rw [h, List.length_map]
          exact hc.2
        · cases h
      · exact wordsF_30 n _ x h
theorem okWord_30 {s : ByteArray} (h : okWord s = true) : s.size ≤ 30 := by
  have h1 := of_decide_eq_true h
  have h2 := wordsF_30 _ _ s.data.toList (show s.data.toList ∈ wordsS s by rw [h1]; exact List.mem_singleton.2 rfl)
  have h3 : s.data.toList.length = s.size := by simp
  omega
theorem part_small (x : PartD) (h : okPart x = true) (hl : x.ws.length ≤ 1048576) : (bs (partL x)).size ≤ 32505859 := by
  simp only [okPart, Bool.and_eq_true] at h
  have h1 := joinS_size x.ws 30 (fun s hs => okWord_30 (List.all_eq_true.1 h.2 s hs))
  have h2 : x.ws.length * (30 + 1) ≤ 1048576 * (30 + 1) := Nat.mul_le_mul_right _ hl
  have e : (bs (partL x)).size = (partL x).length := by simp [bs, ByteArray.size]
  have e2 : (joinS x.ws).data.toList.length = (joinS x.ws).size := by simp
  rw [e]
  unfold partL
  split <;> split <;> (try split) <;> simp only [List.length_append, List.length_cons, List.length_nil, e2] <;> omega
theorem queryS_small (l : List PartD) (hl : l.length ≤ 20) (hs : SmallQ l) (h : l.all okPart = true) : (queryS l).size ≤ 650117200 := by
  have h1 := joinS_size (l.map fun x => bs (partL x)) 32505859 (fun s hm => by
    obtain ⟨x, hx, rfl⟩ := List.mem_map.1 hm
    exact part_small x (List.all_eq_true.1 h x hx) (hs.ws x hx))
  rw [List.length_map] at h1
  have h2 : l.length * (32505859 + 1) ≤ 20 * (32505859 + 1) := Nat.mul_le_mul_right _ hl
  unfold queryS
  omega

set_option maxRecDepth 100000 in
set_option maxHeartbeats 2000000 in
theorem QueryText_any (v : Value) (l : List PartD) (w : World) (h : SliceAt 3 PartR w v l) (hsm : SmallQ l) :
    Calls Try.prog 7 #[.agg #[v]] w (QTPost l w) := by
  obtain ⟨a, cap, rfl⟩ := h.len
  have H := Lib.hid h
  have HS := Lib.hid hsm
  clear h hsm
  by_cases hl : l.length ≤ 20
  · have hl' : ¬ ((20 : Int) < (l.length : Int)) := by omega
    go_enter Try.func7, Try.ntmps7
    go_wp2_with fail
    go_loopw [4, 19] (fun pv iv wr => ∃ i : Nat, iv = .int .i64 i ∧ QTInv l w wr pv i) (fun _ iv _ => l.length - (intOf iv).toNat)
    case atStart => exact ⟨0, rfl, by omega, World.ownsRow_nil _ _ _ _, (Below.refl _ _).alloc (Nat.le_refl _) _, rfl⟩
    case round =>
      obtain ⟨i, rfl, hI⟩ := hrel
      have hi := hI.le
      have HI := Lib.hid hI
      clear hI
      by_cases hlt : i < l.length
      · obtain ⟨b, off, cap', hv, hcap, hb, hel⟩ := H.out.at (by omega)
        cases hv
        obtain ⟨cs, ⟨hlen, hc⟩, wv, hcs, hws⟩ := hel i hlt
        subst hcs
        have hbr := HI.out.below
        have c0 := (below_cell hbr hb).trans (hc 0 (by simp))
        have c1 := (below_cell hbr hb).trans (hc 1 (by simp))
        have c2 := (below_cell hbr hb).trans (hc 2 (by simp))
        simp only [Nat.add_zero, List.getElem_cons_zero, List.getElem_cons_succ] at c0 c1 c2
        have HWS := Lib.hid (hws.stable strR_stable (Below.mono hbr (Nat.le_refl _)))
        have HSw := Lib.hid (HS.out.ws _ (List.getElem_mem hlt))
        have HSs := Lib.hid (HS.out.word _ (List.getElem_mem hlt))
        have hbr' : b < wr.heap.size := Nat.lt_of_lt_of_le hb hbr.size
        obtain ⟨x, hx⟩ : ∃ x, x = l[i] := ⟨_, rfl⟩
        rw [← hx] at c0 c1 HWS HSw HSs
        have HX := Lib.hid hx
        clear hc hws hel hbr hx
        obtain ⟨kind, neg, ws⟩ := x
        simp only at c0 c1 HWS HSw HSs
        obtain ⟨aw, cw, rfl⟩ := HWS.out.len
        have hbs : b < w.heap.size := hb
        go_upto_region 7 with fail
        have hbx := Has.new wr #[.int .i64 kind, .bool neg, .slice aw ws.length cw] 61
        have hbl : Below w.heap.size w (wr.alloc (.cells #[.int .i64 kind, .bool neg, .slice aw ws.length cw] 61)) := HI.out.below.alloc HI.out.below.size _
        have hws2 := HWS.out.stable strR_stable ((Below.refl wr.heap.size wr).alloc (Nat.le_refl _) (.cells #[.int .i64 kind, .bool neg, .slice aw ws.length cw] 61))
        have how2 := owns_below HI.out.own ((Below.refl wr.heap.size wr).alloc (Nat.le_refl _) (.cells #[.int .i64 kind, .bool neg, .slice aw ws.length cw] 61))
        have p0 := hbx.cell 0
        have p1 := hbx.cell 1
        have p2 := hbx.cell 2
        have hbxl := hbx.lt
        have HBL := Lib.hid hbl
        have HW2 := Lib.hid hws2
        have HO2 := Lib.hid how2
        clear hbx hbl hws2 how2 HWS c0 c1 c2
        generalize wr.alloc (.cells #[.int .i64 kind, .bool neg, .slice aw ws.length cw] 61) = wb at *
        generalize wr.heap.size = bx at *
        go_cut [43] (fun s43 wx => wb = wx ∧ s43 = .bool (!shapeOk ⟨kind, neg, ws⟩))
        case first =>
          go_wp2_with (go_at_call 24; refine (within_any _ _ _ _).mono ?_; rintro e w' ⟨rfl, rfl⟩)
          all_goals
            go_meet
            refine ⟨rfl, congrArg Value.bool ?_⟩
            rw [Bool.eq_iff_iff, shapeNot]
            have hz : ws = [] ↔ ws.length = 0 := List.length_eq_zero_iff.symm
            clear HW2 HO2 HBL p0 p1 p2
            first
              | (have h0 : ws.length = 0 := hz.1 ‹_›
                 clear hz; simp only [eq_self, Bool.or_eq_true, Bool.and_eq_true, bne_iff_ne, beq_iff_eq, decide_eq_true_eq, true_iff]; omega)
              | (have h0 : ws.length ≠ 0 := fun e => absurd (hz.2 e) ‹_›
                 clear hz; simp only [eq_self, Bool.or_eq_true, Bool.and_eq_true, bne_iff_ne, beq_iff_eq, decide_eq_true_eq, true_iff]; omega)
              | (clear hz; simp only [eq_self, true_iff]; omega)
        case rest =>
          obtain ⟨rfl, rfl⟩ := hcut
          have hbxl' := hbxl
          cases hsh : shapeOk ⟨kind, neg, ws⟩ with
          | false =>
            go_wp2_with fail
            go_ret2
            exact ⟨_, _, rfl, HBL.out, .inr ⟨by omega, rfl, fun h => by
              have := List.all_eq_true.1 h.2.1 l[i] (List.getElem_mem hlt)
              rw [← HX.out] at this
              simp [okPart, hsh] at this⟩⟩
          | true =>
            have hsh' := Lib.hid hsh
            clear hsh
            go_upto_block 2 with fail
            go_cut [] (fun wx => Below wb.heap.size wb wx ∧ ws.all okWord = true)
            case first =>
              go_wp2_with fail
              go_loopw [47] (fun jv wx => ∃ j : Nat, j ≤ ws.length ∧ jv = .int .i64 j ∧ Below wb.heap.size wb wx ∧ (ws.take j).all okWord = true) (fun jv _ => ws.length - (intOf jv).toNat)
              case atStart => exact ⟨0, Nat.zero_le _, rfl, Below.refl _ _, rfl⟩
              case round =>
                obtain ⟨j, hj, rfl, hbj, hok⟩ := hrel
                have HBJ := Lib.hid hbj
                have HOK := Lib.hid hok
                clear hbj hok
                by_cases hjl : j < ws.length
                · obtain ⟨b2, off2, cap2, hv2, hcap2, hb2, hel2⟩ := HW2.out.at (by omega)
                  cases hv2
                  obtain ⟨cs, ⟨hlen, hc⟩, hcs⟩ := hel2 j hjl
                  cases hcs
                  have e0 := (below_cell HBJ.out hb2).trans (hc 0 (by simp))
                  simp only [Nat.add_zero, List.getElem_cons_zero, Nat.mul_one] at e0
                  obtain ⟨z, hz⟩ : ∃ z, z = ws[j] := ⟨_, rfl⟩
                  have hzs : z.size ≤ 1048576 := by rw [hz]; exact HSs.out _ (List.getElem_mem hjl)
                  rw [← hz] at e0
                  have HZ := Lib.hid hz
                  have hwl : ws.length ≤ 1048576 := HSw.out
                  clear hc hel2 hz
                  go_wp2_with fail
                  refine (Words_any _ _ hzs).mono ?_
                  rintro e w4 ⟨av, cv, rfl, ho, hb4⟩
                  have HB4 := Lib.hid hb4
                  by_cases h1 : (wordsS z).length = 1
                  · obtain ⟨g, x, rfl, hx, hcx⟩ := words_one ho h1
                    have HXX := Lib.hid hx
                    have h1i : ((wordsS z).length : Int) = 1 := by omega
                    clear ho hb4 h1 hx
                    by_cases hxz : x = z.data.toList
                    · have hcmp : ((bs x).toList == z.toList) = true := by
                        rw [Lib.toList_data, Lib.toList_data, bs_data]; simpa using hxz
                      have HXZ := Lib.hid hxz
                      clear hxz
                      go_wp2
                      have hnew : (ws.take (j + 1)).all okWord = true := by
                        rw [List.take_succ_eq_append_getElem hjl, List.all_append, HOK.out, ← HZ.out]
                        simp [okWord, HXX.out, HXZ.out]
                      refine ⟨?_, by simp [intOf]; omega⟩
                      repeat apply Exists.intro
                      exact ⟨⟨j + 1, by omega, by go_num, HBJ.out.trans (HB4.out.mono HBJ.out.size), hnew⟩, rfl⟩
                    · have hcmp : ((bs x).toList == z.toList) = false := by
                        rw [Lib.toList_data, Lib.toList_data, bs_data]; simpa using hxz
                      have HXZ := Lib.hid hxz
                      clear hxz
                      go_wp2
                      go_ret2
                      exact ⟨_, _, rfl, HBL.out.trans ((HBJ.out.trans (HB4.out.mono HBJ.out.size)).mono HBL.out.size), .inr ⟨by omega, rfl, fun h => by
                        have h2 := List.all_eq_true.1 h.2.1 l[i] (List.getElem_mem hlt)
                        rw [← HX.out] at h2
                        simp only [okPart, Bool.and_eq_true] at h2
                        have h3 := List.all_eq_true.1 h2.2 ws[j] (List.getElem_mem hjl)
                        rw [← HZ.out] at h3
                        have h4 := of_decide_eq_true h3
                        rw [HXX.out] at h4
                        exact HXZ.out (by simpa using h4)⟩⟩
                  · have h1i : ¬ ((wordsS z).length : Int) = 1 := by omega
                    have H1 := Lib.hid h1
                    clear ho hb4 h1
                    go_wp2_with fail
                    go_ret2
                    exact ⟨_, _, rfl, HBL.out.trans ((HBJ.out.trans (HB4.out.mono HBJ.out.size)).mono HBL.out.size), .inr ⟨by omega, rfl, fun h => by
                      have h2 := List.all_eq_true.1 h.2.1 l[i] (List.getElem_mem hlt)
                      rw [← HX.out] at h2
                      simp only [okPart, Bool.and_eq_true] at h2
                      have h3 := List.all_eq_true.1 h2.2 ws[j] (List.getElem_mem hjl)
                      rw [← HZ.out] at h3
                      exact H1.out (by rw [of_decide_eq_true h3]; rfl)⟩⟩
                · obtain rfl : j = ws.length := by omega
                  go_wp2_with fail
                  go_meet
                  case rel => exact ⟨HBJ.out, by have := HOK.out; rwa [List.take_length] at this⟩
            case rest =>
              obtain ⟨hbw, hall⟩ := hcut
              have q0 := (below_cell hbw hbxl).trans p0
              have q1 := (below_cell hbw hbxl).trans p1
              have q2 := (below_cell hbw hbxl).trans p2
              have hsl := HW2.out.stable strR_stable hbw
              have how := owns_below HO2.out hbw
              have hbl := HBL.out.trans (hbw.mono HBL.out.size)
              have hbxc : bx < wc.heap.size := Nat.lt_of_lt_of_le hbxl hbw.size
              have HSL := Lib.hid hsl
              have HOW := Lib.hid how
              have HBW := Lib.hid hbl
              have HALL := Lib.hid hall
              have hjs : (joinS ws).size ≤ 70368744177664 := joinS_small ws HSw.out HSs.out
              have HJS := Lib.hid hjs
              clear hbw hsl how hbl hall hjs p0 p1 p2 HW2 HO2 HBL
              go_wp2_with fail
              refine (join_any _ ws _ HSL.out HSw.out HJS.out).mono ?_
              rintro e w5 ⟨rfl, hb5⟩
              have r0 := (below_cell hb5 hbxc).trans q0
              have r1 := (below_cell hb5 hbxc).trans q1
              have hown5 := owns_below HOW.out hb5
              have hbl5 := HBW.out.trans (hb5.mono HBW.out.size)
              have HOW5 := Lib.hid hown5
              have HBL5 := Lib.hid hbl5
              clear hb5 hown5 hbl5 q0 q1 q2
              have hk0 := shape_kind hsh'.out
              go_upto_block 4 with fail
              go_cut [10] (fun s10 wx => w5 = wx ∧ s10 = .string (midS kind (joinS ws)))
              case first =>
                have hjz : (joinS ws).size ≤ 70368744177664 := HJS.out
                clear HJS HALL HSw HSs HI HX
                have hk3 : kind = 1 ∨ kind = 2 ∨ kind = 0 := by omega
                rcases hk3 with rfl | rfl | rfl
                all_goals
                  go_wp2_with fail
                  go_meet
                  exact ⟨rfl, rfl⟩
              case rest =>
                obtain ⟨rfl, rfl⟩ := hcut
                have hB5 : w.heap.size ≤ w5.heap.size := HBL5.out.size
                have hmz : (midS kind (joinS ws)).size ≤ 70368744177666 := midS_size kind _ HJS.out
                have hin : i ≤ 20 := by omega
                have hwb := HBL5.out
                cases neg with
                | true =>
                  go_wp2_with (at_builtin; go_must (refine append_one rfl _ _ 32 rfl w.heap.size 9 (.string ⟨#[]⟩) 1 16 Try.underlying32 infoStr rfl (by decide) w w5 _ _ _ rfl HOW5.out _ rfl rfl rfl (by simp [Value.oneCell']) (by omega) (by omega) hB5 hwb ?_); intro v' w6 ho hb6 _ _)
                  refine ⟨⟨i + 1, by go_num, HI.out.add hlt HX.out (by simp [okPart, hsh'.out, HALL.out]) hb6 (partS_true kind ws) ho⟩, ?_⟩
                  simp [intOf]; omega
                | false =>
                  go_wp2_with (at_builtin; go_must (refine append_one rfl _ _ 32 rfl w.heap.size 9 (.string ⟨#[]⟩) 1 16 Try.underlying32 infoStr rfl (by decide) w w5 _ _ _ rfl HOW5.out _ rfl rfl rfl (by simp [Value.oneCell']) (by omega) (by omega) hB5 hwb ?_); intro v' w6 ho hb6 _ _)
                  refine ⟨⟨i + 1, by go_num, HI.out.add hlt HX.out (by simp [okPart, hsh'.out, HALL.out]) hb6 (partS_false kind ws) ho⟩, ?_⟩
                  simp [intOf]; omega
      · obtain rfl : i = l.length := by omega
        have hown := HI.out.own
        rw [List.take_length] at hown
        have hall := HI.out.ok
        rw [List.take_length] at hall
        have hq : (queryS l).size ≤ 70368744177664 := Nat.le_trans (queryS_small l hl HS.out hall) (by omega)
        have hsl : SliceAt 1 strR wr u4 (l.map fun x => bs (partL x)) := slice_of_owns1 (e := 9) (B := w.heap.size) Value.string (by rw [List.length_map, List.map_map]; exact hown) (fun _ _ => rfl)
        have hbl := HI.out.below
        have HALL := Lib.hid hall
        have HBL := Lib.hid hbl
        clear hown hall hbl
        go_wp2_with fail
        refine (join_any _ _ _ hsl (by simp; omega) hq).mono ?_
        rintro e w2 ⟨rfl, hb2⟩
        have HB2 := Lib.hid hb2
        clear hb2 hsl
        show _
        rw [show joinS (l.map fun x => bs (partL x)) = queryS l from rfl]
        by_cases h4 : (queryS l).size ≤ 400
        · have h4' : ¬ ((400 : Int) < ((queryS l).size : Int)) := by omega
          go_wp2
          go_ret2
          exact ⟨_, _, rfl, HBL.out.trans (HB2.out.mono HBL.out.size), .inl ⟨rfl, rfl, h4, hl, HALL.out⟩⟩
        · have h4' : ((400 : Int) < ((queryS l).size : Int)) := by omega
          go_wp2
          go_ret2
          exact ⟨_, _, rfl, HBL.out.trans (HB2.out.mono HBL.out.size), .inr ⟨by omega, rfl, fun h => h4 h.2.2⟩⟩
  · have hl' : ((20 : Int) < (l.length : Int)) := by omega
    go_enter Try.func7, Try.ntmps7
    go_wp2_with fail
    go_ret2
    exact ⟨_, _, rfl, (Below.refl _ _).alloc (Nat.le_refl _) _, .inr ⟨by omega, rfl, fun h => hl h.1⟩⟩

end Go.Proofs.Ytogfekjopelfbaa
