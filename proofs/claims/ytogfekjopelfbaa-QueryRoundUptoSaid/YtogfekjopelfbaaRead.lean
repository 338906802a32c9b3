/- The walk of know.ReadQuery, where it reads a query. -/
import Derived.Test.YtogfekjopelfbaaPart2
import Derived.Test.YtogfekjopelfbaaQText
import Derived.Deep.DeepCutAuto
import Derived.Deep.CutBlock
import Derived.Deep.LoopGhost
namespace Go.Proofs.Ytogfekjopelfbaa
open Go.RowKit

/-- a part that can be read at place p, up to place q -/
def ReadsPart (s : ByteArray) (p q : Nat) (kind : Int) (neg : Bool) (ws : List (List UInt8)) : Prop :=
  ∃ p1 : Nat, nextIs s p 45 = neg ∧ p1 = (if neg then p + 1 else p) ∧
    ((∃ e1 : Nat, nextIs s p1 34 = true ∧ Lib.indexByte (s.data.toList.drop (p1 + 1)) 34 = (e1 : Int) ∧ p1 + 1 + e1 + 1 ≤ s.size ∧ wordsS (s.extract (p1 + 1) (p1 + 1 + e1)) = ws ∧ 0 < ws.length ∧ kind = 1 ∧ q = p1 + 1 + e1 + 1) ∨
     (∃ (n : Nat) (star : Bool), nextIs s p1 34 = false ∧ 1 ≤ n ∧ n ≤ 30 ∧ p1 + n ≤ s.size ∧ RunTo s p1 (p1 + n) ∧ (n = 30 ∨ s.size ≤ p1 + n ∨ ∃ h : p1 + n < s.size, inWordI (s[p1 + n].toNat : Int) = false) ∧ nextIs s (p1 + n) 42 = star ∧
       q = (if star then p1 + n + 1 else p1 + n) ∧ kind = (if star then 2 else 0) ∧ ws = [((s.extract p1 (p1 + n)).data.toList).map lowB]))

theorem nextIs_lt {s : ByteArray} {p : Nat} {c : Int} (h : nextIs s p c = true) : p < s.size := by
  unfold nextIs at h
  split at h
  · rename_i x hx
    obtain ⟨h', _⟩ := List.getElem?_eq_some_iff.1 hx
    simpa using h'
  · cases h

theorem ReadsPart.le {s : ByteArray} {p q : Nat} {kind : Int} {neg : Bool} {ws : List (List UInt8)} (h : ReadsPart s p q kind neg ws) : p < q ∧ q ≤ s.size := by
  obtain ⟨p1, hn, hp1, h⟩ := h
  have h1 : p ≤ p1 := by rw [hp1]; split <;> omega
  rcases h with ⟨e1, _, _, hle, _, _, _, rfl⟩ | ⟨n, star, _, h1', _, hle, _, _, hs, rfl, _, _⟩
  · omega
  · cases star with
    | true => have := nextIs_lt hs; simp; omega
    | false => simp; omega

theorem part_any (b : Nat) (s : ByteArray) (p q : Nat) (kind : Int) (neg : Bool) (ws : List (List UInt8)) (w : World) (hR : Reader w b s p) (hp : p ≤ s.size) (hs : s.size ≤ 1048576) (h : ReadsPart s p q kind neg ws) :
    Calls Try.prog 27 #[.pointer (some ⟨b, 0, none⟩)] w (PartPost b s q kind neg ws w) := by
  obtain ⟨p1, hn, hp1, h⟩ := h
  rcases h with ⟨e1, h1, h2, h3, h4, h5, rfl, rfl⟩ | ⟨n, star, h1, h2, h3, h4, h5, h6, h7, h8, h9, rfl⟩
  · exact part_phrase b s p p1 e1 neg ws w hR hp hs hn hp1 h1 h2 h3 h4 h5
  · exact part_plain b s p p1 n neg star w hR hp hs hn hp1 h1 h2 h3 h4 h5 h6 h7 q kind h8 h9

/-- what can be read from place p to the end -/
def Parses (s : ByteArray) : Nat → List PartD → Prop
  | p, [] => p = s.size
  | p, x :: r => ∃ q ws, ReadsPart s p q x.kind x.neg ws ∧ x.ws = ws.map bs ∧ ((q = s.size ∧ r = []) ∨ (nextIs s q 32 = true ∧ Parses s (q + 1 + blankRun s (q + 1)) r))

/-- a part in memory: its cells, the value of its words -/
structure PartV where
  d : PartD
  v : Value
def PartV.cells (x : PartV) : List Value := [.int .i64 x.d.kind, .bool x.d.neg, x.v]

/-- the parts that have been read -/
structure Acc (w : World) (B : Nat) (pv : Value) (acc : List PartV) : Prop where
  own : w.ownsRow B 61 3 pv acc.length (acc.flatMap PartV.cells)
  words : ∀ x ∈ acc, w.ownsRow B 9 1 x.v x.d.ws.length (x.d.ws.map Value.string)

theorem Acc.nil (w : World) (B : Nat) : Acc w B (.slice none 0 0) [] := ⟨World.ownsRow_nil _ _ _ _, fun x h => by cases h⟩
theorem Acc.kept_has {w w' : World} {B : Nat} {pv : Value} {acc : List PartV} (h : Acc w B pv acc) {b : Nat} {cs : Array Value} {t : TypeId} (hb : Has w b cs t) (h1 : t ≠ 61) (h2 : t ≠ 9) (hg : w.grownBy w' (some b)) : Acc w' B pv acc :=
  ⟨owns_kept_has h.own hb h1 hg, fun x hx => owns_kept_has (h.words x hx) hb h2 hg⟩
theorem Acc.below {w w' : World} {B : Nat} {pv : Value} {acc : List PartV} (h : Acc w B pv acc) (hb : Below w.heap.size w w') : Acc w' B pv acc :=
  ⟨owns_below h.own hb, fun x hx => owns_below (h.words x hx) hb⟩
theorem Acc.slice {w : World} {B : Nat} {pv : Value} {acc : List PartV} (h : Acc w B pv acc) : SliceAt 3 PartR w pv (acc.map PartV.d) := by
  have hs : SliceAt 3 (fun w cs (x : PartV) => PartR w cs x.d) w pv acc :=
    slice_of_owns PartV.cells h.own (fun _ _ => rfl) (fun x hx => ⟨x.v, rfl, slice_of_owns1 Value.string (h.words x hx) (fun _ _ => rfl)⟩)
  rcases hs with ⟨a, cap, rfl, rfl⟩ | ⟨b, off, cap, rfl, hc, hb, h⟩
  · exact .inl ⟨a, cap, rfl, rfl⟩
  · refine .inr ⟨b, off, cap, by simp, by simpa using hc, hb, fun i hi => ?_⟩
    obtain ⟨cs, h1, h2⟩ := h i (by simpa using hi)
    exact ⟨cs, h1, by simpa using h2⟩

theorem infoPart : (Try.prog.info? 61).map (fun i => (i.zero, i.size, i.bytes)) = some (some (.agg #[.int .i64 0, .bool false, .slice none 0 0]), 3, 40) := by kernel_rfl

def RQPost (l : List PartD) (w : World) (e : Ending) (w' : World) : Prop :=
  ∃ v, e = .returned (.tuple #[.agg #[v], .int .i64 0, .int .i64 0]) ∧ Below w.heap.size w w' ∧ SliceAt 3 PartR w' v l

/-- at the head of a round of ReadQuery -/
structure RQInv (l : List PartD) (s : ByteArray) (w wr : World) (p : Nat) (pv : Value) (acc : List PartV) (rest : List PartD) : Prop where
  reader : Reader wr (w.heap.size + 1) s p
  query : Has wr (w.heap.size + 2) #[pv] 24
  res : Has wr w.heap.size #[.slice none 0 0] 24
  below : Below w.heap.size w wr
  got : Acc wr w.heap.size pv acc
  parses : Parses s p rest
  all : acc.map PartV.d ++ rest = l
  le : p ≤ s.size

/-- behind the append of a part -/
structure Step3 (B : Nat) (s : ByteArray) (q : Nat) (w w2 w3 : World) (pv : Value) (acc : List PartV) (x : PartD) (wv pv' : Value) : Prop where
  query : Has w3 (B + 2) #[pv] 24
  res : Has w3 B #[.slice none 0 0] 24
  reader : Reader w3 (B + 1) s q
  got : Acc w3 B pv' (acc ++ [⟨x, wv⟩])
  below : Below B w w3

theorem Step3.of {B : Nat} {s : ByteArray} {q : Nat} {w w2 w3 : World} {pv : Value} {acc : List PartV} {x : PartD} {wv pv' : Value} {o : Obj} (hq : Has w2 (B + 2) #[pv] 24) (hr : Has w2 B #[.slice none 0 0] 24)
    (ha : Acc w2 B pv acc) (hw : w2.ownsRow B 9 1 wv x.ws.length (x.ws.map Value.string)) (hrd : Reader w2 (B + 1) s q)
    (ho : w3.ownsRow B 61 3 pv' (acc.length + 1) (acc.flatMap PartV.cells ++ [.int .i64 x.kind, .bool x.neg, wv])) (hb : Below B w w3) (hg : (w2.alloc o).grownBy w3 pv.ownBlock) :
    Step3 B s q w w2 w3 pv acc x wv pv' where
  query := (hq.alloc _).kept_own (ha.own.alloc _) (by decide) hg
  res := (hr.alloc _).kept_own (ha.own.alloc _) (by decide) hg
  reader := Has.kept_own (Has.alloc hrd _) (ha.own.alloc _) (by decide) hg
  got := ⟨by simpa [PartV.cells] using ho, fun y hy => by
    rw [List.mem_append, List.mem_singleton] at hy
    rcases hy with hy | rfl
    · exact owns_kept_own ((ha.words y hy).alloc _) (ha.own.alloc _) (by decide) hg
    · exact owns_kept_own (hw.alloc _) (ha.own.alloc _) (by decide) hg⟩
  below := hb

theorem Step3.facts {B : Nat} {s : ByteArray} {q : Nat} {w w2 w3 : World} {pv : Value} {acc : List PartV} {x : PartD} {wv pv' : Value} (h : Step3 B s q w w2 w3 pv acc x wv pv') :
    w3.cell? ⟨B + 2, 0, none⟩ = some pv ∧ w3.frozen? ⟨B + 2, 0, none⟩ = false ∧ w3.cell? ⟨B + 1, 0, none⟩ = some (.string s) ∧ w3.cell? ⟨B + 1, 1, none⟩ = some (.int .i64 (q : Nat)) :=
  ⟨h.query.cell 0, h.query.fz 0, h.reader.cells.1, h.reader.cells.2.1⟩

theorem Step3.next {l : List PartD} {s : ByteArray} {p q q' : Nat} {w wr w2 w3 wx : World} {pv : Value} {acc : List PartV} {x : PartD} {rest : List PartD} {wv pv' : Value} (h : Step3 w.heap.size s q w w2 w3 pv acc x wv pv')
    (hI : RQInv l s w wr p pv acc (x :: rest)) (hm : Moved (w.heap.size + 1) s q' (w3.setCell ⟨w.heap.size + 2, 0, none⟩ pv') wx) (hp : Parses s q' rest) (hq : q' ≤ s.size) : RQInv l s w wx q' pv' (acc ++ [⟨x, wv⟩]) rest where
  reader := hm.reader
  query := (h.query.set 0 _).kept hm.grown (by simp)
  res := (h.res.set_other _ _ (by omega)).kept hm.grown (by simp)
  below := below_grown (h.below.setCell (by simp) _) hm.grown (by rw [World.size_setCell]; exact h.below.size) (by omega)
  got := (h.got.kept_has h.query (by decide) (by decide) (grownBy_set _ _ _ _)).kept_has (Has.set_other h.reader _ _ (by omega)) (by decide) (by decide) hm.grown
  parses := hp
  all := by rw [← hI.all]; simp
  le := hq

theorem Step3.done {l : List PartD} {s : ByteArray} {p q : Nat} {w wr w2 w3 : World} {pv : Value} {acc : List PartV} {x : PartD} {rest : List PartD} {wv pv' : Value} (h : Step3 w.heap.size s q w w2 w3 pv acc x wv pv')
    (hI : RQInv l s w wr p pv acc (x :: rest)) (hq : q = s.size) (hr : rest = []) : RQInv l s w (w3.setCell ⟨w.heap.size + 2, 0, none⟩ pv') q pv' (acc ++ [⟨x, wv⟩]) [] :=
  h.next (rest := []) (by rw [← hr]; exact hI) ⟨Has.set_other h.reader _ _ (by omega), grownBy_refl _ _⟩ hq (by omega)

set_option maxRecDepth 100000 in
set_option maxHeartbeats 2000000 in
theorem ReadQuery_ok (s : ByteArray) (l : List PartD) (w : World) (hs : s.size ≤ 400) (hl : l.length ≤ 20) (h : Parses s (blankRun s 0) l) :
    Calls Try.prog 8 #[.string s] w (RQPost l w) := by
  have HP := Lib.hid h
  clear h
  have hs' : ¬ ((400 : Int) < (s.size : Int)) := by omega
  go_enter Try.func8, Try.ntmps8
  go_wp2_with fail
  refine (blanks_any (w.heap.size + 1) s 0 _ ?_ (by omega) (by omega)).mono ?_
  · have := Has.alloc (Has.new (w.alloc (.cells #[.slice none 0 0] 24)) #[.string s, .int .i64 ((0 : Nat) : Int)] 66) (.cells #[.slice none 0 0] 24)
    rw [World.size_alloc] at this
    exact this
  rintro e w1 ⟨rfl, hm⟩
  rw [Nat.zero_add] at hm
  have hq1 : Has w1 (w.heap.size + 2) #[.slice none 0 0] 24 := by
    have := Has.new ((w.alloc (.cells #[.slice none 0 0] 24)).alloc (.cells #[.string s, .int .i64 0] 66)) #[.slice none 0 0] 24
    rw [World.size_alloc, World.size_alloc] at this
    exact this.kept hm.grown (by simp)
  have hr1 : Has w1 w.heap.size #[.slice none 0 0] 24 := (((Has.new _ _ _).alloc _).alloc _).kept hm.grown (by simp)
  have hb1 : Below w.heap.size w w1 := below_grown ((((Below.refl _ _).alloc (Nat.le_refl _) _).alloc (by simp) _).alloc (by simp; omega) _) hm.grown (by simp; omega) (by omega)
  have hp0 : blankRun s 0 ≤ s.size := by have := blankRun_le s 0 (by omega); omega
  have HI0 : Hid (RQInv l s w w1 (blankRun s 0) (.slice none 0 0) [] l) := ⟨hm.reader, hq1, hr1, hb1, Acc.nil _ _, HP.out, rfl, hp0⟩
  clear hq1 hr1 hb1 hm
  go_upto_block 0 with fail
  go_cut [] (fun wx => ∃ p pv acc, RQInv l s w wx p pv acc [])
  case first =>
    go_wp2_with fail
    go_loopg [] (s.size + 1 - blankRun s 0) (fun g wr => ∃ p pv acc rest, g = s.size + 1 - p ∧ RQInv l s w wr p pv acc rest)
    case atStart => exact ⟨_, _, _, _, rfl, HI0.out⟩
    case round =>
      obtain ⟨p, pv, acc, rest, rfl, hI⟩ := hrel
      have HI := Lib.hid hI
      obtain ⟨c0, c1, f1⟩ := hI.reader.cells
      have hple := hI.le
      clear hI HI0
      cases rest with
      | nil =>
        have hp : p = s.size := HI.out.parses
        subst hp
        go_wp2_with fail
        go_meet
        exact ⟨_, _, _, HI.out⟩
      | cons x rest =>
        obtain ⟨q, ws, hrp, hws, hnext⟩ := HI.out.parses
        have hlt := hrp.le
        have HRP := Lib.hid hrp
        have HWS := Lib.hid hws
        have HNX := Lib.hid hnext
        clear hrp hws hnext
        go_wp2_with fail
        refine (part_any (w.heap.size + 1) s p q x.kind x.neg ws _ HI.out.reader hple (by omega) HRP.out).mono ?_
        rintro e w2 ⟨pw, rfl, hrd2, hg2, how2⟩
        have hI := HI.out
        have hne : w.heap.size + 1 ≠ w.heap.size + 2 := by omega
        have hq2 : Has w2 (w.heap.size + 2) #[pv] 24 := hI.query.kept hg2 (by simp)
        have hr2 : Has w2 w.heap.size #[.slice none 0 0] 24 := hI.res.kept hg2 (by simp)
        have ha2 : Acc w2 w.heap.size pv acc := hI.got.kept_has hI.reader (by decide) (by decide) hg2
        have hb2 : Below w.heap.size w w2 := below_grown hI.below hg2 (hI.below.size) (by omega)
        obtain ⟨av, cv, rfl⟩ := owns_slice how2
        obtain ⟨ap, cp, rfl⟩ := owns_slice ha2.own
        have hacc : acc.length ≤ 20 := by
          have := congrArg List.length hI.all
          simp at this
          omega
        have hw2 : w2.ownsRow w.heap.size 9 1 (.slice av ws.length cv) x.ws.length (x.ws.map Value.string) := by
          rw [HWS.out, List.length_map, List.map_map]
          exact owns_base how2 hI.below.size
        have hlen : x.ws.length = ws.length := by rw [HWS.out, List.length_map]
        have k0 := hq2.cell 0
        have z0 := hq2.fz 0
        have hlt2 : w.heap.size + 2 < w2.heap.size := hq2.lt
        have HQ2 := Lib.hid hq2
        have HR2 := Lib.hid hr2
        have HA2 := Lib.hid ha2
        have HB2 := Lib.hid hb2
        have HW2 := Lib.hid hw2
        have HRd2 := Lib.hid hrd2
        clear hI hq2 hr2 ha2 hb2 hw2 hrd2 how2 hg2 hlen
        have hB2 : w.heap.size ≤ w2.heap.size := HB2.out.size
        rcases HNX.out with ⟨hqe, hre⟩ | ⟨hbl, hpar⟩
        · have hqs : ((q : Int) == (s.size : Int)) = true := beq_iff_eq.2 (by omega)
          have HQE := Lib.hid hqe
          have HRE := Lib.hid hre
          clear hqe hre
          go_wp2_with (at_builtin; go_must (refine append_one_at rfl _ _ 22 rfl w.heap.size 61 (.agg #[.int .i64 0, .bool false, .slice none 0 0]) 3 40 Try.underlying22 infoPart rfl (by decide) w (w2.alloc (.cells #[.int .i64 x.kind, .bool x.neg, .slice av ws.length cv] 61)) _ _ _ rfl (HA2.out.own.alloc _) (w2.heap.size + 1) (by simp) _ rfl rfl rfl (by simp [Value.oneCell']) (by omega) (by omega) (by simp; omega) (HB2.out.alloc hB2 _) ?_); intro v' w3 ho3 hb3 hg3 _; obtain ⟨sa, sc, rfl⟩ := owns_slice ho3; have HS3 : Hid (Step3 w.heap.size s q w w2 w3 _ acc x (.slice av ws.length cv) (.slice sa (acc.length + 1) sc)) := Step3.of HQ2.out HR2.out HA2.out HW2.out HRd2.out ho3 hb3 hg3; obtain ⟨k3, z3, u0, u1⟩ := HS3.out.facts; clear ho3 hb3 hg3)
          go_meet
          exact ⟨_, _, _, HS3.out.done HI.out HQE.out HRE.out⟩
        · have hql : q < s.size := nextIs_lt hbl
          have hqs : ((q : Int) == (s.size : Int)) = false := beq_eq_false_iff_ne.2 (by omega)
          have HBl := Lib.hid hbl
          have HPar := Lib.hid hpar
          clear hbl hpar
          go_wp2_with (at_builtin; go_must (refine append_one_at rfl _ _ 22 rfl w.heap.size 61 (.agg #[.int .i64 0, .bool false, .slice none 0 0]) 3 40 Try.underlying22 infoPart rfl (by decide) w (w2.alloc (.cells #[.int .i64 x.kind, .bool x.neg, .slice av ws.length cv] 61)) _ _ _ rfl (HA2.out.own.alloc _) (w2.heap.size + 1) (by simp) _ rfl rfl rfl (by simp [Value.oneCell']) (by omega) (by omega) (by simp; omega) (HB2.out.alloc hB2 _) ?_); intro v' w3 ho3 hb3 hg3 _; obtain ⟨sa, sc, rfl⟩ := owns_slice ho3; have HS3 : Hid (Step3 w.heap.size s q w w2 w3 _ acc x (.slice av ws.length cv) (.slice sa (acc.length + 1) sc)) := Step3.of HQ2.out HR2.out HA2.out HW2.out HRd2.out ho3 hb3 hg3; obtain ⟨k3, z3, u0, u1⟩ := HS3.out.facts; clear ho3 hb3 hg3)
          refine (is_any (w.heap.size + 1) s q 32 _ (Has.set_other HS3.out.reader _ _ (by omega)) (by omega) (by omega)).mono ?_
          rintro e w5 ⟨rfl, hm⟩
          rw [HBl.out] at hm
          rw [HBl.out]
          simp only [if_true] at hm
          go_wp2_with fail
          refine (blanks_any (w.heap.size + 1) s (q + 1) _ hm.reader (by omega) (by omega)).mono ?_
          rintro e w6 ⟨rfl, hm6⟩
          have HM6 := Lib.hid (hm.trans hm6)
          have hbr := blankRun_le s (q + 1) (by omega)
          clear hm hm6
          go_wp2_with fail
          go_roundg (s.size + 1 - (q + 1 + blankRun s (q + 1)))
          case measure => omega
          case rel => exact ⟨_, _, _, _, rfl, HS3.out.next HI.out HM6.out HPar.out (by omega)⟩
  case rest =>
    obtain ⟨p, pv, acc, hI⟩ := hcut
    obtain ⟨ap, cp, rfl⟩ := owns_slice hI.got.own
    have hacc : acc.length ≤ 20 := by
      have := congrArg List.length hI.all
      simp at this
      omega
    have k0 := hI.query.cell 0
    have r0 := hI.res.cell 0
    have v0 := hI.res.fz 0
    have HI := Lib.hid hI
    clear hI HI0
    go_wp2_with fail
    refine bodyPost_ret (v := .tuple #[.agg #[.slice ap acc.length cp], .int .i64 0, .int .i64 0]) (by simp [results, Try.results8, go_sem, k0, r0, v0]) rfl ?_
    refine ⟨_, rfl, HI.out.below.setCell (Nat.le_refl _) _, ?_⟩
    have ha : acc.map PartV.d = l := by
      have := HI.out.all
      rwa [List.append_nil] at this
    rw [← ha]
    exact (HI.out.got.kept_has HI.out.res (by decide) (by decide) (grownBy_set _ _ _ _)).slice

end Go.Proofs.Ytogfekjopelfbaa
