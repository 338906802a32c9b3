/- Tools of the walks, in a seat of calendars. -/
import Derived.Test.YtemikhnkjligdaaGreatDoorRows
import Derived.Test.YtemikhnkjligdaaGreatDoorQCalChk
import Derived.BigQuiet
import Derived.Deep.QuietTactic
import Derived.Deep.DeepCutAuto
import Derived.Deep.CutBlock
import Derived.Deep.LoopGhost
import Derived.Deep.RegionHeld3
import Derived.Laws.ResultCell
import Derived.OwnWalk
import Derived.Test.YtemikhnkjligdaaGreatDoorQNum
import Derived.Lib.Builder
import Derived.Lib.AppendStr
import Derived.Laws.Externs
import Derived.Test.YtemikhnkjligdaaGreatDoorShelf
import Derived.Lib.AppendIntMem
import Derived.WalkSmall
namespace Go.Proofs.YtemikhnkjligdaaGreatDoor
open Go.RowKit

theorem infoInt : (Tryz.prog.info? 3).map (fun i => (i.zero, i.size, i.bytes)) = some (some (.int .i64 0), 1, 8) := by kernel_rfl
end Go.Proofs.YtemikhnkjligdaaGreatDoor

/- What the walks of texts stand on, in a seat without calendars. -/
namespace Go.Proofs.YtemikhnkjligdaaGreatDoor
open Go.RowKit
end Go.Proofs.YtemikhnkjligdaaGreatDoor

/- Contracts of strings.Builder's copyCheck and WriteString, walked in this program's own text: what they write, and that blocks which are neither the builder nor bytes stay. -/
namespace Go.Proofs.YtemikhnkjligdaaGreatDoor
open Go.RowKit

/-- whatever is neither the builder's block nor a row of bytes stays -/
structure KeepsU (B : Nat) (w w' : World) : Prop where
  size : w.heap.size ≤ w'.heap.size
  same : ∀ k cs t fr, w.heap[k]? = some (.cells cs t fr) → t ≠ 5 → k ≠ B → w'.heap[k]? = some (.cells cs t fr)
theorem KeepsU.refl (B : Nat) (w : World) : KeepsU B w w := ⟨Nat.le_refl _, fun _ _ _ _ h _ _ => h⟩
theorem KeepsU.trans {B : Nat} {a b c : World} (h : KeepsU B a b) (k : KeepsU B b c) : KeepsU B a c := ⟨Nat.le_trans h.size k.size, fun i cs t fr h1 h2 h3 => k.same i cs t fr (h.same i cs t fr h1 h2 h3) h2 h3⟩
theorem KeepsU.of_below {B : Nat} {w w' : World} (h : Below w.heap.size w w') : KeepsU B w w' := ⟨h.size, fun k _ _ _ h1 _ _ => (h.block k (Array.getElem?_eq_some_iff.1 h1).1).trans h1⟩
theorem KeepsU.set {B i : Nat} (w : World) (v : Value) : KeepsU B w (w.setCell ⟨B, i, none⟩ v) := ⟨by simp [World.setCell], fun k _ _ _ h1 _ h3 => (Below.heap_setCell _ _ _ _ h3).trans h1⟩
theorem KeepsU.row {B : Nat} {w w' : World} {base sz n : Nat} {v : Value} {xs : List Value} (ho : w.ownsRow base 5 sz v n xs) (hg : w.grownBy w' v.ownBlock) : KeepsU B w w' := by
  refine ⟨hg.size, fun k cs t fr h1 h2 _ => (hg.block k (Array.getElem?_eq_some_iff.1 h1).1 (fun e => ?_)).trans h1⟩
  rcases ho.2 with ⟨rfl, _⟩ | ⟨g, cap, cur, rfl, _, hb, _⟩
  · cases e
  · have e2 : k = g := by simpa [Value.ownBlock] using e
    subst e2
    rw [h1] at hb
    cases hb
    exact h2 rfl
theorem Has.keepsU {B : Nat} {w w' : World} {b : Nat} {cs : Array Value} {t : TypeId} (h : Has w b cs t) (hk : KeepsU B w w') (ht : t ≠ 5) (hb : b ≠ B) : Has w' b cs t := hk.same b cs t (0, 0) h ht hb

theorem byteInfo : (Tryz.prog.info? 5).map (fun i => (i.zero, i.size, i.bytes)) = some (some (.int .u8 0), 1, 1) := by kernel_rfl

end Go.Proofs.YtemikhnkjligdaaGreatDoor

/- The walks of cal's numbers: Itoa, number, at the numerals that are written. -/
namespace Go.Proofs.YtemikhnkjligdaaGreatDoor
open Go.RowKit

def bs (l : List UInt8) : ByteArray := ⟨l.toArray⟩
theorem bs_data (l : List UInt8) : (bs l).data.toList = l := rfl
theorem bs_size (l : List UInt8) : (bs l).size = l.length := by simp [bs, ByteArray.size]
theorem bs_inj {a b : ByteArray} (h : a.data.toList = b.data.toList) : a = b := by
  cases a; cases b
  simp only at h
  congr 1
  exact Array.toList_inj.1 h
theorem bs_append (a b : List UInt8) : bs a ++ bs b = bs (a ++ b) := bs_inj (by simp [bs])

/-- what the library's own variables hold -/
structure Env (w : World) : Prop where
  ml : ∃ m, w.cell? ⟨0, 0, none⟩ = some (.int .i64 m)
  tab : Lib.TabIs Tryz.prog w "internal/strconv.uint64pow10" .u64 Lib.pow10Tab
theorem Env.below {w w' : World} (h : Env w) (hb : Below w.heap.size w w') : Env w' := by
  obtain ⟨m, hm⟩ := h.ml
  refine ⟨⟨m, (below_cell hb (World.block_lt_of_cell? w _ hm)).trans hm⟩, ?_⟩
  have hg : Tryz.prog.globalNamed "internal/strconv.uint64pow10" = some 5 := by kernel_rfl
  have ht := h.tab
  have hlt : 5 < w.heap.size := by
    unfold Lib.TabIs World.var? at ht
    rw [hg] at ht
    simp only [Option.bind_some] at ht
    rcases Nat.lt_or_ge 5 w.heap.size with h' | h'
    · exact h'
    · rw [Array.getElem?_eq_none h'] at ht; simp at ht
  exact var?_below hb hg hlt ht

theorem itoa_any (n : Int) (h0 : -9223372036854775808 ≤ n) (h1 : n ≤ 9223372036854775807) (w : World) (hE : Env w) :
    Calls Tryz.prog 66 #[.int .i64 n] w fun e w' => e = .returned (.string (bs (Lib.itoa n))) ∧ Below w.heap.size w w' :=
  (Tryz.strconv_Itoa n h0 h1 w hE.tab).mono fun _ _ ⟨h, k, os, hw⟩ => ⟨h, by rw [hw]; exact Lib.below_grow _ _ (Nat.le_refl _) _ _⟩
theorem trim_any (l : List UInt8) (w : World) :
    Calls Tryz.prog 67 #[.string (bs l), .string ⟨#[45]⟩] w fun e w' => e = .returned (.string (bs (Lib.trimPrefix l [45]))) ∧ w = w' :=
  (Tryz.strings_TrimPrefix (bs l) ⟨#[45]⟩ w).mono fun _ _ ⟨h, hw⟩ => ⟨h, hw.symm⟩
theorem atoi_any (n : Int) (hl : (Lib.itoa n).length ≤ 18) (w : World) :
    Calls Tryz.prog 65 #[.string (bs (Lib.itoa n))] w fun e w' => e = .returned (.tuple #[.int .i64 n, .nilIface]) ∧ Below w.heap.size w w' :=
  (Tryz.strconv_Atoi (bs (Lib.itoa n)) n (by rw [bs_size]; exact hl) (atoi_itoa n) w).mono fun _ _ ⟨h, t, hw⟩ => ⟨h, by rw [hw]; exact below_bytesWorld _ _ _⟩
theorem strcut_any (l : List UInt8) (c : UInt8) (hl : l.length < 4294967281) (w : World) (hE : Env w) :
    Calls Tryz.prog 25 #[.string (bs l), .string ⟨#[c]⟩] w fun e w' => e = .returned (.tuple #[.string (bs (Lib.cut l [c]).1), .string (bs (Lib.cut l [c]).2.1), .bool (Lib.cut l [c]).2.2]) ∧ Below w.heap.size w w' := by
  obtain ⟨m, hm⟩ := hE.ml
  exact (Tryz.strings_Cut (bs l) ⟨#[c]⟩ m w (by rw [bs_size]; exact hl) hm).mono fun _ _ ⟨h, n, hw⟩ => ⟨h, by rw [hw]; exact drewN_below (Below.refl _ _) n⟩

end Go.Proofs.YtemikhnkjligdaaGreatDoor

/- A builder that holds bytes, as cal's texts use it. -/
namespace Go.Proofs.YtemikhnkjligdaaGreatDoor
open Go.RowKit

/-- a slice of ints in a block of its own type -/
def NumsAt (w : World) (v : Value) (ns : List Int) : Prop := ∃ X c cells fr, v = .slice (some ⟨X, 0, none⟩) ns.length c ∧ w.heap[X]? = some (.cells cells 3 fr) ∧ ∀ i (h : i < ns.length), cells[i]? = some (.int .i64 ns[i])
theorem NumsAt.cell {w : World} {X c : Nat} {ns : List Int} (h : NumsAt w (.slice (some ⟨X, 0, none⟩) ns.length c) ns) (i : Nat) (hi : i < ns.length) : w.cell? ⟨X, i, none⟩ = some (.int .i64 ns[i]) := by
  obtain ⟨X', c', cells, fr, hv, hx, hc⟩ := h
  cases hv
  simp [World.cell?, hx, hc i hi]

end Go.Proofs.YtemikhnkjligdaaGreatDoor

/- The walks of route's checks of people, and of its reader of a number. -/
namespace Go.Proofs.YtemikhnkjligdaaGreatDoor
open Go.RowKit

theorem rwithin_any (n lo hi : Int) (w : World) :
    Calls Tryz.prog 28 #[.int .i64 n, .int .i64 lo, .int .i64 hi] w fun e w' => e = .returned (.bool (decide (lo ≤ n) && decide (n ≤ hi))) ∧ w = w' := by
  go_enter Tryz.func28, Tryz.ntmps28
  go_wp2
  all_goals go_ret
  all_goals (refine ⟨ret_bool ?_, rfl⟩; simp; try omega)

theorem nm_false {s : ByteArray} {i : Nat} (hi : i < s.size) (h : nmB s[i] = false) : nm s = false := by
  have hm : s[i] ∈ s.data.toList := by
    have : s[i] = s.data.toList[i]'(by rw [Array.length_toList]; exact hi) := rfl
    rw [this]
    exact List.getElem_mem _
  have ha : s.data.toList.all nmB = false := by
    rw [List.all_eq_false]
    exact ⟨_, hm, by rw [h]; decide⟩
  unfold nm
  rw [ha]
  rfl
theorem all_next {s : ByteArray} {i : Nat} (hi : i < s.size) (h : (s.data.toList.take i).all nmB = true) (hx : nmB s[i] = true) : (s.data.toList.take (i + 1)).all nmB = true := by
  have hl : i < s.data.toList.length := by rw [Array.length_toList]; exact hi
  have e : s[i] = s.data.toList[i]'hl := rfl
  rw [List.take_succ_eq_append_getElem hl, List.all_append, h, ← e, List.all_cons, hx]
  rfl
theorem nmB_int (c : UInt8) : nmB c = ((decide ((97 : Int) ≤ (c.toNat : Int)) && decide ((c.toNat : Int) ≤ 122)) || (decide ((48 : Int) ≤ (c.toNat : Int)) && decide ((c.toNat : Int) ≤ 57)) || decide ((c.toNat : Int) = 95)) := by
  unfold nmB
  congr 1
  · congr 1
    · congr 1
      · exact decide_eq_decide.2 (by omega)
      · exact decide_eq_decide.2 (by omega)
    · congr 1
      · exact decide_eq_decide.2 (by omega)
      · exact decide_eq_decide.2 (by omega)
  · exact decide_eq_decide.2 (by omega)

set_option maxRecDepth 100000 in
set_option maxHeartbeats 2000000 in
theorem name_any (s : ByteArray) (hs : s.size ≤ 9223372036854775807) (w : World) :
    Calls Tryz.prog 52 #[.string s] w fun e w' => e = .returned (.bool (nm s)) ∧ w = w' := by
  go_enter Tryz.func52, Tryz.ntmps52
  go_wp2_with fail
  go_loopw [7] (fun iv wr => ∃ i : Nat, iv = .int .i64 ((i : Nat) : Int) ∧ i ≤ s.size ∧ (s.data.toList.take i).all nmB = true ∧ wr = w) (fun iv _ => s.size - (intOf iv).toNat)
  case atStart => exact ⟨0, rfl, Nat.zero_le _, rfl, rfl⟩
  case round =>
    obtain ⟨i, rfl, hi, hall, rfl⟩ := hrel
    by_cases hlt : i < s.size
    · have HNF := Lib.hid (fun h => nm_false (s := s) hlt h)
      have HNX := Lib.hid (fun h => all_next hlt hall h)
      go_upto_region 5 with fail
      have HNI := Lib.hid (nmB_int s[i])
      generalize s[i] = c at *
      have hc0 : 0 ≤ (c.toNat : Int) := by omega
      generalize (c.toNat : Int) = n at *
      go_cut [32] (fun v wx => v = .bool (!nmB c) ∧ wx = wr)
      case first =>
        clear HNF HNX hall
        go_wp2_with fail
        all_goals go_meet
        all_goals (refine ⟨?_, rfl⟩; rw [HNI.out]; congr 1; rw [Bool.eq_iff_iff]; simp; omega)
      case rest =>
        obtain ⟨rfl, rfl⟩ := hcut
        cases hb : nmB c with
        | true =>
          have HNX2 := Lib.hid (HNX.out hb)
          clear HNI HNF HNX hall hb
          go_wp2_with fail
          go_roundw
          case rel => exact ⟨i + 1, by go_num, hlt, HNX2.out, by trivial⟩
          case measure => simp [intOf]; omega
        | false =>
          have HNX2 := Lib.hid (HNF.out hb)
          clear HNI HNF HNX hall hb
          go_wp2_with fail
          go_ret
          exact ⟨by rw [HNX2.out]; rfl, rfl⟩
    · obtain rfl : i = s.size := by omega
      have hfull : s.data.toList.all nmB = true := by
        rw [List.take_of_length_le (by rw [Array.length_toList]; exact Nat.le_refl _)] at hall
        exact hall
      have HN := Lib.hid (show nm s = (decide (s.size ≠ 0) && decide (s.size ≤ 20)) by unfold nm; rw [hfull]; rfl)
      clear hall hfull
      cases hz : s.toList.isEmpty with
      | true =>
        have h0 : s.size = 0 := by
          rw [ByteArray.toList_eq, List.isEmpty_iff] at hz
          have := congrArg List.length hz
          rw [Array.length_toList] at this
          exact this
        go_wp2_with fail
        go_ret
        exact ⟨by rw [HN.out, h0]; rfl, rfl⟩
      | false =>
        have h0 : s.size ≠ 0 := by
          intro h0
          have : s.toList = [] := by
            rw [ByteArray.toList_eq]
            exact List.eq_nil_of_length_eq_zero (by rw [Array.length_toList]; exact h0)
          rw [this] at hz
          cases hz
        have H0 := Lib.hid h0
        clear h0
        go_wp2_with fail
        go_ret
        exact ⟨by rw [HN.out, decide_eq_true H0.out]; simp; omega, rfl⟩

def sklR (_ : World) (cs : List Value) (x : Skl) : Prop := cs = [.string x.1, .int .i64 x.2] ∧ x.1.size ≤ 9223372036854775807
theorem sklR_stable : Stable sklR := fun _ _ _ _ h _ => h
def Skls (w : World) (v : Value) (l : List Skl) : Prop := SliceAt 2 sklR w v l
theorem Skls.below {w w' : World} {v : Value} {l : List Skl} (h : Skls w v l) (hb : Below w.heap.size w w') : Skls w' v l := SliceAt.stable sklR_stable h hb
theorem Skls.at {w : World} {v : Value} {l : List Skl} (h : Skls w v l) (hl : 0 < l.length) : ∃ b off cap, v = .slice (some ⟨b, off, none⟩) l.length cap ∧ b < w.heap.size ∧
    ∀ i (hi : i < l.length), w.cell? ⟨b, off + i * 2, none⟩ = some (.string l[i].1) ∧ w.cell? ⟨b, off + i * 2 + 1, none⟩ = some (.int .i64 l[i].2) ∧ l[i].1.size ≤ 9223372036854775807 := by
  obtain ⟨b, off, cap, hv, hc, hb, hel⟩ := SliceAt.at h hl
  refine ⟨b, off, cap, hv, hb, fun i hi => ?_⟩
  obtain ⟨cs, ⟨_, h2⟩, hr, hsz⟩ := hel i hi
  cases hr
  exact ⟨h2 0 (by simp), h2 1 (by simp), hsz⟩
def perR (w : World) (cs : List Value) (x : PerD) : Prop := ∃ v, cs = [.int .i64 x.no, .int .i64 x.cap, .int .i64 x.cl, v] ∧ Skls w v x.sk
theorem perR_stable : Stable perR := fun _ _ _ _ ⟨v, h1, h2⟩ hb => ⟨v, h1, h2.below hb⟩
def Pers (w : World) (v : Value) (l : List PerD) : Prop := SliceAt 4 perR w v l
theorem Pers.below {w w' : World} {v : Value} {l : List PerD} (h : Pers w v l) (hb : Below w.heap.size w w') : Pers w' v l := SliceAt.stable perR_stable h hb
theorem Pers.at {w : World} {v : Value} {l : List PerD} (h : Pers w v l) (hl : 0 < l.length) : ∃ b off cap, v = .slice (some ⟨b, off, none⟩) l.length cap ∧ b < w.heap.size ∧
    ∀ i (hi : i < l.length), ∃ u, w.cell? ⟨b, off + i * 4, none⟩ = some (.int .i64 l[i].no) ∧ w.cell? ⟨b, off + i * 4 + 1, none⟩ = some (.int .i64 l[i].cap) ∧ w.cell? ⟨b, off + i * 4 + 2, none⟩ = some (.int .i64 l[i].cl) ∧ w.cell? ⟨b, off + i * 4 + 3, none⟩ = some u ∧ Skls w u l[i].sk := by
  obtain ⟨b, off, cap, hv, hc, hb, hel⟩ := SliceAt.at h hl
  refine ⟨b, off, cap, hv, hb, fun i hi => ?_⟩
  obtain ⟨cs, ⟨_, h2⟩, u, hr, hs⟩ := hel i hi
  cases hr
  exact ⟨u, h2 0 (by simp), h2 1 (by simp), h2 2 (by simp), h2 3 (by simp), hs⟩

/-- not above, as Go compares strings -/
def leS (x y : ByteArray) : Bool := Op.bytesLess x.toList y.toList || x.toList == y.toList
def SkOne (s : Skl) : Prop := nm s.1 = true ∧ 1 ≤ s.2 ∧ s.2 ≤ 9
def SkRise (a b : Skl) : Prop := leS b.1 a.1 = false
def SkFine (l : List Skl) : Prop := l.length ≤ 12 ∧ Lst SkOne SkRise l
structure SkInv (l : List Skl) (w wr : World) (i : Nat) : Prop where
  le : i ≤ l.length
  fine : Lst SkOne SkRise (l.take i)
  below : Below w.heap.size w wr

set_option maxRecDepth 100000 in
set_option maxHeartbeats 4000000 in
theorem checkSkills_any (l : List Skl) (v : Value) (w : World) (h : Skls w v l) :
    Calls Tryz.prog 32 #[v] w fun e w' => (∃ k, e = .returned (.int .i64 k) ∧ (k = 0 ↔ SkFine l)) ∧ Below w.heap.size w w' := by
  obtain ⟨a, cap, rfl⟩ := SliceAt.len h
  have H := Lib.hid h
  clear h
  go_enter Tryz.func32, Tryz.ntmps32
  by_cases hl : 12 < l.length
  · have q1 : decide ((12 : Int) < (l.length : Int)) = true := decide_eq_true (by omega)
    have HL := Lib.hid hl
    clear hl
    go_wp2_with fail
    go_ret
    exact ⟨⟨_, rfl, ⟨fun g => absurd g (by decide), fun g => absurd g.1 (by have := HL.out; omega)⟩⟩, Below.refl _ _⟩
  have q1 : decide ((12 : Int) < (l.length : Int)) = false := decide_eq_false (by omega)
  have hl12 : l.length ≤ 12 := by omega
  clear hl
  go_wp2_with fail
  go_loopw [10] (fun iv wr => ∃ i : Nat, iv = .int .i64 ((i : Nat) : Int) ∧ SkInv l w wr i) (fun iv _ => l.length - (intOf iv).toNat)
  case atStart => exact ⟨0, rfl, Nat.zero_le _, by rw [List.take_zero]; exact Lst.nil, Below.refl _ _⟩
  case round =>
    obtain ⟨i, rfl, hI⟩ := hrel
    have HI := Lib.hid hI
    have hi := hI.le
    clear hI
    by_cases hlt : i < l.length
    · obtain ⟨b, of', cap', hv, hb, hel⟩ := Skls.at H.out (by omega)
      cases hv
      obtain ⟨e0, e1, hsz⟩ := hel i hlt
      have c0 := (below_cell HI.out.below hb).trans e0
      have c1 := (below_cell HI.out.below hb).trans e1
      have HP := Lib.hid (fun hp : 0 < i => hel (i - 1) (by omega))
      have HNX := Lib.hid (fun hx ho => Lst.next HI.out.fine hlt hx ho)
      have HNO := Lib.hid (show SkFine l → SkOne l[i] from fun g => g.2.each i hlt)
      have HNB := Lib.hid (show SkFine l → ∀ hp : 0 < i, SkRise (l[i - 1]'(by omega)) l[i] from fun g hp => g.2.before hlt hp)
      generalize l[i] = s at *
      obtain ⟨x1, x2⟩ := s
      simp only at c0 c1 hsz
      clear e0 e1 hel
      have HSZ := Lib.hid hsz
      clear hsz
      go_upto_region 6 with fail
      obtain ⟨bx, bbl⟩ := box1 wr #[.string x1, .int .i64 x2] 96
      have HB4 := Lib.hid (below_up HI.out.below bbl HI.out.below.size)
      have HBX := Lib.hid bx
      have k0 := bx.cell 0
      have k1 := bx.cell 1
      generalize wr.alloc (.cells #[.string x1, .int .i64 x2] 96) = wb at *
      generalize wr.heap.size = B at *
      clear bx bbl c0 c1
      cases hn : nm x1 with
      | false =>
        have HC := Lib.hid (show ¬ SkFine l from fun g => by have := (HNO.out g).1; simp only at this; rw [hn] at this; cases this)
        go_wp2_with (go_at_call 52; refine (name_any _ HSZ.out _).mono ?_; rw [hn]; rintro e w' ⟨rfl, rfl⟩)
        go_ret
        exact ⟨⟨_, rfl, ⟨fun g => absurd g (by decide), fun g => absurd g HC.out⟩⟩, HB4.out⟩
      | true =>
        have HNM := Lib.hid hn
        clear hn
        go_upto_region 8 with (go_at_call 52; refine (name_any _ HSZ.out _).mono ?_; rw [HNM.out]; rintro e w' ⟨rfl, rfl⟩)
        go_cut [20] (fun v wx => v = .bool (decide (0 < i) && leS x1 (l.getD (i - 1) (⟨#[]⟩, 0)).1) ∧ Below wb.heap.size wb wx)
        case first =>
          by_cases h0 : 0 < i
          · have r2 : decide ((0 : Int) < (i : Int)) = true := decide_eq_true (by omega)
            have r4 : decide (0 < i) = true := decide_eq_true h0
            obtain ⟨p0, p1, -⟩ := HP.out h0
            have p0 := (below_cell HB4.out hb).trans p0
            have r1 : IntKind.i64.wrap ((i : Int) - 1) = ((i - 1 : Nat) : Int) := by rw [IntWalk.i64_in _ (by omega)]; omega
            have r3 : i - 1 < l.length := by omega
            have HGD := Lib.hid (show l.getD (i - 1) (⟨#[]⟩, 0) = l[i - 1] by simp [List.getD, r3])
            clear p1 HP HNX HNO HNB
            generalize l[i - 1] = y at *
            obtain ⟨y1, y2⟩ := y
            simp only at p0
            go_quiet (fail)
            go_wp2_with fail
            go_meet
            exact ⟨by rw [HGD.out, decide_eq_true h0]; rfl, drewN_below (Below.refl _ _) nq⟩
          · obtain rfl : i = 0 := by omega
            clear HP HNX HNO HNB
            go_quiet (fail)
            go_wp2_with fail
            go_meet
            exact ⟨rfl, drewN_below (Below.refl _ _) nq⟩
        case rest =>
          obtain ⟨rfl, hbw⟩ := hcut
          have HBW := Lib.hid (below_up HB4.out hbw HB4.out.size)
          have k1 := (below_cell hbw HBX.out.lt).trans k1
          have HQ := Lib.hid (show (decide (0 < i) && leS x1 (l.getD (i - 1) (⟨#[]⟩, 0)).1) = false ↔ ∀ hp : 0 < i, SkRise (l[i - 1]'(by omega)) (x1, x2) from by
            constructor
            · intro g hp
              rw [decide_eq_true hp, Bool.true_and] at g
              have e : l.getD (i - 1) (⟨#[]⟩, 0) = l[i - 1]'(by omega) := by simp [List.getD, show i - 1 < l.length by omega]
              rw [e] at g
              exact g
            · intro g
              by_cases hp : 0 < i
              · rw [decide_eq_true hp, Bool.true_and]
                have e : l.getD (i - 1) (⟨#[]⟩, 0) = l[i - 1]'(by omega) := by simp [List.getD, show i - 1 < l.length by omega]
                rw [e]
                exact g hp
              · rw [decide_eq_false hp, Bool.false_and])
          clear hbw
          generalize (decide (0 < i) && leS x1 (l.getD (i - 1) (⟨#[]⟩, 0)).1) = q at *
          cases q with
          | true =>
            go_wp2_with fail
            go_ret
            exact ⟨⟨_, rfl, ⟨fun g => absurd g (by decide), fun g => absurd (HQ.out.2 (HNB.out g)) (by decide)⟩⟩, HBW.out⟩
          | false =>
            have HNX2 := Lib.hid (fun hx => HNX.out hx (HQ.out.1 rfl))
            by_cases g2 : 1 ≤ x2 ∧ x2 ≤ 9
            · have q2 : (decide ((1 : Int) ≤ x2) && decide (x2 ≤ 9)) = true := by simpa using g2
              have HNX3 := Lib.hid (HNX2.out ⟨HNM.out, g2⟩)
              clear HNX HNX2 HP HNO HNB g2
              go_wp2_with (go_at_call 28; refine (rwithin_any _ _ _ _).mono ?_; rintro e w' ⟨rfl, rfl⟩)
              go_roundw
              case rel => exact ⟨i + 1, by go_num, hlt, HNX3.out, HBW.out⟩
              case measure => simp [intOf]; omega
            · have q2 : (decide ((1 : Int) ≤ x2) && decide (x2 ≤ 9)) = false := by simp; omega
              have HC := Lib.hid (show ¬ SkFine l from fun g => g2 (HNO.out g).2)
              clear HNX HNX2 HP HNO HNB g2
              go_wp2_with (go_at_call 28; refine (rwithin_any _ _ _ _).mono ?_; rintro e w' ⟨rfl, rfl⟩)
              go_ret
              exact ⟨⟨_, rfl, ⟨fun g => absurd g (by decide), fun g => absurd g HC.out⟩⟩, HBW.out⟩
    · obtain rfl : i = l.length := by omega
      have hf := HI.out.fine
      rw [List.take_length] at hf
      have HF := Lib.hid (show SkFine l from ⟨hl12, hf⟩)
      clear hf
      go_wp2_with fail
      go_ret
      exact ⟨⟨_, rfl, ⟨fun _ => HF.out, fun _ => rfl⟩⟩, HI.out.below⟩
end Go.Proofs.YtemikhnkjligdaaGreatDoor
