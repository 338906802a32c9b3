/- What the clocks of a history are: a plain function of the policy and the points. No program in sight. -/
import Derived.Test.YtllcgcnebofdoaaGreatDoorQCalChk
import Derived.Test.YtllcgcnebofdoaaGreatDoorQCkSt
import Derived.Test.YtllcgcnebofdoaaGreatDoorQClkA
import Derived.Laws.OwnMore
import Derived.OneCell
import Derived.WalkSmall
import Derived.Deep.RegionLaw
import Derived.Deep.AppendLies
import Derived.Test.YtllcgcnebofdoaaGreatDoorQClkE
namespace Go.Proofs.YtllcgcnebofdoaaGreatDoor

/-- a value of a field: kind, number, text; a point of a history -/
abbrev ValD := Int × Int × ByteArray
structure PntD where
  at' : Int
  kind : Int
  who : Int
  status : Int
  prio : Int
  vals : List ValD
/-- a clock while points are taken: its target, whether it goes -/
structure RunD where
  c : ClkD
  tgt : TgtD
  goes : Bool
/-- the keeper: the level (-1: none), the clocks -/
structure KepD where
  lev : Int
  run : List RunD
def cutP (t : Int) (ps : List Pc) : List Pc :=
  match ps.getLast? with
  | none => ps
  | some q => if q.1 = t then ps.dropLast else ps.dropLast ++ [(q.1, t, q.2.2)]
def cutF (t : Int) (r : RunD) : RunD := if r.goes then ⟨{ r.c with ps := cutP t r.c.ps }, r.tgt, false⟩ else r
def onF (t : Int) (r : RunD) : RunD := ⟨{ r.c with ps := r.c.ps ++ [(t, -1, r.tgt.2.2)] }, r.tgt, true⟩
def endF' (t how : Int) (r : RunD) : RunD := ⟨{ (cutF t r).c with stop := t, fin := how }, (cutF t r).tgt, (cutF t r).goes⟩
def eachF (f : RunD → RunD) (l : List RunD) : List RunD := l.map fun r => if r.c.fin = 0 then f r else r
/-- a test holds of a ticket -/
def tstB (prio : Int) (vals : List ValD) (t : TstD) : Bool :=
  decide ((if t.fld = -1 then ((2, prio, ⟨#[]⟩) : ValD) else if t.fld < (vals.length : Int) then vals.getD t.fld.toNat (0, 0, ⟨#[]⟩) else (0, 0, ⟨#[]⟩)) = (t.kind, t.num, t.text))
def levB (prio : Int) (vals : List ValD) (l : LevD) : Bool := l.tests.all (tstB prio vals)
def levFrom (prio : Int) (vals : List ValD) : Nat → List LevD → Int
  | _, [] => -1
  | k, l :: r => if levB prio vals l then (k : Int) else levFrom prio vals (k + 1) r
def levOf (p : PolD) (prio : Int) (vals : List ValD) : Int := levFrom prio vals 0 p.levs
def tgtFind (kind : Int) : List TgtD → Option TgtD
  | [] => none
  | t :: r => if t.1 = kind then some t else tgtFind kind r
def tgtOf (p : PolD) (lev kind : Int) : Option TgtD := if lev < 0 then none else tgtFind kind (p.levs.getD lev.toNat ⟨⟨#[]⟩, [], []⟩).tgts
def movedB (t : TgtD) (r : RunD) : Bool := r.goes && !decide (t = r.tgt) && !decide (t.2.2 = r.tgt.2.2)
def setT (t : TgtD) (lev : Int) (r : RunD) : RunD := ⟨{ r.c with min := t.2.1, lev := lev }, t, r.goes⟩
def chsF (p : PolD) (t lev : Int) (r : RunD) : RunD :=
  match tgtOf p lev r.c.kind with
  | none => endF' t 2 r
  | some g => if movedB g r then onF t (setT g lev (cutF t r)) else setT g lev r
def chooseF (p : PolD) (t lev : Int) (k : KepD) : KepD := ⟨lev, eachF (chsF p t lev) k.run⟩
def beginF (p : PolD) (t kind : Int) (k : KepD) : KepD :=
  match tgtOf p k.lev kind with
  | none => k
  | some g => ⟨k.lev, k.run ++ [⟨⟨kind, k.lev, g.2.1, t, -1, 0, []⟩, g, false⟩]⟩
def runsB (kinds : List Int) (l : List RunD) : Bool := l.any fun r => decide (r.c.fin = 0) && kinds.contains r.c.kind
def overB (x : PntD) : Bool := decide (x.status = 5) || decide (x.status = 6)
def ansB (x : PntD) : Bool := decide (x.kind = 2) && decide (0 < x.who)
def metF (x : PntD) (r : RunD) : RunD :=
  if x.kind = 7 ∧ x.status = 6 then endF' x.at' 2 r
  else if (r.c.kind = 3 ∧ overB x = true) ∨ (r.c.kind ≠ 3 ∧ ansB x = true) then endF' x.at' 1 r
  else r
def pauF (paused : Bool) (t : Int) (r : RunD) : RunD := if paused then cutF t r else if r.goes then r else onF t r
def step1 (x : PntD) (k : KepD) : KepD := ⟨k.lev, eachF (metF x) k.run⟩
def step2 (p : PolD) (x : PntD) (k : KepD) : KepD := if levOf p x.prio x.vals = k.lev then k else chooseF p x.at' (levOf p x.prio x.vals) k
/-- the status of the point before: none at the first -/
def step3 (p : PolD) (x : PntD) (b : Option Int) (k : KepD) : KepD := if b = none then beginF p x.at' 1 k else k
def step4 (p : PolD) (x : PntD) (k : KepD) : KepD := if (x.kind = 2 ∧ x.who = 0) ∧ runsB [1, 2] k.run = false then beginF p x.at' 2 k else k
def againB (b : Option Int) : Bool := match b with | none => true | some s => decide (s = 5) || decide (s = 6)
def step5 (p : PolD) (x : PntD) (b : Option Int) (k : KepD) : KepD := if (againB b = true ∧ x.status ≠ 5) ∧ runsB [3] k.run = false then beginF p x.at' 3 k else k
def step345 (p : PolD) (x : PntD) (b : Option Int) (k : KepD) : KepD := if x.status = 6 then k else step5 p x b (step4 p x (step3 p x b k))
def step6 (p : PolD) (x : PntD) (k : KepD) : KepD := ⟨k.lev, eachF (pauF (p.pauses.contains x.status) x.at') k.run⟩
def pointF (p : PolD) (x : PntD) (b : Option Int) (k : KepD) : KepD := step6 p x (step345 p x b (step2 p x (step1 x k)))
def keepFrom (p : PolD) : Option Int → KepD → List PntD → KepD
  | _, k, [] => k
  | b, k, x :: r => keepFrom p (some x.status) (pointF p x b k) r
def clocksF (p : PolD) (l : List PntD) : List ClkD := (keepFrom p none ⟨-1, []⟩ l).run.map (·.c)

/-! ### what the walk needs of a keeper -/
structure RunOk (r : RunD) : Prop where
  some : r.goes = true → r.c.ps ≠ []
structure KepOk (p : PolD) (n m : Nat) (k : KepD) : Prop where
  lev : -1 ≤ k.lev ∧ k.lev < (p.levs.length : Int)
  run : ∀ r ∈ k.run, RunOk r ∧ r.c.ps.length ≤ n
  few : k.run.length ≤ m
theorem cutP_len (t : Int) (ps : List Pc) : (cutP t ps).length ≤ ps.length := by
  unfold cutP
  cases h : ps.getLast? with
  | none => exact Nat.le_refl _
  | some q =>
    have hne : ps ≠ [] := by rintro rfl; simp at h
    have := List.length_pos_iff.2 hne
    simp only
    split
    · rw [List.length_dropLast]; omega
    · rw [List.length_append, List.length_dropLast]; simp; omega
theorem cutF_ok (t : Int) {r : RunD} (h : RunOk r) : RunOk (cutF t r) ∧ (cutF t r).c.ps.length ≤ r.c.ps.length ∧ (cutF t r).goes = false := by
  unfold cutF
  cases hg : r.goes with
  | false => exact ⟨by simpa using h, Nat.le_refl _, hg⟩
  | true => exact ⟨⟨fun e => by simp at e⟩, cutP_len _ _, rfl⟩
theorem onF_ok (t : Int) (r : RunD) : RunOk (onF t r) ∧ (onF t r).c.ps.length = r.c.ps.length + 1 := ⟨⟨fun _ => by simp [onF]⟩, by simp [onF]⟩
theorem endF_ok (t how : Int) {r : RunD} (h : RunOk r) : RunOk (endF' t how r) ∧ (endF' t how r).c.ps.length ≤ r.c.ps.length := ⟨⟨(cutF_ok t h).1.some⟩, (cutF_ok t h).2.1⟩
theorem setT_ok (t : TgtD) (lev : Int) {r : RunD} (h : RunOk r) : RunOk (setT t lev r) := ⟨h.some⟩
theorem chsF_ok (p : PolD) (t lev : Int) {r : RunD} (h : RunOk r) : RunOk (chsF p t lev r) ∧ (chsF p t lev r).c.ps.length ≤ r.c.ps.length + 1 := by
  unfold chsF
  split
  · exact ⟨(endF_ok t 2 h).1, Nat.le_succ_of_le (endF_ok t 2 h).2⟩
  · split
    · refine ⟨(onF_ok _ _).1, ?_⟩
      rw [(onF_ok _ _).2]
      have := (cutF_ok t h).2.1
      show (cutF t r).c.ps.length + 1 ≤ _
      omega
    · exact ⟨setT_ok _ _ h, Nat.le_succ _⟩
theorem metF_ok (x : PntD) {r : RunD} (h : RunOk r) : RunOk (metF x r) ∧ (metF x r).c.ps.length ≤ r.c.ps.length := by
  unfold metF
  split
  · exact endF_ok _ _ h
  · split
    · exact endF_ok _ _ h
    · exact ⟨h, Nat.le_refl _⟩
theorem pauF_ok (b : Bool) (t : Int) {r : RunD} (h : RunOk r) : RunOk (pauF b t r) ∧ (pauF b t r).c.ps.length ≤ r.c.ps.length + 1 := by
  unfold pauF
  split
  · exact ⟨(cutF_ok t h).1, Nat.le_succ_of_le (cutF_ok t h).2.1⟩
  · split
    · exact ⟨h, Nat.le_succ _⟩
    · exact ⟨(onF_ok _ _).1, Nat.le_of_eq (onF_ok _ _).2⟩
theorem each_len (f : RunD → RunD) (l : List RunD) : (eachF f l).length = l.length := List.length_map _
theorem KepOk.each {p : PolD} {n m d : Nat} {k : KepD} (h : KepOk p n m k) (f : RunD → RunD) (lev : Int) (hl : -1 ≤ lev ∧ lev < (p.levs.length : Int)) (hf : ∀ r, RunOk r → RunOk (f r) ∧ (f r).c.ps.length ≤ r.c.ps.length + d) : KepOk p (n + d) m ⟨lev, eachF f k.run⟩ := by
  refine ⟨hl, fun r hr => ?_, by rw [each_len]; exact h.few⟩
  obtain ⟨q, hq, rfl⟩ := List.mem_map.1 hr
  obtain ⟨h1, h2⟩ := h.run q hq
  split
  · obtain ⟨g1, g2⟩ := hf q h1
    exact ⟨g1, by omega⟩
  · exact ⟨h1, by omega⟩
theorem levFrom_range (prio : Int) (vals : List ValD) : ∀ (l : List LevD) (k : Nat), -1 ≤ levFrom prio vals k l ∧ levFrom prio vals k l < ((k + l.length : Nat) : Int)
  | [], k => by simp [levFrom]; omega
  | x :: r, k => by
    unfold levFrom
    split
    · simp; omega
    · have := levFrom_range prio vals r (k + 1)
      rw [List.length_cons]
      constructor
      · exact this.1
      · have := this.2; omega
theorem levOf_range (p : PolD) (prio : Int) (vals : List ValD) : -1 ≤ levOf p prio vals ∧ levOf p prio vals < (p.levs.length : Int) := by
  have := levFrom_range prio vals p.levs 0
  unfold levOf
  simpa using this
theorem begin_ok {p : PolD} {n m : Nat} {k : KepD} (h : KepOk p n m k) (t kind : Int) : KepOk p n (m + 1) (beginF p t kind k) := by
  unfold beginF
  split
  · exact ⟨h.lev, h.run, Nat.le_succ_of_le h.few⟩
  · refine ⟨h.lev, fun r hr => ?_, by simp; exact h.few⟩
    rcases List.mem_append.1 hr with q | q
    · exact h.run r q
    · rw [List.mem_singleton.1 q]
      exact ⟨⟨fun e => by cases e⟩, Nat.zero_le _⟩
theorem KepOk.up {p : PolD} {n m n' m' : Nat} {k : KepD} (h : KepOk p n m k) (hn : n ≤ n') (hm : m ≤ m') : KepOk p n' m' k := ⟨h.lev, fun r hr => ⟨(h.run r hr).1, Nat.le_trans (h.run r hr).2 hn⟩, Nat.le_trans h.few hm⟩
theorem step1_ok {p : PolD} {n m : Nat} {k : KepD} (h : KepOk p n m k) (x : PntD) : KepOk p n m (step1 x k) := h.each (d := 0) (metF x) k.lev h.lev (fun r hr => metF_ok x hr)
theorem step2_ok {p : PolD} {n m : Nat} {k : KepD} (h : KepOk p n m k) (x : PntD) : KepOk p (n + 1) m (step2 p x k) := by
  unfold step2
  split
  · exact h.up (Nat.le_succ _) (Nat.le_refl _)
  · exact h.each (d := 1) _ _ (levOf_range p _ _) (fun r hr => chsF_ok p _ _ hr)
theorem step3_ok {p : PolD} {n m : Nat} {k : KepD} (h : KepOk p n m k) (x : PntD) (b : Option Int) : KepOk p n (m + 1) (step3 p x b k) := by
  unfold step3
  split
  · exact begin_ok h _ _
  · exact h.up (Nat.le_refl _) (Nat.le_succ _)
theorem step4_ok {p : PolD} {n m : Nat} {k : KepD} (h : KepOk p n m k) (x : PntD) : KepOk p n (m + 1) (step4 p x k) := by
  unfold step4
  split
  · exact begin_ok h _ _
  · exact h.up (Nat.le_refl _) (Nat.le_succ _)
theorem step5_ok {p : PolD} {n m : Nat} {k : KepD} (h : KepOk p n m k) (x : PntD) (b : Option Int) : KepOk p n (m + 1) (step5 p x b k) := by
  unfold step5
  split
  · exact begin_ok h _ _
  · exact h.up (Nat.le_refl _) (Nat.le_succ _)
theorem step345_ok {p : PolD} {n m : Nat} {k : KepD} (h : KepOk p n m k) (x : PntD) (b : Option Int) : KepOk p n (m + 3) (step345 p x b k) := by
  unfold step345
  split
  · exact h.up (Nat.le_refl _) (by omega)
  · exact step5_ok (step4_ok (step3_ok h x b) x) x b
theorem step6_ok {p : PolD} {n m : Nat} {k : KepD} (h : KepOk p n m k) (x : PntD) : KepOk p (n + 1) m (step6 p x k) := h.each (d := 1) _ k.lev h.lev (fun r hr => pauF_ok _ _ hr)
theorem pointF_ok {p : PolD} {n m : Nat} {k : KepD} (h : KepOk p n m k) (x : PntD) (b : Option Int) : KepOk p (n + 2) (m + 3) (pointF p x b k) := step6_ok (step345_ok (step2_ok (step1_ok h x) x) x b) x
end Go.Proofs.YtllcgcnebofdoaaGreatDoor

/- A keeper's clocks in memory: one block and one row of pieces each; what a turn of one of them leaves alone. -/
namespace Go.Proofs.YtllcgcnebofdoaaGreatDoor
open Go.RowKit

def encPc (p : Pc) : List Value := [.int .i64 p.1, .int .i64 p.2.1, .int .i64 p.2.2]
def runV (r : RunD) (v : Value) : Array Value := #[.int .i64 r.c.kind, .int .i64 r.c.lev, .int .i64 r.c.min, .int .i64 r.c.start, .int .i64 r.c.stop, .int .i64 r.c.fin, v, .int .i64 r.tgt.1, .int .i64 r.tgt.2.1, .int .i64 r.tgt.2.2, .bool r.goes]
structure RM (w : World) (B b : Nat) (v : Value) (r : RunD) : Prop where
  box : Has w b (runV r v) 74
  ps : w.ownsRow B 79 3 v r.c.ps.length (r.c.ps.flatMap encPc)
  le : B ≤ b
theorem RM.below {w w' : World} {B b : Nat} {v : Value} {r : RunD} (h : RM w B b v r) (hb : Below w.heap.size w w') : RM w' B b v r := ⟨h.box.below hb h.box.lt, owns_below h.ps hb, h.le⟩
/-- only block b, the row of v, and new blocks -/
structure One2 (w w' : World) (b : Nat) (v : Value) : Prop where
  os : w'.os = w.os
  tape : w'.tape = w.tape
  output : w'.output = w.output
  size : w.heap.size ≤ w'.heap.size
  block : ∀ k, k < w.heap.size → k ≠ b → v.ownBlock ≠ some k → w'.heap[k]? = w.heap[k]?
/-- the new slice lies where the old one lay, or in a new block, or nowhere -/
def Fr (w : World) (v v' : Value) : Prop := ∀ k, v'.ownBlock = some k → v.ownBlock = some k ∨ w.heap.size ≤ k
theorem Fr.refl (w : World) (v : Value) : Fr w v v := fun _ h => .inl h
theorem Fr.trans {w w1 : World} {v v1 v2 : Value} (h : Fr w v v1) (k : Fr w1 v1 v2) (hs : w.heap.size ≤ w1.heap.size) : Fr w v v2 := fun j hj => by
  rcases k j hj with q | q
  · exact h j q
  · exact .inr (Nat.le_trans hs q)
theorem One2.refl (w : World) (b : Nat) (v : Value) : One2 w w b v := ⟨rfl, rfl, rfl, Nat.le_refl _, fun _ _ _ _ => rfl⟩
theorem One2.trans {w w1 w2 : World} {b : Nat} {v v1 : Value} (h : One2 w w1 b v) (k : One2 w1 w2 b v1) (hf : Fr w v v1) : One2 w w2 b v :=
  ⟨k.os.trans h.os, k.tape.trans h.tape, k.output.trans h.output, Nat.le_trans h.size k.size, fun j hj h1 h2 => by
    rw [k.block j (Nat.lt_of_lt_of_le hj h.size) h1 (fun q => by
      rcases hf j q with g | g
      · exact h2 g
      · omega)]
    exact h.block j hj h1 h2⟩
theorem One2.set (w : World) (b i : Nat) (u v : Value) : One2 w (w.setCell ⟨b, i, none⟩ u) b v :=
  ⟨rfl, rfl, rfl, by simp [World.setCell], fun _ _ h1 _ => Below.heap_setCell _ _ _ _ h1⟩
theorem One2.setRow (w : World) (b g i n c : Nat) (u : Value) : One2 w (w.setCell ⟨g, i, none⟩ u) b (.slice (some ⟨g, 0, none⟩) n c) :=
  ⟨rfl, rfl, rfl, by simp [World.setCell], fun k _ _ h2 => Below.heap_setCell _ _ _ _ (fun e => h2 (by subst e; rfl))⟩
theorem One2.own {w w' : World} {b : Nat} {v : Value} (h : w.grownBy w' v.ownBlock) : One2 w w' b v := ⟨h.os, h.tape, h.output, h.size, fun k hk _ h2 => h.block k hk (Ne.symm h2)⟩
theorem One2.of_below {w w' : World} {b : Nat} {v : Value} (h : Below w.heap.size w w') : One2 w w' b v := ⟨h.os, h.tape, h.output, h.size, fun k hk _ _ => h.block k hk⟩
theorem One2.drew (w : World) (b : Nat) (v : Value) : One2 w w.drew b v := One2.of_below (Below.refl _ _).drew
theorem One2.below {w w' : World} {B b : Nat} {v : Value} {r : RunD} (h : One2 w w' b v) (hm : RM w B b v r) (hB : B ≤ w.heap.size) : Below B w w' :=
  ⟨h.os, h.tape, h.output, h.size, fun k hk => h.block k (by omega) (by have := hm.le; omega) (fun q => by have := (hm.ps.lt k q).1; omega)⟩
/-- whatever is neither a clock nor a piece stays -/
structure KeepsR (w w' : World) : Prop where
  size : w.heap.size ≤ w'.heap.size
  same : ∀ (k : Nat) (cs : Array Value) (t : TypeId) (fr : Nat × Nat), w.heap[k]? = some (.cells cs t fr) → t ≠ 74 → t ≠ 79 → w'.heap[k]? = some (.cells cs t fr)
theorem KeepsR.refl (w : World) : KeepsR w w := ⟨Nat.le_refl _, fun _ _ _ _ h _ _ => h⟩
theorem KeepsR.trans {a b c : World} (h : KeepsR a b) (k : KeepsR b c) : KeepsR a c := ⟨Nat.le_trans h.size k.size, fun i cs t fr h1 h2 h3 => k.same i cs t fr (h.same i cs t fr h1 h2 h3) h2 h3⟩
theorem KeepsR.of_below {w w' : World} (h : Below w.heap.size w w') : KeepsR w w' := ⟨h.size, fun k _ _ _ h1 _ _ => (h.block k (Array.getElem?_eq_some_iff.1 h1).1).trans h1⟩
theorem Has.keepsR {w w' : World} {b : Nat} {cs : Array Value} {t : TypeId} (h : Has w b cs t) (hk : KeepsR w w') (h1 : t ≠ 74) (h2 : t ≠ 79) : Has w' b cs t := hk.same b cs t (0, 0) h h1 h2
theorem owns_keepsR {w w' : World} {B : Nat} {e : TypeId} {sz : Nat} {v : Value} {n : Nat} {xs : List Value} (h : w.ownsRow B e sz v n xs) (hk : KeepsR w w') (h1 : e ≠ 74) (h2 : e ≠ 79) : w'.ownsRow B e sz v n xs := by
  refine ⟨h.1, ?_⟩
  rcases h.2 with q | ⟨g, cap, cur, hv, hg, hh, r⟩
  · exact .inl q
  · exact .inr ⟨g, cap, cur, hv, hg, hk.same g _ _ _ hh h1 h2, r⟩
theorem own_type {w : World} {B : Nat} {e : TypeId} {sz : Nat} {v : Value} {n : Nat} {xs : List Value} (h : w.ownsRow B e sz v n xs) {k : Nat} (hk : v.ownBlock = some k) : ∃ cs, w.heap[k]? = some (.cells cs e (0, 0)) := by
  rcases h.2 with ⟨rfl, _⟩ | ⟨g', cap, cur, rfl, _, hgg, _⟩
  · cases hk
  · have e2 : g' = k := by simpa [Value.ownBlock] using hk
    subst e2
    exact ⟨_, hgg⟩
theorem One2.keepsR {w w' : World} {B b : Nat} {v : Value} {r : RunD} (h : One2 w w' b v) (hm : RM w B b v r) : KeepsR w w' :=
  ⟨h.size, fun k cs t fr h1 h2 h3 => (h.block k (Array.getElem?_eq_some_iff.1 h1).1 (fun e => by
    subst e
    have hb : w.heap[k]? = some (.cells (runV r v) 74 (0, 0)) := hm.box
    rw [hb] at h1
    cases h1
    exact h2 rfl) (fun q => by
    obtain ⟨ds, hd⟩ := own_type hm.ps q
    rw [hd] at h1
    cases h1
    exact h3 rfl)).trans h1⟩
/-- a clock's block is none of the row's -/
theorem RM.apart {w : World} {B b : Nat} {v : Value} {r : RunD} (h : RM w B b v r) : v.ownBlock ≠ some b := fun q => by
  obtain ⟨ds, hd⟩ := own_type h.ps q
  have hb : w.heap[b]? = some (.cells (runV r v) 74 (0, 0)) := h.box
  rw [hb] at hd
  cases hd
theorem pc_len (ps : List Pc) : (ps.flatMap encPc).length = ps.length * 3 := by
  induction ps with
  | nil => rfl
  | cons x r ih => rw [List.flatMap_cons, List.length_append, ih, List.length_cons]; simp [encPc]; omega
theorem pc_last (ps : List Pc) (q : Pc) (j : Nat) : ((ps ++ [q]).flatMap encPc)[ps.length * 3 + j]? = (encPc q)[j]? := by
  rw [List.flatMap_append, List.getElem?_append_right (by rw [pc_len]; omega), pc_len]
  simp
theorem pc_set (ps : List Pc) (q : Pc) (j : Nat) (u : Value) : ((ps ++ [q]).flatMap encPc).set (ps.length * 3 + j) u = ps.flatMap encPc ++ (encPc q).set j u := by
  rw [List.flatMap_append, List.set_append_right _ _ (by rw [pc_len]; omega), pc_len]
  simp
theorem cutP_last (t : Int) (ps : List Pc) (q : Pc) : cutP t (ps ++ [q]) = if q.1 = t then ps else ps ++ [(q.1, t, q.2.2)] := by
  unfold cutP
  simp
theorem infoPc : (Tryz.prog.info? 79).map (fun i => (i.zero, i.size, i.bytes)) = some (some (.agg #[.int .i64 0, .int .i64 0, .int .i64 0]), 3, 24) := by kernel_rfl
/-- what a method of a clock leaves -/
def RunPost (w : World) (B b : Nat) (v : Value) (r' : RunD) (e : Ending) (w' : World) : Prop := (∃ u, e = .returned u) ∧ ∃ v', RM w' B b v' r' ∧ One2 w w' b v ∧ Fr w v v'

end Go.Proofs.YtllcgcnebofdoaaGreatDoor

/- A region that draws its order: what is taken first under a condition on the world that holds behind every operation; the condition may grow on the way. No program in sight. -/
namespace Go.Proofs.YtllcgcnebofdoaaGreatDoor
open Go

section
variable {P : Program} {ops : Array Oper} {Q : Exit → Act → World → Prop} {md : Region.Mode} {S S2 : World → Prop} {t : Nat}
theorem anyT_imp (h : ∀ w, S2 w → S w) : ∀ (f : Nat) {listed : Array Bool} {a : Act} {w : World}, anyT P md ops Q S2 t f listed a w → anyT P md ops Q S t f listed a w
  | 0, _, _, _, g => g
  | f + 1, _, _, _, g => ⟨g.1, fun j hj => wpOp_mono (fun _ _ q => ⟨fun hne => h _ (q.1 hne), anyT_imp h f q.2⟩) (g.2 j hj)⟩
theorem anyT_firstS {i : Nat} {oi : Oper} {v : Value} (hi : ops[i]? = some oi) (hsel : ∀ (j : Nat) (o : Oper) cs b, ops[j]? = some o → o.op ≠ .select cs b)
    (hQ : ∀ c a w, Q (.panic c) (a.put oi.dst v) w → Q (.panic c) a w) (hit : ops.size ≤ t) : ∀ (f : Nat) (listed : Array Bool) (a : Act) (w : World),
    (∀ j oj, ops[j]? = some oj → j ≠ i → listed.getD j true = false → (∀ e ∈ oj.after, Region.binds md e = true → e.on ≠ i) → oi.apart ops oj = true) →
    i ∈ Region.ready md ops listed → YieldsIf P ops S oi v a → S w → anyT P md ops Q S t f (listed.setIfInBounds i true) (a.put oi.dst v) w → anyT P md ops Q S t (f + 1) listed a w := by
  intro f
  induction f with
  | zero =>
    intro listed a w _ hr hy hS H
    refine ⟨fun h => (by rw [h] at hr; cases hr), fun j hj => ?_⟩
    by_cases e : j = i
    · subst e; exact hy.wpOp hi hS ⟨fun _ => hS, H⟩
    · have := ready_mono hj e
      rw [H.1] at this
      cases this
  | succ f ih =>
    intro listed a w hfree hr hy hS H
    refine ⟨fun h => (by rw [h] at hr; cases hr), fun j hj => ?_⟩
    by_cases e : j = i
    · subst e; exact hy.wpOp hi hS ⟨fun _ => hS, H⟩
    · have h1 := H.2 j (ready_mono hj e)
      obtain ⟨hun, oj, hoj, hall⟩ := mem_ready.1 hj
      have hjt : j ≠ t := fun q => by
        have := (Array.getElem?_eq_some_iff.1 hoj).1
        omega
      have hno : ∀ e ∈ oj.after, Region.binds md e = true → e.on ≠ i := fun e he hb q => by
        have h2 := hall e he hb
        have h0 := (mem_ready.1 hr).1
        rw [q] at h2
        rcases Nat.lt_or_ge i listed.size with h' | h'
        · simp [h'] at h0 h2; rw [h0] at h2; cases h2
        · simp [Array.getElem?_eq_none h'] at h2
      have h2 := wpOp_putIf hoj (hfree j oj hoj e hun hno) (fun cs b => hsel i oi cs b hi) (fun cs b => hsel j oj cs b hoj) hQ hy h1
      refine wpOp_mono (fun a' w' h3 => ⟨h3.2.1, ih (listed.setIfInBounds j true) a' w' ?_ (ready_mono hr (Ne.symm e)) h3.1 (h3.2.1 hjt) ?_⟩) h2
      · intro k ok hk hki hunk hnok
        refine hfree k ok hk hki ?_ hnok
        by_cases g : j = k
        · subst g; exact hun
        · rw [getD_set_ne true g] at hunk; exact hunk
      · rw [Array.setIfInBounds_comm _ _ e]
        exact h3.2.2
/-- number i is taken first; S holds behind every operation -/
theorem takeS {i d : Nat} {oi : Oper} {v : Value} {f : Nat} {listed : Array Bool} {tmps : Array Value} {defers : List Deferred} {w : World} (hi : ops[i]? = some oi) (hd : oi.dst = some d)
    (hs : Region.noSelect ops = true) (hf : Region.free md ops listed i = true) (hr : (Region.ready md ops listed).contains i = true)
    (hQ : ∀ c a w, Q (.panic c) (a.put oi.dst v) w → Q (.panic c) a w) (hit : ops.size ≤ t) (hw : Region.wanted oi (yielded ops tmps) = true)
    (hy : ∀ w, S w → (execOp (Act.eval ⟨tmps, defers⟩) oi).run P w = .ok (.value v) w) (hS : S w)
    (h : anyT P md ops Q S t f (listed.setIfInBounds i true) ⟨tmps.setIfInBounds d v, defers⟩ w) : anyT P md ops Q S t (f + 1) listed ⟨tmps, defers⟩ w := by
  refine anyT_firstS hi (Region.noSelect_spec hs) hQ hit f listed _ w (Region.free_spec hi hf) (by simpa using hr) (Or.inl ⟨hw, hy⟩) hS ?_
  rw [hd]
  exact h
/-- one of two may come up -/
theorem twoT {i j : Nat} {o o' : Oper} {f : Nat} {listed : Array Bool} {a : Act} {w : World} (ho : ops[i]? = some o) (ho' : ops[j]? = some o') (hr : Region.ready md ops listed = [i, j])
    (h : ∀ K' : Act → World → Prop, Shut (∀ a w, (i ≠ t → S w) → anyT P md ops Q S t f (listed.setIfInBounds i true) a w → K' a w) → if Region.wanted o (yielded ops a.tmps) = true then Oper.wp P o a w K' Q else K' (a.put o.dst undef) w)
    (h' : ∀ K' : Act → World → Prop, Shut (∀ a w, (j ≠ t → S w) → anyT P md ops Q S t f (listed.setIfInBounds j true) a w → K' a w) → if Region.wanted o' (yielded ops a.tmps) = true then Oper.wp P o' a w K' Q else K' (a.put o'.dst undef) w) :
    anyT P md ops Q S t (f + 1) listed a w := by
  refine ⟨fun h0 => (by rw [hr] at h0; cases h0), fun k hk => ?_⟩
  rw [hr] at hk
  simp only [List.mem_cons, List.not_mem_nil, or_false] at hk
  rcases hk with rfl | rfl
  · exact wpOp_step ho (fun K' hK => h K' (fun a w hS hW => hK a w ⟨hS, hW⟩))
  · exact wpOp_step ho' (fun K' hK => h' K' (fun a w hS hW => hK a w ⟨hS, hW⟩))
end
end Go.Proofs.YtllcgcnebofdoaaGreatDoor
