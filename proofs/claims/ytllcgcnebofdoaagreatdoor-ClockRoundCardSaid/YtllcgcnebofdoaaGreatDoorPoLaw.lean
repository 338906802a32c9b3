/- Plain laws of policies: what a right one is, and its text. No program in sight. -/
import Derived.Test.YtllcgcnebofdoaaGreatDoorPpLaw
import Derived.Test.YtllcgcnebofdoaaGreatDoorLst
namespace Go.Proofs.YtllcgcnebofdoaaGreatDoor

/-- a test: a field, a value's kind, its number, its text -/
structure TstD where
  fld : Int
  kind : Int
  num : Int
  text : ByteArray
/-- a target: kind, minutes, calendar -/
abbrev TgtD := Int × Int × Int
structure LevD where
  name : ByteArray
  tests : List TstD
  tgts : List TgtD
structure PolD where
  pauses : List Int
  levs : List LevD
/-- a byte of a text: no control byte -/
def txB (c : UInt8) : Bool := decide (32 ≤ c.toNat) && !decide (c.toNat = 127)
def kindOk (k n : Int) : Prop := (k = 1 → 0 ≤ n ∧ n ≤ 1) ∧ (k = 4 → 0 ≤ n ∧ n ≤ 19) ∧ (k = 5 → 0 ≤ n ∧ n ≤ 3000000) ∧ (k = 6 → 1 ≤ n ∧ n ≤ 40)
structure TstOne (t : TstD) : Prop where
  fld : -1 ≤ t.fld ∧ t.fld ≤ 19
  kind : (0 ≤ t.kind ∧ t.kind ≤ 6) ∧ (t.fld = -1 → t.kind = 2)
  form : (t.num = 0 ∨ ¬ (t.kind = 0 ∨ t.kind = 3)) ∧ (t.text.size = 0 ∨ t.kind = 3)
  range : kindOk t.kind t.num
  short : t.text.size ≤ 200
  bytes : t.text.data.toList.all txB = true
def TstRise (a b : TstD) : Prop := a.fld < b.fld
def TgtOne (t : TgtD) : Prop := (1 ≤ t.1 ∧ t.1 ≤ 3) ∧ (0 ≤ t.2.1 ∧ t.2.1 ≤ 100000) ∧ (0 ≤ t.2.2 ∧ t.2.2 ≤ 19)
def TgtRise (a b : TgtD) : Prop := a.1 < b.1
structure LevOk (l : LevD) : Prop where
  few : l.tests.length ≤ 8
  tests : Lst TstOne TstRise l.tests
  tgts : Lst TgtOne TgtRise l.tgts
def PauOne (s : Int) : Prop := 1 ≤ s ∧ s ≤ 4
def PauRise (a b : Int) : Prop := a < b
/-- levels right up to here: names are names, no name twice -/
structure LevsOk (l : List LevD) : Prop where
  each : ∀ x ∈ l, nm x.name = true ∧ LevOk x
  once : (l.map (·.name)).Nodup
structure PolOk (p : PolD) : Prop where
  pauses : Lst PauOne PauRise p.pauses
  few : p.levs.length ≤ 20
  levs : LevsOk p.levs
theorem LevsOk.nil : LevsOk [] := ⟨fun _ h => by simp at h, by simp⟩
theorem LevsOk.next {l : List LevD} {i : Nat} (h : LevsOk (l.take i)) (hi : i < l.length) (h1 : nm l[i].name = true) (h2 : l[i].name ∉ (l.take i).map (·.name)) (h3 : LevOk l[i]) : LevsOk (l.take (i + 1)) := by
  rw [List.take_succ_eq_append_getElem hi]
  refine ⟨fun x hx => ?_, ?_⟩
  · rcases List.mem_append.1 hx with hx | hx
    · exact h.each x hx
    · rw [List.mem_singleton.1 hx]
      exact ⟨h1, h3⟩
  · rw [List.map_append, List.nodup_append]
    refine ⟨h.once, by simp, fun a ha b hb e => ?_⟩
    simp only [List.map_cons, List.map_nil, List.mem_singleton] at hb
    exact h2 (by rw [← hb, ← e]; exact ha)
theorem LevsOk.one {l : List LevD} (h : LevsOk l) {i : Nat} (hi : i < l.length) : nm l[i].name = true ∧ l[i].name ∉ (l.take i).map (·.name) ∧ LevOk l[i] := by
  obtain ⟨h1, h2⟩ := h.each _ (List.getElem_mem hi)
  refine ⟨h1, fun g => ?_, h2⟩
  have ho := h.once
  rw [← List.take_append_drop i l, List.map_append, List.drop_eq_getElem_cons hi, List.map_cons, List.nodup_append] at ho
  exact ho.2.2 _ g _ List.mem_cons_self rfl
end Go.Proofs.YtllcgcnebofdoaaGreatDoor
