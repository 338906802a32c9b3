/- The plain law of TopFilled: the template of some parts, its names, what it is filled with. No program in sight. -/
import Derived.Test.YtfohehldkchnjaaTpFil
namespace Go.Proofs.Ytfohehldkchnjaa
open Go.RowKit

def nameN (i : Nat) : List UInt8 := [118, UInt8.ofNat (97 + i)]
def fdN (i : Nat) : Fd := if i % 3 = 0 then ⟨nameN i, 0, [], []⟩ else if i % 3 = 1 then ⟨nameN i, 124, [110, 111, 110, 101], []⟩ else ⟨nameN i, 63, [121, 101, 115], [110, 111]⟩
def segN (P : List (List UInt8)) (n : Nat) : List (List UInt8 × Fd) := (List.range n).map fun j => (P.getD j [], fdN j)
def wantN (P V : List (List UInt8)) (n : Nat) : List UInt8 := (List.range n).flatMap fun j => P.getD j [] ++ valF (V.getD j []) (fdN j)
def prsN (V : List (List UInt8)) (n : Nat) : List PrD := (List.range n).map fun j => (nameN j, V.getD j [])
theorem segN_succ (P : List (List UInt8)) (n : Nat) : segN P (n + 1) = segN P n ++ [(P.getD n [], fdN n)] := by simp [segN, List.range_succ]
theorem wantN_succ (P V : List (List UInt8)) (n : Nat) : wantN P V (n + 1) = wantN P V n ++ (P.getD n [] ++ valF (V.getD n []) (fdN n)) := by simp [wantN, List.range_succ]
theorem prsN_succ (V : List (List UInt8)) (n : Nat) : prsN V (n + 1) = prsN V n ++ [(nameN n, V.getD n [])] := by simp [prsN, List.range_succ]
theorem tplT_snoc : ∀ (l : List (List UInt8 × Fd)) (p : List UInt8) (f : Fd), tplT (l ++ [(p, f)]) [] = tplT l [] ++ (quo p ++ fldT f)
  | [], p, f => by simp [tplT, quo]
  | (q, g) :: r, p, f => by
    have ih := tplT_snoc r p f
    simp [tplT, ih]
theorem tplN_succ (P : List (List UInt8)) (n : Nat) : tplT (segN P (n + 1)) [] = tplT (segN P n) [] ++ (quo (P.getD n []) ++ fldT (fdN n)) := by rw [segN_succ, tplT_snoc]
theorem fdN_name (i : Nat) : (fdN i).name = nameN i := by unfold fdN; split <;> (try split) <;> rfl
theorem fldN (i : Nat) : fldT (fdN i) = if i % 3 = 0 then [123, 123] ++ nameN i ++ [125, 125] else if i % 3 = 1 then [123, 123] ++ nameN i ++ [124, 110, 111, 110, 101, 125, 125] else [123, 123] ++ nameN i ++ [63, 121, 101, 115, 58, 110, 111, 125, 125] := by
  unfold fdN
  split
  · rfl
  · split <;> rfl
theorem fdN_ok : ∀ i, i < 8 → FdOk (fdN i) := by
  intro i hi
  have h : ∀ c ∈ nameN i, nameB c = true := by
    intro c hc
    simp only [nameN, List.mem_cons, List.not_mem_nil, or_false] at hc
    rcases hc with rfl | rfl
    · rfl
    · match i, hi with
      | 0, _ => rfl
      | 1, _ => rfl
      | 2, _ => rfl
      | 3, _ => rfl
      | 4, _ => rfl
      | 5, _ => rfl
      | 6, _ => rfl
      | 7, _ => rfl
  refine ⟨by rw [fdN_name]; show 0 < 2; decide, by rw [fdN_name]; show 2 ≤ 20; decide, by rw [fdN_name]; exact h, ?_, ?_, ?_⟩
  · unfold fdN
    split
    · exact .inl ⟨rfl, rfl, rfl⟩
    · split
      · exact .inr (.inl ⟨rfl, rfl⟩)
      · exact .inr (.inr rfl)
  · unfold fdN
    split
    · simp
    · split
      · show ∀ c ∈ ([110, 111, 110, 101] : List UInt8), selfB c = true
        decide
      · show ∀ c ∈ ([121, 101, 115] : List UInt8), selfB c = true
        decide
  · unfold fdN
    split
    · simp
    · split
      · simp
      · show ∀ c ∈ ([110, 111] : List UInt8), selfB c = true
        decide
theorem names_apart (V : List (List UInt8)) {n : Nat} (hn : n ≤ 8) : ((prsN V n).map (·.1)).Nodup := by
  have e : (prsN V n).map (·.1) = (List.range n).map nameN := by simp [prsN]
  rw [e]
  have h8 : ((List.range 8).map nameN).Nodup := by decide
  have h : (List.range n).map nameN = ((List.range 8).map nameN).take n := by
    rw [← List.map_take, List.take_range, Nat.min_eq_left hn]
  rw [h]
  exact h8.sublist (List.take_sublist _ _)
theorem prs_ok (V : List (List UInt8)) {n : Nat} (hn : n ≤ 8) (hv : ∀ x ∈ V, x.length ≤ 1152921504606846976) : PrsOk (prsN V n) := by
  refine ⟨by simp [prsN]; omega, fun x hx => ?_, names_apart V hn, fun x hx => ?_⟩
  · obtain ⟨j, hj, rfl⟩ := List.mem_map.1 hx
    have hj := List.mem_range.1 hj
    have h := fdN_ok j (by omega)
    have hname := h.all
    rw [fdN_name] at hname
    exact ⟨by show 0 < 2; decide, by show 2 ≤ 20; decide, hname⟩
  · obtain ⟨j, hj, rfl⟩ := List.mem_map.1 hx
    show (V.getD j []).length ≤ 1152921504606846976
    by_cases g : j < V.length
    · rw [List.getD, List.getElem?_eq_getElem g]
      exact hv _ (List.getElem_mem g)
    · rw [List.getD, List.getElem?_eq_none (by omega)]
      simp
theorem fill_range (P V : List (List UInt8)) (look : List UInt8 → List UInt8) : ∀ l : List Nat, (∀ j ∈ l, look (nameN j) = V.getD j []) → fillT look (l.map fun j => (P.getD j [], fdN j)) [] = l.flatMap fun j => P.getD j [] ++ valF (V.getD j []) (fdN j)
  | [], _ => rfl
  | j :: r, h => by
    have ih := fill_range P V look r (fun x hx => h x (List.mem_cons_of_mem _ hx))
    rw [List.map_cons, List.flatMap_cons, fillT, ih, fdN_name, h j List.mem_cons_self, List.append_assoc]
theorem fill_top (P V : List (List UInt8)) {n : Nat} (hn : n ≤ 8) : fillT (lookF (prsN V n).reverse) (segN P n) [] = wantN P V n := by
  refine fill_range P V _ (List.range n) (fun j hj => ?_)
  have hm : (nameN j, V.getD j []) ∈ prsN V n := List.mem_map.2 ⟨j, hj, rfl⟩
  unfold lookF
  rw [look_mem (v := V.getD j []) (by rw [List.map_reverse]; exact List.pairwise_reverse.2 ((names_apart V hn).imp Ne.symm)) (List.mem_reverse.2 hm)]
  rfl
theorem names_in (P V : List (List UInt8)) (n : Nat) : ∀ x ∈ segN P n, x.2.name ∈ (prsN V n).map (·.1) := by
  intro x hx
  obtain ⟨j, hj, rfl⟩ := List.mem_map.1 hx
  rw [fdN_name]
  exact List.mem_map.2 ⟨_, List.mem_map.2 ⟨j, hj, rfl⟩, rfl⟩
theorem tcode_cases (s : ByteArray) : tcode s = 0 ∨ tcode s = 4 ∨ tcode s = 9 := by
  unfold tcode
  split
  · exact .inr (.inl rfl)
  · split
    · exact .inl rfl
    · exact .inr (.inr rfl)
end Go.Proofs.Ytfohehldkchnjaa
