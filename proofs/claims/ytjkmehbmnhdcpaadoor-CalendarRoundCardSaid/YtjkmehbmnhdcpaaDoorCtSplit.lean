/- What cal's reader of one line begins with: the line split at its blanks, and the kind its first word tells. -/
import Derived.Test.YtjkmehbmnhdcpaaDoorCtB
import Derived.Test.YtjkmehbmnhdcpaaDoorCtLaw
namespace Go.Proofs.YtjkmehbmnhdcpaaDoor
open Go.RowKit

/-- the pieces of a line -/
def pieces (k : Nat) (ns : List Int) : List ByteArray := bs (wordL k) :: ns.map fun n => bs (Lib.itoa n)
theorem pieces_len (k : Nat) (ns : List Int) : (pieces k ns).length = ns.length + 1 := by simp [pieces]
theorem map_inj_data : ∀ {a b : List ByteArray}, a.map (fun x => x.data.toList) = b.map (fun x => x.data.toList) → a = b
  | [], [], _ => rfl
  | [], _ :: _, h => by simp at h
  | _ :: _, [], h => by simp at h
  | x :: a, y :: b, h => by
    simp only [List.map_cons, List.cons.injEq] at h
    rw [bs_inj h.1, map_inj_data h.2]
theorem splitB_line (k : Nat) (ns : List Int) : Lib.splitB ⟨#[32]⟩ 0 (Lib.countB (bs (lineL k ns)) ⟨#[32]⟩) (bs (lineL k ns)) = pieces k ns := by
  refine map_inj_data ?_
  rw [Lib.splitB_data]
  show Lib.splitK [32] 0 (Lib.count (lineL k ns) [32]) (lineL k ns) = _
  rw [split_line]
  simp only [pieces, List.map_cons, List.map_map]
  rfl
theorem countB_line (k : Nat) (ns : List Int) : Lib.countB (bs (lineL k ns)) ⟨#[32]⟩ = ns.length := by
  have h := Lib.splitB_all ⟨#[32]⟩ (by decide) 0 _ (bs (lineL k ns)) rfl
  rw [splitB_line, pieces_len] at h
  omega
theorem split_any (k : Nat) (ns : List Int) (hl : (lineL k ns).length ≤ 1000000) (w : World) (hE : Env w) :
    Calls Tryd.prog 26 #[.string (bs (lineL k ns)), .string ⟨#[32]⟩] w fun e w' =>
      e = .returned (.slice (some ⟨w.heap.size, 0, none⟩) (ns.length + 1) (ns.length + 1)) ∧ w' = w.alloc (.cells ((pieces k ns).map Value.string).toArray 9) := by
  obtain ⟨m, hm⟩ := hE.ml
  have c := Tryd.strings_Split (bs (lineL k ns)) ⟨#[32]⟩ m w (by rw [bs_size]; omega) hm (by decide)
  rw [splitB_line, countB_line] at c
  exact c

/-- the four words -/
def words : List ByteArray := [bs (wordL 0), bs (wordL 1), bs (wordL 2), bs (wordL 3)]
theorem words_idx (k : Nat) (hk : k ≤ 3) : Lib.idxOfS words (bs (wordL k)) = (k : Int) := by
  have h := Lib.idxFromS_hit (bs (wordL k)) words k 0 (by simp [words]; omega)
  rcases k with _ | _ | _ | _ | k
  · exact h rfl (fun j hj => by omega)
  · exact h rfl (fun j hj => by obtain rfl : j = 0 := by omega
                                decide)
  · exact h rfl (fun j hj => by
      rcases j with _ | _ | j
      · decide
      · decide
      · omega)
  · exact h rfl (fun j hj => by
      rcases j with _ | _ | _ | j
      · decide
      · decide
      · decide
      · omega)
  · omega
theorem kind_any (b k : Nat) (hk : k ≤ 3) (w : World) (h : Has w b #[.string (bs (wordL 0)), .string (bs (wordL 1)), .string (bs (wordL 2)), .string (bs (wordL 3))] 9) :
    Calls Tryd.prog 27 #[.slice (some ⟨b, 0, none⟩) 4 4, .string (bs (wordL k))] w fun e w' => e = .returned (.int .i64 (k : Nat)) ∧ w' = w := by
  have c := Tryd.slices_Index_string b 0 4 4 words (bs (wordL k)) w (by simp [words]) (by decide) (fun j hj => ?_)
  · rw [show words.take 4 = words from rfl, words_idx k hk] at c
    exact c
  · have hj4 : j < 4 := hj
    have hc := h.cell j
    rw [Nat.zero_add, hc]
    rcases j with _ | _ | _ | _ | j
    · rfl
    · rfl
    · rfl
    · rfl
    · omega
/-- the same, the words written out -/
abbrev wordCells : Array Value := #[.string ⟨#[122, 111, 110, 101]⟩, .string ⟨#[99, 104, 97, 110, 103, 101]⟩, .string ⟨#[115, 104, 105, 102, 116]⟩, .string ⟨#[100, 97, 121]⟩]
theorem kind_new (k : Nat) (hk : k ≤ 3) (W : List UInt8) (hW : wordL k = W) (w : World) :
    Calls Tryd.prog 27 #[.slice (some ⟨w.heap.size, 0, none⟩) 4 4, .string (bs W)] (w.alloc (.cells #[.string ⟨#[122, 111, 110, 101]⟩, .string ⟨#[99, 104, 97, 110, 103, 101]⟩, .string ⟨#[115, 104, 105, 102, 116]⟩, .string ⟨#[100, 97, 121]⟩] 9))
      fun e w' => e = .returned (.int .i64 (k : Nat)) ∧ w' = w.alloc (.cells #[.string ⟨#[122, 111, 110, 101]⟩, .string ⟨#[99, 104, 97, 110, 103, 101]⟩, .string ⟨#[115, 104, 105, 102, 116]⟩, .string ⟨#[100, 97, 121]⟩] 9) := by
  subst hW
  exact kind_any w.heap.size k hk _ (box1 w _ _).1
end Go.Proofs.YtjkmehbmnhdcpaaDoor
