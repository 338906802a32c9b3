/-
  No cell of these rows narrows 'for every input' (looked for: loops, veiled, ifaces, maps, wideKeys, modest, calm, conditions, laid).
  DERIVED. THE GIVEN ROWS OF THIS SEAT. 4 by the template 'for every input the law returns true; each argument reads behind the call as it read before'; 0 by the template 'total and deterministic' (their statements: YtjnaioellghggaaTotals.lean).
  GIVEN WITH THE SEED: the statements are not yours to turn. If you find one false, say at which input.
  Laid BY PROGRAM, IN A SANDBOX (cutbox-rows.mjs): the forced cells as the released guide's own fill.sh prints them over the translation 8f067efeb61c6143… (all of the seat's roots in one cut). By AI agents, Wed Nov 11 2026. No macro, syntax, notation, axiom, sorry.
-/
import Derived.Test.YtjnaioellghggaaChecked
import GoSem.Claim
import GoSem.ClaimJoined
import GoSem.ClaimMapViews
import Derived.JoinedTies
import Derived.KernelRfl
namespace Go.Proofs.Ytjnaioellghggaa
/- THE CELL 'sum', in the pinned program and in every row, IS THE sha256 OF THE DUMP (.gsa) THAT YtjnaioellghggaaProg.lean LOADS. Nothing in Lean hashes anything: it is a label: what it is worth is what the hold of that sum in a sandbox is worth. -/
noncomputable def Try.pinned : Pinned := { name := "ytjnaioellghggaa", sum := "8f067efeb61c6143caae75fef8fbf75d6c154b9050d838e4fbb94966b33f4575", checked := Try.checked }
namespace Rows
def none {H : Type} : Left H := { results := [], args := [] }

/-- 'portkeep2.CalLeads': WHATEVER THE INPUT: true; the input reads as it did. -/
def calLeadsSpec : ChangeSpec := { name := "calLeads", fn := fun _ => fun
  | [d1, d2, d3] => { results := [.lit (.bool true)], args := [d1, d2, d3] }
  | _ => none }
def calLeadsRow : OpenClaim := { program := "ytjnaioellghggaa", sum := "8f067efeb61c6143caae75fef8fbf75d6c154b9050d838e4fbb94966b33f4575", func := "porterslodge/portkeep2.CalLeads", spec := "calLeads", unfollowed := true, recurses := true, apart := false }
def CalLeadsSaid : Prop := calLeadsRow.holds Try.pinned (OpenSpec.ofChange calLeadsSpec)

/-- ITS FALSE NEIGHBOUR: 'it returns false'. Refute it at one input. -/
def calLeadsWrong : ChangeSpec := { name := "calLeads", fn := fun _ => fun
  | [d1, d2, d3] => { results := [.lit (.bool false)], args := [d1, d2, d3] }
  | _ => none }
def CalLeadsWrongFalsely : Prop := calLeadsRow.holds Try.pinned (OpenSpec.ofChange calLeadsWrong)

/-- 'portkeep2.CalSpansAdd': WHATEVER THE INPUT: true; the input reads as it did. -/
def calSpansAddSpec : ChangeSpec := { name := "calSpansAdd", fn := fun _ => fun
  | [d1, d2] => { results := [.lit (.bool true)], args := [d1, d2] }
  | _ => none }
def calSpansAddRow : OpenClaim := { program := "ytjnaioellghggaa", sum := "8f067efeb61c6143caae75fef8fbf75d6c154b9050d838e4fbb94966b33f4575", func := "porterslodge/portkeep2.CalSpansAdd", spec := "calSpansAdd", unfollowed := true, recurses := true, apart := false }
def CalSpansAddSaid : Prop := calSpansAddRow.holds Try.pinned (OpenSpec.ofChange calSpansAddSpec)

/-- ITS FALSE NEIGHBOUR: 'it returns false'. Refute it at one input. -/
def calSpansAddWrong : ChangeSpec := { name := "calSpansAdd", fn := fun _ => fun
  | [d1, d2] => { results := [.lit (.bool false)], args := [d1, d2] }
  | _ => none }
def CalSpansAddWrongFalsely : Prop := calSpansAddRow.holds Try.pinned (OpenSpec.ofChange calSpansAddWrong)

/-- 'portkeep2.CalAdds': WHATEVER THE INPUT: true; the input reads as it did. -/
def calAddsSpec : ChangeSpec := { name := "calAdds", fn := fun _ => fun
  | [d1, d2, d3, d4] => { results := [.lit (.bool true)], args := [d1, d2, d3, d4] }
  | _ => none }
def calAddsRow : OpenClaim := { program := "ytjnaioellghggaa", sum := "8f067efeb61c6143caae75fef8fbf75d6c154b9050d838e4fbb94966b33f4575", func := "porterslodge/portkeep2.CalAdds", spec := "calAdds", unfollowed := true, recurses := true, apart := false }
def CalAddsSaid : Prop := calAddsRow.holds Try.pinned (OpenSpec.ofChange calAddsSpec)

/-- ITS FALSE NEIGHBOUR: 'it returns false'. Refute it at one input. -/
def calAddsWrong : ChangeSpec := { name := "calAdds", fn := fun _ => fun
  | [d1, d2, d3, d4] => { results := [.lit (.bool false)], args := [d1, d2, d3, d4] }
  | _ => none }
def CalAddsWrongFalsely : Prop := calAddsRow.holds Try.pinned (OpenSpec.ofChange calAddsWrong)

/-- 'porttop.TopWorked': WHATEVER THE INPUT: true; the input reads as it did. -/
def topWorkedSpec : ChangeSpec := { name := "topWorked", fn := fun _ => fun
  | [d1, d2, d3, d4] => { results := [.lit (.bool true)], args := [d1, d2, d3, d4] }
  | _ => none }
def topWorkedRow : OpenClaim := { program := "ytjnaioellghggaa", sum := "8f067efeb61c6143caae75fef8fbf75d6c154b9050d838e4fbb94966b33f4575", func := "porterslodge/porttop.TopWorked", spec := "topWorked", unfollowed := true, recurses := true, apart := false }
def TopWorkedSaid : Prop := topWorkedRow.holds Try.pinned (OpenSpec.ofChange topWorkedSpec)

/-- ITS FALSE NEIGHBOUR: 'it returns false'. Refute it at one input. -/
def topWorkedWrong : ChangeSpec := { name := "topWorked", fn := fun _ => fun
  | [d1, d2, d3, d4] => { results := [.lit (.bool false)], args := [d1, d2, d3, d4] }
  | _ => none }
def TopWorkedWrongFalsely : Prop := topWorkedRow.holds Try.pinned (OpenSpec.ofChange topWorkedWrong)

/- THE SECOND FORM. 'bulk': how many values and letters a reading holds, each counted each time it is reached (what is shared counts as often as it is met; a slice's spare places count too). A statement '..UptoSaid' is the law's where the arguments, and the package variables that the reading takes, are together of bulk at most 1048576: NARROWER than '..Said'. Prove '..Said' where nothing that the law and all that it calls make is longer than what came in: it says more and counts as full. Else prove '..UptoSaid'. A law counts once. -/
mutual
def uptoBulk {H : Type} : DataW H → Nat
  | .lit (.string bytes) => bytes.length + 1
  | .lit _ => 1
  | .nil => 1
  | .ptr d => uptoBulk d + 1
  | .slice elems spare => uptoBulkAll elems + uptoBulkAll spare + 1
  | .agg parts => uptoBulkAll parts + 1
  | .iface _ d => uptoBulk d + 1
  | .map entries => uptoBulkEntries entries + 1
  | .held _ => 1
def uptoBulkAll {H : Type} : List (DataW H) → Nat
  | [] => 0
  | d :: r => uptoBulk d + uptoBulkAll r
def uptoBulkEntries {H : Type} : List (Lit × DataW H) → Nat
  | [] => 0
  | x :: r => uptoBulkEntry x + uptoBulkEntries r
def uptoBulkEntry {H : Type} : Lit × DataW H → Nat
  | (.string bytes, d) => bytes.length + uptoBulk d + 1
  | (_, d) => uptoBulk d + 1
 end
def uptoSmall : (H : Type) → List (DataW H) → Bool := fun _ ds => decide (uptoBulkAll ds ≤ 1048576)
def OpenSpec.upto (s : _root_.Go.ChangeSpec) : _root_.Go.OpenSpec := { _root_.Go.OpenSpec.ofChange s with cond := some uptoSmall }

/-- 'portkeep2.CalLeads', WHERE WHAT IT READS IS OF BULK AT MOST 1048576: true; the input reads as it did. -/
def calLeadsUptoRow : OpenClaim := { program := "ytjnaioellghggaa", sum := "8f067efeb61c6143caae75fef8fbf75d6c154b9050d838e4fbb94966b33f4575", func := "porterslodge/portkeep2.CalLeads", spec := "calLeads", unfollowed := true, recurses := true, apart := false, narrowed := true }
def CalLeadsUptoSaid : Prop := calLeadsUptoRow.holds Try.pinned (OpenSpec.upto calLeadsSpec)

/-- 'portkeep2.CalSpansAdd', WHERE WHAT IT READS IS OF BULK AT MOST 1048576: true; the input reads as it did. -/
def calSpansAddUptoRow : OpenClaim := { program := "ytjnaioellghggaa", sum := "8f067efeb61c6143caae75fef8fbf75d6c154b9050d838e4fbb94966b33f4575", func := "porterslodge/portkeep2.CalSpansAdd", spec := "calSpansAdd", unfollowed := true, recurses := true, apart := false, narrowed := true }
def CalSpansAddUptoSaid : Prop := calSpansAddUptoRow.holds Try.pinned (OpenSpec.upto calSpansAddSpec)

/-- 'portkeep2.CalAdds', WHERE WHAT IT READS IS OF BULK AT MOST 1048576: true; the input reads as it did. -/
def calAddsUptoRow : OpenClaim := { program := "ytjnaioellghggaa", sum := "8f067efeb61c6143caae75fef8fbf75d6c154b9050d838e4fbb94966b33f4575", func := "porterslodge/portkeep2.CalAdds", spec := "calAdds", unfollowed := true, recurses := true, apart := false, narrowed := true }
def CalAddsUptoSaid : Prop := calAddsUptoRow.holds Try.pinned (OpenSpec.upto calAddsSpec)

/-- 'porttop.TopWorked', WHERE WHAT IT READS IS OF BULK AT MOST 1048576: true; the input reads as it did. -/
def topWorkedUptoRow : OpenClaim := { program := "ytjnaioellghggaa", sum := "8f067efeb61c6143caae75fef8fbf75d6c154b9050d838e4fbb94966b33f4575", func := "porterslodge/porttop.TopWorked", spec := "topWorked", unfollowed := true, recurses := true, apart := false, narrowed := true }
def TopWorkedUptoSaid : Prop := topWorkedUptoRow.holds Try.pinned (OpenSpec.upto topWorkedSpec)

end Rows
end Go.Proofs.Ytjnaioellghggaa
