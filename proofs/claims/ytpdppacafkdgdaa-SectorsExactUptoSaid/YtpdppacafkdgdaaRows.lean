/-
  No cell of these rows narrows 'for every input' (looked for: loops, veiled, ifaces, maps, wideKeys, modest, calm, conditions, laid).
  DERIVED. THE GIVEN ROWS OF THIS SEAT. 6 by the template 'for every input the law returns true; each argument reads behind the call as it read before'; 0 by the template 'total and deterministic' (their statements: YtpdppacafkdgdaaTotals.lean).
  GIVEN WITH THE SEED: the statements are not yours to turn. If you find one false, say at which input.
  Laid BY PROGRAM, IN A SANDBOX (cutbox-rows.mjs): the forced cells as the released guide's own fill.sh prints them over the translation 38bfa160957e92fc… (all of the seat's roots in one cut). By AI agents, Wed Nov 11 2026. No macro, syntax, notation, axiom, sorry.
-/
import Derived.Test.YtpdppacafkdgdaaChecked
import GoSem.Claim
import GoSem.ClaimJoined
import GoSem.ClaimMapViews
import Derived.JoinedTies
import Derived.KernelRfl
namespace Go.Proofs.Ytpdppacafkdgdaa
/- THE CELL 'sum', in the pinned program and in every row, IS THE sha256 OF THE DUMP (.gsa) THAT YtpdppacafkdgdaaProg.lean LOADS. Nothing in Lean hashes anything: it is a label: what it is worth is what the hold of that sum in a sandbox is worth. -/
noncomputable def Try.pinned : Pinned := { name := "ytpdppacafkdgdaa", sum := "38bfa160957e92fcd34e7d01a43b3ed932ab64d16d57d601da1359ccb995f641", checked := Try.checked }
namespace Rows
def none {H : Type} : Left H := { results := [], args := [] }

/-- 'lethelaw08.SectorsLoss': WHATEVER THE INPUT: true; the input reads as it did. -/
def sectorsLossSpec : ChangeSpec := { name := "sectorsLoss", fn := fun _ => fun
  | [d1, d2, d3] => { results := [.lit (.bool true)], args := [d1, d2, d3] }
  | _ => none }
def sectorsLossRow : OpenClaim := { program := "ytpdppacafkdgdaa", sum := "38bfa160957e92fcd34e7d01a43b3ed932ab64d16d57d601da1359ccb995f641", func := "lethe/lethelaw08.SectorsLoss", spec := "sectorsLoss", apart := false }
def SectorsLossSaid : Prop := sectorsLossRow.holds Try.pinned (OpenSpec.ofChange sectorsLossSpec)

/-- ITS FALSE NEIGHBOUR: 'it returns false'. Refute it at one input. -/
def sectorsLossWrong : ChangeSpec := { name := "sectorsLoss", fn := fun _ => fun
  | [d1, d2, d3] => { results := [.lit (.bool false)], args := [d1, d2, d3] }
  | _ => none }
def SectorsLossWrongFalsely : Prop := sectorsLossRow.holds Try.pinned (OpenSpec.ofChange sectorsLossWrong)

/-- 'lethelaw08.SectorsNames': WHATEVER THE INPUT: true; the input reads as it did. -/
def sectorsNamesSpec : ChangeSpec := { name := "sectorsNames", fn := fun _ => fun
  | [] => { results := [.lit (.bool true)], args := [] }
  | _ => none }
def sectorsNamesRow : OpenClaim := { program := "ytpdppacafkdgdaa", sum := "38bfa160957e92fcd34e7d01a43b3ed932ab64d16d57d601da1359ccb995f641", func := "lethe/lethelaw08.SectorsNames", spec := "sectorsNames", apart := false }
def SectorsNamesSaid : Prop := sectorsNamesRow.holds Try.pinned (OpenSpec.ofChange sectorsNamesSpec)

/-- ITS FALSE NEIGHBOUR: 'it returns false'. Refute it at one input. -/
def sectorsNamesWrong : ChangeSpec := { name := "sectorsNames", fn := fun _ => fun
  | [] => { results := [.lit (.bool false)], args := [] }
  | _ => none }
def SectorsNamesWrongFalsely : Prop := sectorsNamesRow.holds Try.pinned (OpenSpec.ofChange sectorsNamesWrong)

/-- 'lethelaw08.SectorsKeep': WHATEVER THE INPUT: true; the input reads as it did. -/
def sectorsKeepSpec : ChangeSpec := { name := "sectorsKeep", fn := fun _ => fun
  | [d] => { results := [.lit (.bool true)], args := [d] }
  | _ => none }
def sectorsKeepRow : OpenClaim := { program := "ytpdppacafkdgdaa", sum := "38bfa160957e92fcd34e7d01a43b3ed932ab64d16d57d601da1359ccb995f641", func := "lethe/lethelaw08.SectorsKeep", spec := "sectorsKeep", apart := false }
def SectorsKeepSaid : Prop := sectorsKeepRow.holds Try.pinned (OpenSpec.ofChange sectorsKeepSpec)

/-- ITS FALSE NEIGHBOUR: 'it returns false'. Refute it at one input. -/
def sectorsKeepWrong : ChangeSpec := { name := "sectorsKeep", fn := fun _ => fun
  | [d] => { results := [.lit (.bool false)], args := [d] }
  | _ => none }
def SectorsKeepWrongFalsely : Prop := sectorsKeepRow.holds Try.pinned (OpenSpec.ofChange sectorsKeepWrong)

/-- 'lethelaw08.SectorsArmed': WHATEVER THE INPUT: true; the input reads as it did. -/
def sectorsArmedSpec : ChangeSpec := { name := "sectorsArmed", fn := fun _ => fun
  | [d1, d2, d3] => { results := [.lit (.bool true)], args := [d1, d2, d3] }
  | _ => none }
def sectorsArmedRow : OpenClaim := { program := "ytpdppacafkdgdaa", sum := "38bfa160957e92fcd34e7d01a43b3ed932ab64d16d57d601da1359ccb995f641", func := "lethe/lethelaw08.SectorsArmed", spec := "sectorsArmed", apart := false }
def SectorsArmedSaid : Prop := sectorsArmedRow.holds Try.pinned (OpenSpec.ofChange sectorsArmedSpec)

/-- ITS FALSE NEIGHBOUR: 'it returns false'. Refute it at one input. -/
def sectorsArmedWrong : ChangeSpec := { name := "sectorsArmed", fn := fun _ => fun
  | [d1, d2, d3] => { results := [.lit (.bool false)], args := [d1, d2, d3] }
  | _ => none }
def SectorsArmedWrongFalsely : Prop := sectorsArmedRow.holds Try.pinned (OpenSpec.ofChange sectorsArmedWrong)

/-- 'lethelaw08.SectorsImage': WHATEVER THE INPUT: true; the input reads as it did. -/
def sectorsImageSpec : ChangeSpec := { name := "sectorsImage", fn := fun _ => fun
  | [d1, d2] => { results := [.lit (.bool true)], args := [d1, d2] }
  | _ => none }
def sectorsImageRow : OpenClaim := { program := "ytpdppacafkdgdaa", sum := "38bfa160957e92fcd34e7d01a43b3ed932ab64d16d57d601da1359ccb995f641", func := "lethe/lethelaw08.SectorsImage", spec := "sectorsImage", apart := false }
def SectorsImageSaid : Prop := sectorsImageRow.holds Try.pinned (OpenSpec.ofChange sectorsImageSpec)

/-- ITS FALSE NEIGHBOUR: 'it returns false'. Refute it at one input. -/
def sectorsImageWrong : ChangeSpec := { name := "sectorsImage", fn := fun _ => fun
  | [d1, d2] => { results := [.lit (.bool false)], args := [d1, d2] }
  | _ => none }
def SectorsImageWrongFalsely : Prop := sectorsImageRow.holds Try.pinned (OpenSpec.ofChange sectorsImageWrong)

/-- 'lethelaw08.SectorsExact': WHATEVER THE INPUT: true; the input reads as it did. -/
def sectorsExactSpec : ChangeSpec := { name := "sectorsExact", fn := fun _ => fun
  | [d1, d2, d3] => { results := [.lit (.bool true)], args := [d1, d2, d3] }
  | _ => none }
def sectorsExactRow : OpenClaim := { program := "ytpdppacafkdgdaa", sum := "38bfa160957e92fcd34e7d01a43b3ed932ab64d16d57d601da1359ccb995f641", func := "lethe/lethelaw08.SectorsExact", spec := "sectorsExact", apart := false }
def SectorsExactSaid : Prop := sectorsExactRow.holds Try.pinned (OpenSpec.ofChange sectorsExactSpec)

/-- ITS FALSE NEIGHBOUR: 'it returns false'. Refute it at one input. -/
def sectorsExactWrong : ChangeSpec := { name := "sectorsExact", fn := fun _ => fun
  | [d1, d2, d3] => { results := [.lit (.bool false)], args := [d1, d2, d3] }
  | _ => none }
def SectorsExactWrongFalsely : Prop := sectorsExactRow.holds Try.pinned (OpenSpec.ofChange sectorsExactWrong)

/- THE SECOND FORM. 'bulk': how many values and letters a reading holds, each counted each time it is reached (what is shared counts as often as it is met; a slice's spare places count too). A statement '..UptoSaid' is the law's where the arguments, and the package variables that the reading takes, are together of bulk at most 1048576: NARROWER than '..Said'. Prove '..Said' where nothing that the law and all that it calls make is longer than what came in: it says more and counts as full. Else prove '..UptoSaid'. A law counts once. -/
mutual
def uptoBulk {H : Type} : DataW H → Nat
  | .lit (.string bytes) => bytes.length + 1
  | .lit _ => 1
  | .nil => 1
  | .ptr d => uptoBulk d + 1
  | .slice elems spare => uptoBulkAll elems + uptoBulkAll spare + 1
  | .agg parts => uptoBulkAll parts + 1
  | .iface _ d => uptoBulk d + 1
  | .map entries => uptoBulkEntries entries + 1
  | .held _ => 1
def uptoBulkAll {H : Type} : List (DataW H) → Nat
  | [] => 0
  | d :: r => uptoBulk d + uptoBulkAll r
def uptoBulkEntries {H : Type} : List (Lit × DataW H) → Nat
  | [] => 0
  | x :: r => uptoBulkEntry x + uptoBulkEntries r
def uptoBulkEntry {H : Type} : Lit × DataW H → Nat
  | (.string bytes, d) => bytes.length + uptoBulk d + 1
  | (_, d) => uptoBulk d + 1
 end
def uptoSmall : (H : Type) → List (DataW H) → Bool := fun _ ds => decide (uptoBulkAll ds ≤ 1048576)
def OpenSpec.upto (s : _root_.Go.ChangeSpec) : _root_.Go.OpenSpec := { _root_.Go.OpenSpec.ofChange s with cond := some uptoSmall }

/-- 'lethelaw08.SectorsLoss', WHERE WHAT IT READS IS OF BULK AT MOST 1048576: true; the input reads as it did. -/
def sectorsLossUptoRow : OpenClaim := { program := "ytpdppacafkdgdaa", sum := "38bfa160957e92fcd34e7d01a43b3ed932ab64d16d57d601da1359ccb995f641", func := "lethe/lethelaw08.SectorsLoss", spec := "sectorsLoss", apart := false, narrowed := true }
def SectorsLossUptoSaid : Prop := sectorsLossUptoRow.holds Try.pinned (OpenSpec.upto sectorsLossSpec)

/-- 'lethelaw08.SectorsNames', WHERE WHAT IT READS IS OF BULK AT MOST 1048576: true; the input reads as it did. -/
def sectorsNamesUptoRow : OpenClaim := { program := "ytpdppacafkdgdaa", sum := "38bfa160957e92fcd34e7d01a43b3ed932ab64d16d57d601da1359ccb995f641", func := "lethe/lethelaw08.SectorsNames", spec := "sectorsNames", apart := false, narrowed := true }
def SectorsNamesUptoSaid : Prop := sectorsNamesUptoRow.holds Try.pinned (OpenSpec.upto sectorsNamesSpec)

/-- 'lethelaw08.SectorsKeep', WHERE WHAT IT READS IS OF BULK AT MOST 1048576: true; the input reads as it did. -/
def sectorsKeepUptoRow : OpenClaim := { program := "ytpdppacafkdgdaa", sum := "38bfa160957e92fcd34e7d01a43b3ed932ab64d16d57d601da1359ccb995f641", func := "lethe/lethelaw08.SectorsKeep", spec := "sectorsKeep", apart := false, narrowed := true }
def SectorsKeepUptoSaid : Prop := sectorsKeepUptoRow.holds Try.pinned (OpenSpec.upto sectorsKeepSpec)

/-- 'lethelaw08.SectorsArmed', WHERE WHAT IT READS IS OF BULK AT MOST 1048576: true; the input reads as it did. -/
def sectorsArmedUptoRow : OpenClaim := { program := "ytpdppacafkdgdaa", sum := "38bfa160957e92fcd34e7d01a43b3ed932ab64d16d57d601da1359ccb995f641", func := "lethe/lethelaw08.SectorsArmed", spec := "sectorsArmed", apart := false, narrowed := true }
def SectorsArmedUptoSaid : Prop := sectorsArmedUptoRow.holds Try.pinned (OpenSpec.upto sectorsArmedSpec)

/-- 'lethelaw08.SectorsImage', WHERE WHAT IT READS IS OF BULK AT MOST 1048576: true; the input reads as it did. -/
def sectorsImageUptoRow : OpenClaim := { program := "ytpdppacafkdgdaa", sum := "38bfa160957e92fcd34e7d01a43b3ed932ab64d16d57d601da1359ccb995f641", func := "lethe/lethelaw08.SectorsImage", spec := "sectorsImage", apart := false, narrowed := true }
def SectorsImageUptoSaid : Prop := sectorsImageUptoRow.holds Try.pinned (OpenSpec.upto sectorsImageSpec)

/-- 'lethelaw08.SectorsExact', WHERE WHAT IT READS IS OF BULK AT MOST 1048576: true; the input reads as it did. -/
def sectorsExactUptoRow : OpenClaim := { program := "ytpdppacafkdgdaa", sum := "38bfa160957e92fcd34e7d01a43b3ed932ab64d16d57d601da1359ccb995f641", func := "lethe/lethelaw08.SectorsExact", spec := "sectorsExact", apart := false, narrowed := true }
def SectorsExactUptoSaid : Prop := sectorsExactUptoRow.holds Try.pinned (OpenSpec.upto sectorsExactSpec)

end Rows
end Go.Proofs.Ytpdppacafkdgdaa
