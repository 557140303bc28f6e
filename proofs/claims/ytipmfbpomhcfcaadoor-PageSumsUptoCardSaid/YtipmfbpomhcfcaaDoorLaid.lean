/- What the rows of this seat have in common: the table at the begin, a world for the witness. -/
import Derived.Test.YtipmfbpomhcfcaaDoorCards
import Derived.Test.YtipmfbpomhcfcaaDoorTie
import Derived.Test.YtipmfbpomhcfcaaDoorRow
import Derived.Test.YtipmfbpomhcfcaaDoorPgSum
import Derived.ProofKit
import Derived.OpenShut
import Derived.Deep.DeepHandedRow
import Derived.Lib.LaidTab
set_option linter.unusedVariables false
set_option linter.unusedSimpArgs false
namespace Go.Proofs.YtipmfbpomhcfcaaDoor
open Go.ChangeShapes Go.WideShapes Go.ChangeAt Go.RowKit Go.Le

theorem own : ownKnob Tryd.prog.godebug = none := by kernel_rfl
theorem gTab : Tryd.prog.globalNamed "lethe/page.table" = some 0 := by kernel_rfl
theorem gTabType : (Tryd.prog.globals[0]?).map (·.type) = some 51 := by kernel_rfl
theorem cellsTab : Tryd.prog.cellsOf 51 = 16 := by kernel_rfl
theorem cellsU32 : Tryd.prog.cellsOf 23 = 1 := by kernel_rfl
theorem cellsU8 : Tryd.prog.cellsOf 5 = 1 := by kernel_rfl
theorem laidOut : laidOutB Tryd.prog = true := by kernel_rfl

/-- the table's numbers -/
def tabNums : List Int := [0, 274646895, 549293790, 820201905, 1098587580, 1361435347, 1640403810, 1905808397, 2197175160, 2460548119, 2722870694, 2987750089, 3280807620, 3553878443, 3811616794, 4084100981]
theorem tabNums_at : ∀ i, i < 16 → tabNums.getD i 0 = ((tabAt i).toNat : Int) := by decide

/-- what the row's list gives: the table's cells hold its sixteen numbers -/
theorem tabled {W : World} (h : laidMetH Tryd.prog [("lethe/page.table", Rows.laid_lethe_page_table)] W) : Tabled W := by
  have ht : Lib.TabIs Tryd.prog W "lethe/page.table" .u32 tabNums :=
    Lib.tabIs_of_head (rest := []) gTab gTabType Tryd.underlying51 Tryd.underlying23 cellsU32 cellsTab h
  intro i hi
  have := ht.cell gTab i (by simp [tabNums]; omega)
  rw [this, tabNums_at i hi]

/-- the table's cells -/
def tabCells : Array Value := #[.int .u32 0, .int .u32 274646895, .int .u32 549293790, .int .u32 820201905, .int .u32 1098587580, .int .u32 1361435347, .int .u32 1640403810, .int .u32 1905808397, .int .u32 2197175160, .int .u32 2460548119, .int .u32 2722870694, .int .u32 2987750089, .int .u32 3280807620, .int .u32 3553878443, .int .u32 3811616794, .int .u32 4084100981]
/-- a world for the witness: the settled one, the table holding what its initialiser lays -/
noncomputable def laidWorld (os : Os) : World :=
  { World.holding Tryd.prog os ⟨#[], #[], []⟩ with heap := (World.holding Tryd.prog os ⟨#[], #[], []⟩).heap.modify 0 fun
      | .cells _ t frozen => .cells tabCells t frozen
      | o => o }
theorem wf_i64 {n : Int} (h : (Lit.int .i64 n).wf = true) : -9223372036854775808 ≤ n ∧ n ≤ 9223372036854775807 := by
  simpa [Lit.wf, IntKind.min, IntKind.max, IntKind.signed, IntKind.bits] using h
end Go.Proofs.YtipmfbpomhcfcaaDoor
