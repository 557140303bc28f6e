/-
  NARROWER THAN 'FOR EVERY INPUT', by the rows' own cells (each row's printed sentence says how): PageSums: laid · PageExact: laid · PageBack: laid · PageOneForm: laid · PageSpoilt: laid.
  DERIVED. THE GIVEN ROWS OF THIS SEAT. 5 by the template 'for every input the law returns true; each argument reads behind the call as it read before'; 0 by the template 'total and deterministic' (their statements: YtipmfbpomhcfcaaDoorTotals.lean).
  GIVEN WITH THE SEED: the statements are not yours to turn. If you find one false, say at which input.
  Laid BY PROGRAM, IN A SANDBOX (cutbox-rows.mjs): the forced cells as the released guide's own fill.sh prints them over the translation 3c315535eeb599e4… (all of the seat's roots in one cut). By AI agents, Wed Nov 11 2026. No macro, syntax, notation, axiom, sorry.
-/
import Derived.Test.YtipmfbpomhcfcaaDoorChecked
import GoSem.Claim
import GoSem.ClaimJoined
import GoSem.ClaimMapViews
import Derived.JoinedTies
import Derived.KernelRfl
namespace Go.Proofs.YtipmfbpomhcfcaaDoor
/- THE CELL 'sum', in the pinned program and in every row, IS THE sha256 OF THE DUMP (.gsa) THAT YtipmfbpomhcfcaaDoorProg.lean LOADS. Nothing in Lean hashes anything: it is a label: what it is worth is what the hold of that sum in a sandbox is worth. -/
noncomputable def Tryd.pinned : Pinned := { name := "ytipmfbpomhcfcaadoor", sum := "3c315535eeb599e43e85cd3cd40a6db9d37fbed553388f09e957022493d57345", checked := Tryd.checked }
namespace Rows
def none {H : Type} : Left H := { results := [], args := [] }

/- WHAT THE LISTED PACKAGE-LEVEL VARIABLES READ AS WHEN THE CALL BEGINS. Each datum BY PROGRAM (the guide's laid-datum.mjs) off the statement by which the dump's own 'gosem.cut.vars' lays the variable. In a bare row this is a premise. The card (YtipmfbpomhcfcaaDoorCards.lean) ties it to the program's text. -/
def laid_lethe_page_table {H : Type} : DataW H := .agg [.lit (.int .u32 0), .lit (.int .u32 274646895), .lit (.int .u32 549293790), .lit (.int .u32 820201905), .lit (.int .u32 1098587580), .lit (.int .u32 1361435347), .lit (.int .u32 1640403810), .lit (.int .u32 1905808397), .lit (.int .u32 2197175160), .lit (.int .u32 2460548119), .lit (.int .u32 2722870694), .lit (.int .u32 2987750089), .lit (.int .u32 3280807620), .lit (.int .u32 3553878443), .lit (.int .u32 3811616794), .lit (.int .u32 4084100981)]

/-- 'lethelaw10.PageSums': WHATEVER THE INPUT: true; the input reads as it did. -/
def pageSumsSpec : ChangeSpec := { name := "pageSums", fn := fun _ => fun
  | [d1, d2, d3] => { results := [.lit (.bool true)], args := [d1, d2, d3] }
  | _ => none }
def pageSumsRow : OpenClaim := { program := "ytipmfbpomhcfcaadoor", sum := "3c315535eeb599e43e85cd3cd40a6db9d37fbed553388f09e957022493d57345", func := "lethe/lethelaw10.PageSums", spec := "pageSums", named := ["lethe/page.table"], apart := false, laid := [("lethe/page.table", laid_lethe_page_table)] }
def PageSumsSaid : Prop := pageSumsRow.holds Tryd.pinned (OpenSpec.ofChange pageSumsSpec)

/-- ITS FALSE NEIGHBOUR: 'it returns false'. Refute it at one input. -/
def pageSumsWrong : ChangeSpec := { name := "pageSums", fn := fun _ => fun
  | [d1, d2, d3] => { results := [.lit (.bool false)], args := [d1, d2, d3] }
  | _ => none }
def PageSumsWrongFalsely : Prop := pageSumsRow.holds Tryd.pinned (OpenSpec.ofChange pageSumsWrong)

/-- 'lethelaw10.PageExact': WHATEVER THE INPUT: true; the input reads as it did. -/
def pageExactSpec : ChangeSpec := { name := "pageExact", fn := fun _ => fun
  | [d] => { results := [.lit (.bool true)], args := [d] }
  | _ => none }
def pageExactRow : OpenClaim := { program := "ytipmfbpomhcfcaadoor", sum := "3c315535eeb599e43e85cd3cd40a6db9d37fbed553388f09e957022493d57345", func := "lethe/lethelaw10.PageExact", spec := "pageExact", named := ["lethe/page.table"], apart := false, laid := [("lethe/page.table", laid_lethe_page_table)] }
def PageExactSaid : Prop := pageExactRow.holds Tryd.pinned (OpenSpec.ofChange pageExactSpec)

/-- ITS FALSE NEIGHBOUR: 'it returns false'. Refute it at one input. -/
def pageExactWrong : ChangeSpec := { name := "pageExact", fn := fun _ => fun
  | [d] => { results := [.lit (.bool false)], args := [d] }
  | _ => none }
def PageExactWrongFalsely : Prop := pageExactRow.holds Tryd.pinned (OpenSpec.ofChange pageExactWrong)

/-- 'lethelaw10.PageBack': WHATEVER THE INPUT: true; the input reads as it did. -/
def pageBackSpec : ChangeSpec := { name := "pageBack", fn := fun _ => fun
  | [d1, d2, d3, d4] => { results := [.lit (.bool true)], args := [d1, d2, d3, d4] }
  | _ => none }
def pageBackRow : OpenClaim := { program := "ytipmfbpomhcfcaadoor", sum := "3c315535eeb599e43e85cd3cd40a6db9d37fbed553388f09e957022493d57345", func := "lethe/lethelaw10.PageBack", spec := "pageBack", named := ["lethe/page.table"], apart := false, laid := [("lethe/page.table", laid_lethe_page_table)] }
def PageBackSaid : Prop := pageBackRow.holds Tryd.pinned (OpenSpec.ofChange pageBackSpec)

/-- ITS FALSE NEIGHBOUR: 'it returns false'. Refute it at one input. -/
def pageBackWrong : ChangeSpec := { name := "pageBack", fn := fun _ => fun
  | [d1, d2, d3, d4] => { results := [.lit (.bool false)], args := [d1, d2, d3, d4] }
  | _ => none }
def PageBackWrongFalsely : Prop := pageBackRow.holds Tryd.pinned (OpenSpec.ofChange pageBackWrong)

/-- 'lethelaw10.PageOneForm': WHATEVER THE INPUT: true; the input reads as it did. -/
def pageOneFormSpec : ChangeSpec := { name := "pageOneForm", fn := fun _ => fun
  | [d1, d2] => { results := [.lit (.bool true)], args := [d1, d2] }
  | _ => none }
def pageOneFormRow : OpenClaim := { program := "ytipmfbpomhcfcaadoor", sum := "3c315535eeb599e43e85cd3cd40a6db9d37fbed553388f09e957022493d57345", func := "lethe/lethelaw10.PageOneForm", spec := "pageOneForm", named := ["lethe/page.table"], apart := false, laid := [("lethe/page.table", laid_lethe_page_table)] }
def PageOneFormSaid : Prop := pageOneFormRow.holds Tryd.pinned (OpenSpec.ofChange pageOneFormSpec)

/-- ITS FALSE NEIGHBOUR: 'it returns false'. Refute it at one input. -/
def pageOneFormWrong : ChangeSpec := { name := "pageOneForm", fn := fun _ => fun
  | [d1, d2] => { results := [.lit (.bool false)], args := [d1, d2] }
  | _ => none }
def PageOneFormWrongFalsely : Prop := pageOneFormRow.holds Tryd.pinned (OpenSpec.ofChange pageOneFormWrong)

/-- 'lethelaw10.PageSpoilt': WHATEVER THE INPUT: true; the input reads as it did. -/
def pageSpoiltSpec : ChangeSpec := { name := "pageSpoilt", fn := fun _ => fun
  | [d1, d2, d3, d4, d5] => { results := [.lit (.bool true)], args := [d1, d2, d3, d4, d5] }
  | _ => none }
def pageSpoiltRow : OpenClaim := { program := "ytipmfbpomhcfcaadoor", sum := "3c315535eeb599e43e85cd3cd40a6db9d37fbed553388f09e957022493d57345", func := "lethe/lethelaw10.PageSpoilt", spec := "pageSpoilt", named := ["lethe/page.table"], apart := false, laid := [("lethe/page.table", laid_lethe_page_table)] }
def PageSpoiltSaid : Prop := pageSpoiltRow.holds Tryd.pinned (OpenSpec.ofChange pageSpoiltSpec)

/-- ITS FALSE NEIGHBOUR: 'it returns false'. Refute it at one input. -/
def pageSpoiltWrong : ChangeSpec := { name := "pageSpoilt", fn := fun _ => fun
  | [d1, d2, d3, d4, d5] => { results := [.lit (.bool false)], args := [d1, d2, d3, d4, d5] }
  | _ => none }
def PageSpoiltWrongFalsely : Prop := pageSpoiltRow.holds Tryd.pinned (OpenSpec.ofChange pageSpoiltWrong)

/- THE SECOND FORM. 'bulk': how many values and letters a reading holds, each counted each time it is reached (what is shared counts as often as it is met; a slice's spare places count too). A statement '..UptoSaid' is the law's where the arguments, and the package variables that the reading takes, are together of bulk at most 1048576: NARROWER than '..Said'. Prove '..Said' where nothing that the law and all that it calls make is longer than what came in: it says more and counts as full. Else prove '..UptoSaid'. A law counts once. -/
mutual
def uptoBulk {H : Type} : DataW H → Nat
  | .lit (.string bytes) => bytes.length + 1
  | .lit _ => 1
  | .nil => 1
  | .ptr d => uptoBulk d + 1
  | .slice elems spare => uptoBulkAll elems + uptoBulkAll spare + 1
  | .agg parts => uptoBulkAll parts + 1
  | .iface _ d => uptoBulk d + 1
  | .map entries => uptoBulkEntries entries + 1
  | .held _ => 1
def uptoBulkAll {H : Type} : List (DataW H) → Nat
  | [] => 0
  | d :: r => uptoBulk d + uptoBulkAll r
def uptoBulkEntries {H : Type} : List (Lit × DataW H) → Nat
  | [] => 0
  | x :: r => uptoBulkEntry x + uptoBulkEntries r
def uptoBulkEntry {H : Type} : Lit × DataW H → Nat
  | (.string bytes, d) => bytes.length + uptoBulk d + 1
  | (_, d) => uptoBulk d + 1
 end
def uptoSmall : (H : Type) → List (DataW H) → Bool := fun _ ds => decide (uptoBulkAll ds ≤ 1048576)
def OpenSpec.upto (s : _root_.Go.ChangeSpec) : _root_.Go.OpenSpec := { _root_.Go.OpenSpec.ofChange s with cond := some uptoSmall }

/-- 'lethelaw10.PageSums', WHERE WHAT IT READS IS OF BULK AT MOST 1048576: true; the input reads as it did. -/
def pageSumsUptoRow : OpenClaim := { program := "ytipmfbpomhcfcaadoor", sum := "3c315535eeb599e43e85cd3cd40a6db9d37fbed553388f09e957022493d57345", func := "lethe/lethelaw10.PageSums", spec := "pageSums", named := ["lethe/page.table"], apart := false, laid := [("lethe/page.table", laid_lethe_page_table)], narrowed := true }
def PageSumsUptoSaid : Prop := pageSumsUptoRow.holds Tryd.pinned (OpenSpec.upto pageSumsSpec)

/-- 'lethelaw10.PageExact', WHERE WHAT IT READS IS OF BULK AT MOST 1048576: true; the input reads as it did. -/
def pageExactUptoRow : OpenClaim := { program := "ytipmfbpomhcfcaadoor", sum := "3c315535eeb599e43e85cd3cd40a6db9d37fbed553388f09e957022493d57345", func := "lethe/lethelaw10.PageExact", spec := "pageExact", named := ["lethe/page.table"], apart := false, laid := [("lethe/page.table", laid_lethe_page_table)], narrowed := true }
def PageExactUptoSaid : Prop := pageExactUptoRow.holds Tryd.pinned (OpenSpec.upto pageExactSpec)

/-- 'lethelaw10.PageBack', WHERE WHAT IT READS IS OF BULK AT MOST 1048576: true; the input reads as it did. -/
def pageBackUptoRow : OpenClaim := { program := "ytipmfbpomhcfcaadoor", sum := "3c315535eeb599e43e85cd3cd40a6db9d37fbed553388f09e957022493d57345", func := "lethe/lethelaw10.PageBack", spec := "pageBack", named := ["lethe/page.table"], apart := false, laid := [("lethe/page.table", laid_lethe_page_table)], narrowed := true }
def PageBackUptoSaid : Prop := pageBackUptoRow.holds Tryd.pinned (OpenSpec.upto pageBackSpec)

/-- 'lethelaw10.PageOneForm', WHERE WHAT IT READS IS OF BULK AT MOST 1048576: true; the input reads as it did. -/
def pageOneFormUptoRow : OpenClaim := { program := "ytipmfbpomhcfcaadoor", sum := "3c315535eeb599e43e85cd3cd40a6db9d37fbed553388f09e957022493d57345", func := "lethe/lethelaw10.PageOneForm", spec := "pageOneForm", named := ["lethe/page.table"], apart := false, laid := [("lethe/page.table", laid_lethe_page_table)], narrowed := true }
def PageOneFormUptoSaid : Prop := pageOneFormUptoRow.holds Tryd.pinned (OpenSpec.upto pageOneFormSpec)

/-- 'lethelaw10.PageSpoilt', WHERE WHAT IT READS IS OF BULK AT MOST 1048576: true; the input reads as it did. -/
def pageSpoiltUptoRow : OpenClaim := { program := "ytipmfbpomhcfcaadoor", sum := "3c315535eeb599e43e85cd3cd40a6db9d37fbed553388f09e957022493d57345", func := "lethe/lethelaw10.PageSpoilt", spec := "pageSpoilt", named := ["lethe/page.table"], apart := false, laid := [("lethe/page.table", laid_lethe_page_table)], narrowed := true }
def PageSpoiltUptoSaid : Prop := pageSpoiltUptoRow.holds Tryd.pinned (OpenSpec.upto pageSpoiltSpec)

end Rows
end Go.Proofs.YtipmfbpomhcfcaaDoor
