/-
  SectorsNames: the layer's numbers and limits are as told.
  Conditions: none beyond the row's own.
-/
import Derived.Test.YtpdppacafkdgdaaNames
import Derived.Test.YtpdppacafkdgdaaRow
import Derived.Test.YtpdppacafkdgdaaRows
import Derived.WalkKit
import Derived.ProofKit
import Derived.OpenShut
namespace Go.Proofs.Ytpdppacafkdgdaa.sectorsNames
open Go.ChangeShapes Go.WideShapes Go.ChangeAt Go.RowKit Go.Le
set_option linter.unusedVariables false
theorem own : ownKnob Try.prog.godebug = none := by kernel_rfl
theorem laidOut : laidOutB Try.prog = true := by kernel_rfl

set_option maxRecDepth 100000 in
theorem lifted (os : Os) (started : os.Started) (H : Type) (enc : TypeId × Value → H) :
    ReturnsInHanded {} Try.checked os 4 .any (Rows.sectorsNamesSpec.pre6 enc Try.prog Try.f4 Rows.sectorsNamesRow.domain false) (Rows.sectorsNamesSpec.post enc Try.prog Try.f4 false true false false) := by
  refine returnsInHanded_of_change (C := Try.checked) own started (by kernel_rfl) Try.func4
    (ChangeSpec.witness6 (enc := enc) (C := Try.checked) false ⟨#[], #[], []⟩ 8 (by kernel_rfl) (by kernel_rfl) (by kernel_rfl) (by kernel_rfl)) ?_
  intro W base args ds gs before hval0 hW hcnd _
  have hval : ∀ (j : Nat) t v, Try.f4.params[j]? = some t → args[j]? = some v → Value.okWide Try.prog W .any base t v := hval0
  have hW' := hW
  obtain ⟨p, q, hA0, hV, rfl, hfz, hnd⟩ := hW
  have hA : DataW.TrodAll enc Try.prog W 0 (fun _ => true) true Try.f4.params.toList args.toList ds p := hA0
  rw [Try.params4] at hA hval
  obtain ⟨rfl, rfl, rfl⟩ := trodAll_none hA
  refine (names_any W).mono fun e W' ⟨he, hf⟩ => ⟨_, he, ?_⟩
  refine law_post (tb := 4) laidOut (by rw [Try.params4]; decide +kernel) hW' rfl (fun es hes => ?_) (by kernel_rfl) Try.underlying4 hf
  match es, hes with
  | [], _ => rfl

theorem over : Rows.sectorsNamesRow.holds Try.pinned (OpenSpec.ofChange Rows.sectorsNamesSpec) :=
  OpenClaim.holds_of_wide 4 Try.f4 rfl rfl rfl rfl rfl rfl rfl ⟨rfl, rfl, rfl, rfl, rfl⟩ rfl rfl rfl rfl rfl (by kernel_rfl) Try.func4 (by kernel_rfl)
    (of_decide_eq_true (by kernel_rfl)) (by unfold Func.isWrapper; first | (rw [if_pos (by decide +kernel)]; kernel_rfl) | (rw [if_neg (by decide +kernel)]; exact ⟨rfl, rfl⟩))
    (fun os started H enc _ => lifted os started H enc)

theorem proved : Rows.SectorsNamesSaid := over
#print axioms proved
end Go.Proofs.Ytpdppacafkdgdaa.sectorsNames
