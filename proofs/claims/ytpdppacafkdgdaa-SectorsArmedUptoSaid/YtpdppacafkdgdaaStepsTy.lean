/- The types Step and Loss of the laws, as the opening wants them. -/
import Derived.Test.YtpdppacafkdgdaaSteps
import Derived.Test.YtpdppacafkdgdaaKeep9
set_option linter.unusedVariables false
set_option linter.unusedSimpArgs false
namespace Go.Proofs.Ytpdppacafkdgdaa
open Go Go.RowKit Go.Le
theorem lossTy : LossTy Try.prog 38 3 36 39 :=
  ⟨⟨_, Try.underlying38, by kernel_rfl, by kernel_rfl, by kernel_rfl, by kernel_rfl⟩, Try.underlying3, Try.underlying36, Try.underlying39, by kernel_rfl, by kernel_rfl, by kernel_rfl, by kernel_rfl⟩
theorem stepTy : StepTy Try.prog 50 3 5 34 38 :=
  ⟨⟨_, Try.underlying50, by kernel_rfl, by kernel_rfl, by kernel_rfl, by kernel_rfl, by kernel_rfl, by kernel_rfl, by kernel_rfl⟩, Try.underlying3, Try.underlying5, Try.underlying34, by kernel_rfl, by kernel_rfl, by kernel_rfl, by kernel_rfl⟩
end Go.Proofs.Ytpdppacafkdgdaa
