/- The reference's small functions (letheref08): New, Load, copied. -/
import Derived.Test.YtpdppacafkdgdaaLw2
set_option linter.unusedVariables false
set_option linter.unusedSimpArgs false
namespace Go.Proofs.Ytpdppacafkdgdaa
open Go Go.RowKit Go.Le
end Go.Proofs.Ytpdppacafkdgdaa
