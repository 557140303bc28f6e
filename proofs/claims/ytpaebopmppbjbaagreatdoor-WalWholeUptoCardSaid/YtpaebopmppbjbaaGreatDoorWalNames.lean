/- WalNames, walked. -/
import Derived.Test.YtpaebopmppbjbaaGreatDoorWal20M
set_option linter.unusedVariables false
set_option linter.unusedSimpArgs false
namespace Go.Proofs.YtpaebopmppbjbaaGreatDoor
open Go Go.RowKit Go.Le

end Go.Proofs.YtpaebopmppbjbaaGreatDoor
