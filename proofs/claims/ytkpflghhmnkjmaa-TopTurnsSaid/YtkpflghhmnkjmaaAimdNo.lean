/- aimd.Run where it refuses. -/
import Derived.Test.YtkpflghhmnkjmaaAimdRun
namespace Go.Proofs.Ytkpflghhmnkjmaa
open Go.RowKit
set_option linter.unusedSimpArgs false
set_option linter.unusedVariables false

end Go.Proofs.Ytkpflghhmnkjmaa
