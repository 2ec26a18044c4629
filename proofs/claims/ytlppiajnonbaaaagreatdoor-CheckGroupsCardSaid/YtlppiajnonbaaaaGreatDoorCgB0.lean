/- CheckGroups: the closed cases whose first column is number 0. -/
import Derived.Test.YtlppiajnonbaaaaGreatDoorCgA
set_option linter.unusedVariables false
set_option linter.unusedSimpArgs false
namespace Go.Proofs.YtlppiajnonbaaaaGreatDoor
open Go Go.VV
set_option maxRecDepth 1000000
theorem cases0 : casesOk 0 [0, 1, 2, 3, 4] = true := by kernel_rfl
end Go.Proofs.YtlppiajnonbaaaaGreatDoor
