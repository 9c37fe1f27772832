/- Walk of law 11: WitnessHashes. -/
import Derived.Test.YtbcileppebpamaaGreatDoorWY
import Derived.Test.YtbcileppebpamaaGreatDoorWS
set_option linter.unusedSimpArgs false
set_option linter.unusedVariables false
namespace Go.Proofs.YtbcileppebpamaaGreatDoor
open Go Go.RowKit Go.Shelf
set_option maxRecDepth 100000

end Go.Proofs.YtbcileppebpamaaGreatDoor
