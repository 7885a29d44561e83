/- The walk of the document's bytes of a number (layer 3). -/
import Derived.Test.YtmjelcjdfamikaaGreatDoorMrkPut
set_option linter.unusedSimpArgs false
set_option linter.unusedVariables false
namespace Go.Proofs.YtmjelcjdfamikaaGreatDoor.Mrk
open Go.RowKit

end Go.Proofs.YtmjelcjdfamikaaGreatDoor.Mrk
