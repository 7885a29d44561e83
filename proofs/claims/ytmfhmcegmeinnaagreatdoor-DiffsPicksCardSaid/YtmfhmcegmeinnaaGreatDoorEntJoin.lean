/- The law DiffsRows (layer 36): its own walk. -/
import Derived.Test.YtmfhmcegmeinnaaGreatDoorEntTop
set_option linter.unusedSimpArgs false
set_option linter.unusedVariables false
namespace Go.Proofs.YtmfhmcegmeinnaaGreatDoor.Diffs
open Go.RowKit Go.Proofs.YtmfhmcegmeinnaaGreatDoor.Cmp

end Go.Proofs.YtmfhmcegmeinnaaGreatDoor.Diffs
