/- The walk of the document's bytes of a number (layer 3). -/
import Derived.Test.YtkdgbkhnnehedaaDoorMrkPut
set_option linter.unusedSimpArgs false
set_option linter.unusedVariables false
namespace Go.Proofs.YtkdgbkhnnehedaaDoor.Mrk
open Go.RowKit

end Go.Proofs.YtkdgbkhnnehedaaDoor.Mrk
