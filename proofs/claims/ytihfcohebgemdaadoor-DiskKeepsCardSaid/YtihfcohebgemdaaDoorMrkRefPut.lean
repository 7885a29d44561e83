/- The walk of the document's bytes of a number (layer 3). -/
import Derived.Test.YtihfcohebgemdaaDoorMrkPut
set_option linter.unusedSimpArgs false
set_option linter.unusedVariables false
namespace Go.Proofs.YtihfcohebgemdaaDoor.Mrk
open Go.RowKit

end Go.Proofs.YtihfcohebgemdaaDoor.Mrk
