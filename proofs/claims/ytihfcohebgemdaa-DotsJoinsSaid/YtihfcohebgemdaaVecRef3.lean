/- The walks of layer 5 (vector): the reference's Knows, Join, Meet, Covers. -/
import Derived.Test.YtihfcohebgemdaaVecRef2
namespace Go.Proofs.Ytihfcohebgemdaa.Vec
open Go.RowKit

def knowsF (l : List P) (d : P) : Bool := right d && decide (d.n ≤ getF l d.who)

end Go.Proofs.Ytihfcohebgemdaa.Vec
