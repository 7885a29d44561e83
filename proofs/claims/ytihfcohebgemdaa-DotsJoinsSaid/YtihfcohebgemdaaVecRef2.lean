/- The walks of layer 5 (vector): the reference's Of, Knows, Join, Meet, Covers. -/
import Derived.Test.YtihfcohebgemdaaVecRef
namespace Go.Proofs.Ytihfcohebgemdaa.Vec
open Go.RowKit

theorem refright_lit (q : Bool) (d : P) (w : World) (h : right d = q) :
    Calls Try.prog 34 #[.agg #[.int .i64 d.who, .int .i64 d.n]] w fun e w' => e = .returned (.bool q) ∧ Below w.heap.size w w' := by
  subst h; exact refright_any d w
theorem get_lit (m : Int) (ao : Option Addr) (ac : Nat) (l : List P) (who : Int) (w : World) (h : getF l who = m) (ha : DRow w (.slice ao l.length ac) l) (h1 : l.length ≤ 100000) :
    Calls Try.prog 71 #[.slice ao l.length ac, .int .i64 who] w fun e w' => e = .returned (.int .i64 m) ∧ w = w' := by
  subst h; exact get_any ao ac l who w ha h1

end Go.Proofs.Ytihfcohebgemdaa.Vec
