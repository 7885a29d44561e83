/- The walks of the sum of two sums: merkle.node, the document's Node (layer 24). -/
import Derived.Test.YtmjelcjdfamikaaGreatDoorMrkRefPut
set_option linter.unusedSimpArgs false
set_option linter.unusedVariables false
namespace Go.Proofs.YtmjelcjdfamikaaGreatDoor.Mrk
open Go.RowKit

theorem row_of {w : World} {base : Nat} {v : Value} {l : List Nat} (h : w.ownsRow base 5 1 v l.length (l.flatMap enB)) : BRow w v l := Lst.owned enB_len (by decide) rfl h
theorem putF_ten {n : Nat} (h : n < 18446744073709551616) : (putF n).length ≤ 10 := by rw [putF_len]; exact low_ten h

theorem or4 : ∀ x : Nat, x < 4 → ∀ y : Nat, y < 4 → x * 4 ||| y = x * 4 + y := by decide

end Go.Proofs.YtmjelcjdfamikaaGreatDoor.Mrk
