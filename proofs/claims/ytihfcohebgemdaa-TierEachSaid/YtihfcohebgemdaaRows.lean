/-
  No cell of these rows narrows 'for every input' (looked for: loops, veiled, ifaces, maps, wideKeys, modest, calm, conditions, laid).
  DERIVED. THE GIVEN ROWS OF THIS SEAT. 3 by the template 'for every input the law returns true; each argument reads behind the call as it read before'; 0 by the template 'total and deterministic' (their statements: YtihfcohebgemdaaTotals.lean).
  GIVEN WITH THE SEED: the statements are not yours to turn. If you find one false, say at which input.
  Laid BY PROGRAM, IN A SANDBOX (cutbox-rows.mjs): the forced cells as the released guide's own fill.sh prints them over the translation 9b264ced0545867c… (all of the seat's roots in one cut). By AI agents, Wed Nov 11 2026. No macro, syntax, notation, axiom, sorry.
-/
import Derived.Test.YtihfcohebgemdaaChecked
import GoSem.Claim
import GoSem.ClaimJoined
import GoSem.ClaimMapViews
import Derived.JoinedTies
import Derived.KernelRfl
namespace Go.Proofs.Ytihfcohebgemdaa
/- THE CELL 'sum', in the pinned program and in every row, IS THE sha256 OF THE DUMP (.gsa) THAT YtihfcohebgemdaaProg.lean LOADS. Nothing in Lean hashes anything: it is a label: what it is worth is what the hold of that sum in a sandbox is worth. -/
noncomputable def Try.pinned : Pinned := { name := "ytihfcohebgemdaa", sum := "9b264ced0545867c1ef5eb054ae61a01468b93060999e413e5513b9e89fcd0bf", checked := Try.checked }
namespace Rows
def none {H : Type} : Left H := { results := [], args := [] }

/-- 'cenotaphlaw18.TierEach': WHATEVER THE INPUT: true; the input reads as it did. -/
def tierEachSpec : ChangeSpec := { name := "tierEach", fn := fun _ => fun
  | [d] => { results := [.lit (.bool true)], args := [d] }
  | _ => none }
def tierEachRow : OpenClaim := { program := "ytihfcohebgemdaa", sum := "9b264ced0545867c1ef5eb054ae61a01468b93060999e413e5513b9e89fcd0bf", func := "cenotaph/cenotaphlaw18.TierEach", spec := "tierEach", unfollowed := true, recurses := true, apart := false }
def TierEachSaid : Prop := tierEachRow.holds Try.pinned (OpenSpec.ofChange tierEachSpec)

/-- ITS FALSE NEIGHBOUR: 'it returns false'. Refute it at one input. -/
def tierEachWrong : ChangeSpec := { name := "tierEach", fn := fun _ => fun
  | [d] => { results := [.lit (.bool false)], args := [d] }
  | _ => none }
def TierEachWrongFalsely : Prop := tierEachRow.holds Try.pinned (OpenSpec.ofChange tierEachWrong)

/-- 'cenotaphlaw06.DotsSets': WHATEVER THE INPUT: true; the input reads as it did. -/
def dotsSetsSpec : ChangeSpec := { name := "dotsSets", fn := fun _ => fun
  | [d1, d2] => { results := [.lit (.bool true)], args := [d1, d2] }
  | _ => none }
def dotsSetsRow : OpenClaim := { program := "ytihfcohebgemdaa", sum := "9b264ced0545867c1ef5eb054ae61a01468b93060999e413e5513b9e89fcd0bf", func := "cenotaph/cenotaphlaw06.DotsSets", spec := "dotsSets", unfollowed := true, recurses := true, apart := false }
def DotsSetsSaid : Prop := dotsSetsRow.holds Try.pinned (OpenSpec.ofChange dotsSetsSpec)

/-- ITS FALSE NEIGHBOUR: 'it returns false'. Refute it at one input. -/
def dotsSetsWrong : ChangeSpec := { name := "dotsSets", fn := fun _ => fun
  | [d1, d2] => { results := [.lit (.bool false)], args := [d1, d2] }
  | _ => none }
def DotsSetsWrongFalsely : Prop := dotsSetsRow.holds Try.pinned (OpenSpec.ofChange dotsSetsWrong)

/-- 'cenotaphlaw06.DotsJoins': WHATEVER THE INPUT: true; the input reads as it did. -/
def dotsJoinsSpec : ChangeSpec := { name := "dotsJoins", fn := fun _ => fun
  | [d1, d2] => { results := [.lit (.bool true)], args := [d1, d2] }
  | _ => none }
def dotsJoinsRow : OpenClaim := { program := "ytihfcohebgemdaa", sum := "9b264ced0545867c1ef5eb054ae61a01468b93060999e413e5513b9e89fcd0bf", func := "cenotaph/cenotaphlaw06.DotsJoins", spec := "dotsJoins", unfollowed := true, recurses := true, apart := false }
def DotsJoinsSaid : Prop := dotsJoinsRow.holds Try.pinned (OpenSpec.ofChange dotsJoinsSpec)

/-- ITS FALSE NEIGHBOUR: 'it returns false'. Refute it at one input. -/
def dotsJoinsWrong : ChangeSpec := { name := "dotsJoins", fn := fun _ => fun
  | [d1, d2] => { results := [.lit (.bool false)], args := [d1, d2] }
  | _ => none }
def DotsJoinsWrongFalsely : Prop := dotsJoinsRow.holds Try.pinned (OpenSpec.ofChange dotsJoinsWrong)

/- THE SECOND FORM. 'bulk': how many values and letters a reading holds, each counted each time it is reached (what is shared counts as often as it is met; a slice's spare places count too). A statement '..UptoSaid' is the law's where the arguments, and the package variables that the reading takes, are together of bulk at most 1048576: NARROWER than '..Said'. Prove '..Said' where nothing that the law and all that it calls make is longer than what came in: it says more and counts as full. Else prove '..UptoSaid'. A law counts once. -/
mutual
def uptoBulk {H : Type} : DataW H → Nat
  | .lit (.string bytes) => bytes.length + 1
  | .lit _ => 1
  | .nil => 1
  | .ptr d => uptoBulk d + 1
  | .slice elems spare => uptoBulkAll elems + uptoBulkAll spare + 1
  | .agg parts => uptoBulkAll parts + 1
  | .iface _ d => uptoBulk d + 1
  | .map entries => uptoBulkEntries entries + 1
  | .held _ => 1
def uptoBulkAll {H : Type} : List (DataW H) → Nat
  | [] => 0
  | d :: r => uptoBulk d + uptoBulkAll r
def uptoBulkEntries {H : Type} : List (Lit × DataW H) → Nat
  | [] => 0
  | x :: r => uptoBulkEntry x + uptoBulkEntries r
def uptoBulkEntry {H : Type} : Lit × DataW H → Nat
  | (.string bytes, d) => bytes.length + uptoBulk d + 1
  | (_, d) => uptoBulk d + 1
 end
def uptoSmall : (H : Type) → List (DataW H) → Bool := fun _ ds => decide (uptoBulkAll ds ≤ 1048576)
def OpenSpec.upto (s : _root_.Go.ChangeSpec) : _root_.Go.OpenSpec := { _root_.Go.OpenSpec.ofChange s with cond := some uptoSmall }

/-- 'cenotaphlaw18.TierEach', WHERE WHAT IT READS IS OF BULK AT MOST 1048576: true; the input reads as it did. -/
def tierEachUptoRow : OpenClaim := { program := "ytihfcohebgemdaa", sum := "9b264ced0545867c1ef5eb054ae61a01468b93060999e413e5513b9e89fcd0bf", func := "cenotaph/cenotaphlaw18.TierEach", spec := "tierEach", unfollowed := true, recurses := true, apart := false, narrowed := true }
def TierEachUptoSaid : Prop := tierEachUptoRow.holds Try.pinned (OpenSpec.upto tierEachSpec)

/-- 'cenotaphlaw06.DotsSets', WHERE WHAT IT READS IS OF BULK AT MOST 1048576: true; the input reads as it did. -/
def dotsSetsUptoRow : OpenClaim := { program := "ytihfcohebgemdaa", sum := "9b264ced0545867c1ef5eb054ae61a01468b93060999e413e5513b9e89fcd0bf", func := "cenotaph/cenotaphlaw06.DotsSets", spec := "dotsSets", unfollowed := true, recurses := true, apart := false, narrowed := true }
def DotsSetsUptoSaid : Prop := dotsSetsUptoRow.holds Try.pinned (OpenSpec.upto dotsSetsSpec)

/-- 'cenotaphlaw06.DotsJoins', WHERE WHAT IT READS IS OF BULK AT MOST 1048576: true; the input reads as it did. -/
def dotsJoinsUptoRow : OpenClaim := { program := "ytihfcohebgemdaa", sum := "9b264ced0545867c1ef5eb054ae61a01468b93060999e413e5513b9e89fcd0bf", func := "cenotaph/cenotaphlaw06.DotsJoins", spec := "dotsJoins", unfollowed := true, recurses := true, apart := false, narrowed := true }
def DotsJoinsUptoSaid : Prop := dotsJoinsUptoRow.holds Try.pinned (OpenSpec.upto dotsJoinsSpec)

end Rows
end Go.Proofs.Ytihfcohebgemdaa
