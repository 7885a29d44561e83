/-
  No cell of these rows narrows 'for every input' (looked for: loops, veiled, ifaces, maps, wideKeys, modest, calm, conditions, laid).
  DERIVED. THE GIVEN ROWS OF THIS SEAT. 9 by the template 'for every input the law returns true; each argument reads behind the call as it read before'; 0 by the template 'total and deterministic' (their statements: YtigeieahhkoolaaTotals.lean).
  GIVEN WITH THE SEED: the statements are not yours to turn. If you find one false, say at which input.
  Laid BY PROGRAM, IN A SANDBOX (cutbox-rows.mjs): the forced cells as the released guide's own fill.sh prints them over the translation 47f209a57f93047a… (all of the seat's roots in one cut). By AI agents, Wed Nov 11 2026. No macro, syntax, notation, axiom, sorry.
-/
import Derived.Test.YtigeieahhkoolaaChecked
import GoSem.Claim
import GoSem.ClaimJoined
import GoSem.ClaimMapViews
import Derived.JoinedTies
import Derived.KernelRfl
namespace Go.Proofs.Ytigeieahhkoolaa
/- THE CELL 'sum', in the pinned program and in every row, IS THE sha256 OF THE DUMP (.gsa) THAT YtigeieahhkoolaaProg.lean LOADS. Nothing in Lean hashes anything: it is a label: what it is worth is what the hold of that sum in a sandbox is worth. -/
noncomputable def Try.pinned : Pinned := { name := "ytigeieahhkoolaa", sum := "47f209a57f93047aed974ca1833fc8268f2222c30526a3cd4ca9ebb917848665", checked := Try.checked }
namespace Rows
def none {H : Type} : Left H := { results := [], args := [] }

/-- 'cenotaphlaw23.LeasePlays': WHATEVER THE INPUT: true; the input reads as it did. -/
def leasePlaysSpec : ChangeSpec := { name := "leasePlays", fn := fun _ => fun
  | [d] => { results := [.lit (.bool true)], args := [d] }
  | _ => none }
def leasePlaysRow : OpenClaim := { program := "ytigeieahhkoolaa", sum := "47f209a57f93047aed974ca1833fc8268f2222c30526a3cd4ca9ebb917848665", func := "cenotaph/cenotaphlaw23.LeasePlays", spec := "leasePlays", apart := false }
def LeasePlaysSaid : Prop := leasePlaysRow.holds Try.pinned (OpenSpec.ofChange leasePlaysSpec)

/-- ITS FALSE NEIGHBOUR: 'it returns false'. Refute it at one input. -/
def leasePlaysWrong : ChangeSpec := { name := "leasePlays", fn := fun _ => fun
  | [d] => { results := [.lit (.bool false)], args := [d] }
  | _ => none }
def LeasePlaysWrongFalsely : Prop := leasePlaysRow.holds Try.pinned (OpenSpec.ofChange leasePlaysWrong)

/-- 'cenotaphlaw23.LeaseReady': WHATEVER THE INPUT: true; the input reads as it did. -/
def leaseReadySpec : ChangeSpec := { name := "leaseReady", fn := fun _ => fun
  | [d1, d2] => { results := [.lit (.bool true)], args := [d1, d2] }
  | _ => none }
def leaseReadyRow : OpenClaim := { program := "ytigeieahhkoolaa", sum := "47f209a57f93047aed974ca1833fc8268f2222c30526a3cd4ca9ebb917848665", func := "cenotaph/cenotaphlaw23.LeaseReady", spec := "leaseReady", apart := false }
def LeaseReadySaid : Prop := leaseReadyRow.holds Try.pinned (OpenSpec.ofChange leaseReadySpec)

/-- ITS FALSE NEIGHBOUR: 'it returns false'. Refute it at one input. -/
def leaseReadyWrong : ChangeSpec := { name := "leaseReady", fn := fun _ => fun
  | [d1, d2] => { results := [.lit (.bool false)], args := [d1, d2] }
  | _ => none }
def LeaseReadyWrongFalsely : Prop := leaseReadyRow.holds Try.pinned (OpenSpec.ofChange leaseReadyWrong)

/-- 'cenotaphlaw23.LeaseOver': WHATEVER THE INPUT: true; the input reads as it did. -/
def leaseOverSpec : ChangeSpec := { name := "leaseOver", fn := fun _ => fun
  | [d] => { results := [.lit (.bool true)], args := [d] }
  | _ => none }
def leaseOverRow : OpenClaim := { program := "ytigeieahhkoolaa", sum := "47f209a57f93047aed974ca1833fc8268f2222c30526a3cd4ca9ebb917848665", func := "cenotaph/cenotaphlaw23.LeaseOver", spec := "leaseOver", apart := false }
def LeaseOverSaid : Prop := leaseOverRow.holds Try.pinned (OpenSpec.ofChange leaseOverSpec)

/-- ITS FALSE NEIGHBOUR: 'it returns false'. Refute it at one input. -/
def leaseOverWrong : ChangeSpec := { name := "leaseOver", fn := fun _ => fun
  | [d] => { results := [.lit (.bool false)], args := [d] }
  | _ => none }
def LeaseOverWrongFalsely : Prop := leaseOverRow.holds Try.pinned (OpenSpec.ofChange leaseOverWrong)

/-- 'cenotaphlaw32.QuorumNeeds': WHATEVER THE INPUT: true; the input reads as it did. -/
def quorumNeedsSpec : ChangeSpec := { name := "quorumNeeds", fn := fun _ => fun
  | [d1, d2] => { results := [.lit (.bool true)], args := [d1, d2] }
  | _ => none }
def quorumNeedsRow : OpenClaim := { program := "ytigeieahhkoolaa", sum := "47f209a57f93047aed974ca1833fc8268f2222c30526a3cd4ca9ebb917848665", func := "cenotaph/cenotaphlaw32.QuorumNeeds", spec := "quorumNeeds", apart := false }
def QuorumNeedsSaid : Prop := quorumNeedsRow.holds Try.pinned (OpenSpec.ofChange quorumNeedsSpec)

/-- ITS FALSE NEIGHBOUR: 'it returns false'. Refute it at one input. -/
def quorumNeedsWrong : ChangeSpec := { name := "quorumNeeds", fn := fun _ => fun
  | [d1, d2] => { results := [.lit (.bool false)], args := [d1, d2] }
  | _ => none }
def QuorumNeedsWrongFalsely : Prop := quorumNeedsRow.holds Try.pinned (OpenSpec.ofChange quorumNeedsWrong)

/-- 'cenotaphlaw32.QuorumMeets': WHATEVER THE INPUT: true; the input reads as it did. -/
def quorumMeetsSpec : ChangeSpec := { name := "quorumMeets", fn := fun _ => fun
  | [d1, d2, d3] => { results := [.lit (.bool true)], args := [d1, d2, d3] }
  | _ => none }
def quorumMeetsRow : OpenClaim := { program := "ytigeieahhkoolaa", sum := "47f209a57f93047aed974ca1833fc8268f2222c30526a3cd4ca9ebb917848665", func := "cenotaph/cenotaphlaw32.QuorumMeets", spec := "quorumMeets", apart := false }
def QuorumMeetsSaid : Prop := quorumMeetsRow.holds Try.pinned (OpenSpec.ofChange quorumMeetsSpec)

/-- ITS FALSE NEIGHBOUR: 'it returns false'. Refute it at one input. -/
def quorumMeetsWrong : ChangeSpec := { name := "quorumMeets", fn := fun _ => fun
  | [d1, d2, d3] => { results := [.lit (.bool false)], args := [d1, d2, d3] }
  | _ => none }
def QuorumMeetsWrongFalsely : Prop := quorumMeetsRow.holds Try.pinned (OpenSpec.ofChange quorumMeetsWrong)

/-- 'cenotaphlaw48.WaitBounds': WHATEVER THE INPUT: true; the input reads as it did. -/
def waitBoundsSpec : ChangeSpec := { name := "waitBounds", fn := fun _ => fun
  | [d1, d2] => { results := [.lit (.bool true)], args := [d1, d2] }
  | _ => none }
def waitBoundsRow : OpenClaim := { program := "ytigeieahhkoolaa", sum := "47f209a57f93047aed974ca1833fc8268f2222c30526a3cd4ca9ebb917848665", func := "cenotaph/cenotaphlaw48.WaitBounds", spec := "waitBounds", apart := false }
def WaitBoundsSaid : Prop := waitBoundsRow.holds Try.pinned (OpenSpec.ofChange waitBoundsSpec)

/-- ITS FALSE NEIGHBOUR: 'it returns false'. Refute it at one input. -/
def waitBoundsWrong : ChangeSpec := { name := "waitBounds", fn := fun _ => fun
  | [d1, d2] => { results := [.lit (.bool false)], args := [d1, d2] }
  | _ => none }
def WaitBoundsWrongFalsely : Prop := waitBoundsRow.holds Try.pinned (OpenSpec.ofChange waitBoundsWrong)

/-- 'cenotaphlaw48.WaitTries': WHATEVER THE INPUT: true; the input reads as it did. -/
def waitTriesSpec : ChangeSpec := { name := "waitTries", fn := fun _ => fun
  | [d1, d2, d3] => { results := [.lit (.bool true)], args := [d1, d2, d3] }
  | _ => none }
def waitTriesRow : OpenClaim := { program := "ytigeieahhkoolaa", sum := "47f209a57f93047aed974ca1833fc8268f2222c30526a3cd4ca9ebb917848665", func := "cenotaph/cenotaphlaw48.WaitTries", spec := "waitTries", unfollowed := true, recurses := true, apart := false }
def WaitTriesSaid : Prop := waitTriesRow.holds Try.pinned (OpenSpec.ofChange waitTriesSpec)

/-- ITS FALSE NEIGHBOUR: 'it returns false'. Refute it at one input. -/
def waitTriesWrong : ChangeSpec := { name := "waitTries", fn := fun _ => fun
  | [d1, d2, d3] => { results := [.lit (.bool false)], args := [d1, d2, d3] }
  | _ => none }
def WaitTriesWrongFalsely : Prop := waitTriesRow.holds Try.pinned (OpenSpec.ofChange waitTriesWrong)

/-- 'cenotaphlaw41.SkewSteady': WHATEVER THE INPUT: true; the input reads as it did. -/
def skewSteadySpec : ChangeSpec := { name := "skewSteady", fn := fun _ => fun
  | [d1, d2] => { results := [.lit (.bool true)], args := [d1, d2] }
  | _ => none }
def skewSteadyRow : OpenClaim := { program := "ytigeieahhkoolaa", sum := "47f209a57f93047aed974ca1833fc8268f2222c30526a3cd4ca9ebb917848665", func := "cenotaph/cenotaphlaw41.SkewSteady", spec := "skewSteady", apart := false }
def SkewSteadySaid : Prop := skewSteadyRow.holds Try.pinned (OpenSpec.ofChange skewSteadySpec)

/-- ITS FALSE NEIGHBOUR: 'it returns false'. Refute it at one input. -/
def skewSteadyWrong : ChangeSpec := { name := "skewSteady", fn := fun _ => fun
  | [d1, d2] => { results := [.lit (.bool false)], args := [d1, d2] }
  | _ => none }
def SkewSteadyWrongFalsely : Prop := skewSteadyRow.holds Try.pinned (OpenSpec.ofChange skewSteadyWrong)

/-- 'cenotaphlaw32.QuorumCounts': WHATEVER THE INPUT: true; the input reads as it did. -/
def quorumCountsSpec : ChangeSpec := { name := "quorumCounts", fn := fun _ => fun
  | [d1, d2, d3] => { results := [.lit (.bool true)], args := [d1, d2, d3] }
  | _ => none }
def quorumCountsRow : OpenClaim := { program := "ytigeieahhkoolaa", sum := "47f209a57f93047aed974ca1833fc8268f2222c30526a3cd4ca9ebb917848665", func := "cenotaph/cenotaphlaw32.QuorumCounts", spec := "quorumCounts", apart := false }
def QuorumCountsSaid : Prop := quorumCountsRow.holds Try.pinned (OpenSpec.ofChange quorumCountsSpec)

/-- ITS FALSE NEIGHBOUR: 'it returns false'. Refute it at one input. -/
def quorumCountsWrong : ChangeSpec := { name := "quorumCounts", fn := fun _ => fun
  | [d1, d2, d3] => { results := [.lit (.bool false)], args := [d1, d2, d3] }
  | _ => none }
def QuorumCountsWrongFalsely : Prop := quorumCountsRow.holds Try.pinned (OpenSpec.ofChange quorumCountsWrong)

/- THE SECOND FORM. 'bulk': how many values and letters a reading holds, each counted each time it is reached (what is shared counts as often as it is met; a slice's spare places count too). A statement '..UptoSaid' is the law's where the arguments, and the package variables that the reading takes, are together of bulk at most 1048576: NARROWER than '..Said'. Prove '..Said' where nothing that the law and all that it calls make is longer than what came in: it says more and counts as full. Else prove '..UptoSaid'. A law counts once. -/
mutual
def uptoBulk {H : Type} : DataW H → Nat
  | .lit (.string bytes) => bytes.length + 1
  | .lit _ => 1
  | .nil => 1
  | .ptr d => uptoBulk d + 1
  | .slice elems spare => uptoBulkAll elems + uptoBulkAll spare + 1
  | .agg parts => uptoBulkAll parts + 1
  | .iface _ d => uptoBulk d + 1
  | .map entries => uptoBulkEntries entries + 1
  | .held _ => 1
def uptoBulkAll {H : Type} : List (DataW H) → Nat
  | [] => 0
  | d :: r => uptoBulk d + uptoBulkAll r
def uptoBulkEntries {H : Type} : List (Lit × DataW H) → Nat
  | [] => 0
  | x :: r => uptoBulkEntry x + uptoBulkEntries r
def uptoBulkEntry {H : Type} : Lit × DataW H → Nat
  | (.string bytes, d) => bytes.length + uptoBulk d + 1
  | (_, d) => uptoBulk d + 1
 end
def uptoSmall : (H : Type) → List (DataW H) → Bool := fun _ ds => decide (uptoBulkAll ds ≤ 1048576)
def OpenSpec.upto (s : _root_.Go.ChangeSpec) : _root_.Go.OpenSpec := { _root_.Go.OpenSpec.ofChange s with cond := some uptoSmall }

/-- 'cenotaphlaw23.LeasePlays', WHERE WHAT IT READS IS OF BULK AT MOST 1048576: true; the input reads as it did. -/
def leasePlaysUptoRow : OpenClaim := { program := "ytigeieahhkoolaa", sum := "47f209a57f93047aed974ca1833fc8268f2222c30526a3cd4ca9ebb917848665", func := "cenotaph/cenotaphlaw23.LeasePlays", spec := "leasePlays", apart := false, narrowed := true }
def LeasePlaysUptoSaid : Prop := leasePlaysUptoRow.holds Try.pinned (OpenSpec.upto leasePlaysSpec)

/-- 'cenotaphlaw23.LeaseReady', WHERE WHAT IT READS IS OF BULK AT MOST 1048576: true; the input reads as it did. -/
def leaseReadyUptoRow : OpenClaim := { program := "ytigeieahhkoolaa", sum := "47f209a57f93047aed974ca1833fc8268f2222c30526a3cd4ca9ebb917848665", func := "cenotaph/cenotaphlaw23.LeaseReady", spec := "leaseReady", apart := false, narrowed := true }
def LeaseReadyUptoSaid : Prop := leaseReadyUptoRow.holds Try.pinned (OpenSpec.upto leaseReadySpec)

/-- 'cenotaphlaw23.LeaseOver', WHERE WHAT IT READS IS OF BULK AT MOST 1048576: true; the input reads as it did. -/
def leaseOverUptoRow : OpenClaim := { program := "ytigeieahhkoolaa", sum := "47f209a57f93047aed974ca1833fc8268f2222c30526a3cd4ca9ebb917848665", func := "cenotaph/cenotaphlaw23.LeaseOver", spec := "leaseOver", apart := false, narrowed := true }
def LeaseOverUptoSaid : Prop := leaseOverUptoRow.holds Try.pinned (OpenSpec.upto leaseOverSpec)

/-- 'cenotaphlaw32.QuorumNeeds', WHERE WHAT IT READS IS OF BULK AT MOST 1048576: true; the input reads as it did. -/
def quorumNeedsUptoRow : OpenClaim := { program := "ytigeieahhkoolaa", sum := "47f209a57f93047aed974ca1833fc8268f2222c30526a3cd4ca9ebb917848665", func := "cenotaph/cenotaphlaw32.QuorumNeeds", spec := "quorumNeeds", apart := false, narrowed := true }
def QuorumNeedsUptoSaid : Prop := quorumNeedsUptoRow.holds Try.pinned (OpenSpec.upto quorumNeedsSpec)

/-- 'cenotaphlaw32.QuorumMeets', WHERE WHAT IT READS IS OF BULK AT MOST 1048576: true; the input reads as it did. -/
def quorumMeetsUptoRow : OpenClaim := { program := "ytigeieahhkoolaa", sum := "47f209a57f93047aed974ca1833fc8268f2222c30526a3cd4ca9ebb917848665", func := "cenotaph/cenotaphlaw32.QuorumMeets", spec := "quorumMeets", apart := false, narrowed := true }
def QuorumMeetsUptoSaid : Prop := quorumMeetsUptoRow.holds Try.pinned (OpenSpec.upto quorumMeetsSpec)

/-- 'cenotaphlaw48.WaitBounds', WHERE WHAT IT READS IS OF BULK AT MOST 1048576: true; the input reads as it did. -/
def waitBoundsUptoRow : OpenClaim := { program := "ytigeieahhkoolaa", sum := "47f209a57f93047aed974ca1833fc8268f2222c30526a3cd4ca9ebb917848665", func := "cenotaph/cenotaphlaw48.WaitBounds", spec := "waitBounds", apart := false, narrowed := true }
def WaitBoundsUptoSaid : Prop := waitBoundsUptoRow.holds Try.pinned (OpenSpec.upto waitBoundsSpec)

/-- 'cenotaphlaw48.WaitTries', WHERE WHAT IT READS IS OF BULK AT MOST 1048576: true; the input reads as it did. -/
def waitTriesUptoRow : OpenClaim := { program := "ytigeieahhkoolaa", sum := "47f209a57f93047aed974ca1833fc8268f2222c30526a3cd4ca9ebb917848665", func := "cenotaph/cenotaphlaw48.WaitTries", spec := "waitTries", unfollowed := true, recurses := true, apart := false, narrowed := true }
def WaitTriesUptoSaid : Prop := waitTriesUptoRow.holds Try.pinned (OpenSpec.upto waitTriesSpec)

/-- 'cenotaphlaw41.SkewSteady', WHERE WHAT IT READS IS OF BULK AT MOST 1048576: true; the input reads as it did. -/
def skewSteadyUptoRow : OpenClaim := { program := "ytigeieahhkoolaa", sum := "47f209a57f93047aed974ca1833fc8268f2222c30526a3cd4ca9ebb917848665", func := "cenotaph/cenotaphlaw41.SkewSteady", spec := "skewSteady", apart := false, narrowed := true }
def SkewSteadyUptoSaid : Prop := skewSteadyUptoRow.holds Try.pinned (OpenSpec.upto skewSteadySpec)

/-- 'cenotaphlaw32.QuorumCounts', WHERE WHAT IT READS IS OF BULK AT MOST 1048576: true; the input reads as it did. -/
def quorumCountsUptoRow : OpenClaim := { program := "ytigeieahhkoolaa", sum := "47f209a57f93047aed974ca1833fc8268f2222c30526a3cd4ca9ebb917848665", func := "cenotaph/cenotaphlaw32.QuorumCounts", spec := "quorumCounts", apart := false, narrowed := true }
def QuorumCountsUptoSaid : Prop := quorumCountsUptoRow.holds Try.pinned (OpenSpec.upto quorumCountsSpec)

end Rows
end Go.Proofs.Ytigeieahhkoolaa
