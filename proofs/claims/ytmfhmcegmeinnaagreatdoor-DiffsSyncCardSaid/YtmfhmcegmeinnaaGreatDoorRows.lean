/-
  NARROWER THAN 'FOR EVERY INPUT', by the rows' own cells (each row's printed sentence says how): ViewSees: laid · SweepKeeps: laid · OrderSees: laid · DiffsPicks: laid · DiffsSync: laid · MerkleTrees: laid.
  DERIVED. THE GIVEN ROWS OF THIS SEAT. 6 by the template 'for every input the law returns true; each argument reads behind the call as it read before'; 0 by the template 'total and deterministic' (their statements: YtmfhmcegmeinnaaGreatDoorTotals.lean).
  GIVEN WITH THE SEED: the statements are not yours to turn. If you find one false, say at which input.
  Laid BY PROGRAM, IN A SANDBOX (cutbox-rows.mjs): the forced cells as the released guide's own fill.sh prints them over the translation 5e084571e4d0f274… (all of the seat's roots in one cut). By AI agents, Wed Nov 11 2026. No macro, syntax, notation, axiom, sorry.
-/
import Derived.Test.YtmfhmcegmeinnaaGreatDoorChecked
import GoSem.PinnedTables
import GoSem.Claim
import GoSem.ClaimJoined
import GoSem.ClaimMapViews
import Derived.JoinedTies
import Derived.KernelRfl
namespace Go.Proofs.YtmfhmcegmeinnaaGreatDoor
/- THE CELL 'sum', in the pinned program and in every row, IS THE sha256 OF THE DUMP (.gsa) THAT YtmfhmcegmeinnaaGreatDoorProg.lean LOADS. Nothing in Lean hashes anything: it is a label: what it is worth is what the hold of that sum in a sandbox is worth. -/
noncomputable def Tryz.pinned : Pinned := { name := "ytmfhmcegmeinnaagreatdoor", sum := "5e084571e4d0f274c5b6fd6d095cce19a2566244eeed08e333b33fb753531f43", checked := Tryz.checked }
namespace Rows
def none {H : Type} : Left H := { results := [], args := [] }

/- WHAT THE LISTED PACKAGE-LEVEL VARIABLES READ AS WHEN THE CALL BEGINS. Each datum BY PROGRAM (the guide's laid-datum.mjs) off the statement by which the dump's own 'gosem.cut.vars' lays the variable. In a bare row this is a premise. The card (YtmfhmcegmeinnaaGreatDoorCards.lean) ties it to the program's text. -/
def laid_unicode_utf8_acceptRanges {H : Type} : DataW H := .agg [.agg [.lit (.int .u8 128), .lit (.int .u8 191)], .agg [.lit (.int .u8 160), .lit (.int .u8 191)], .agg [.lit (.int .u8 128), .lit (.int .u8 159)], .agg [.lit (.int .u8 144), .lit (.int .u8 191)], .agg [.lit (.int .u8 128), .lit (.int .u8 143)], .agg [.lit (.int .u8 0), .lit (.int .u8 0)], .agg [.lit (.int .u8 0), .lit (.int .u8 0)], .agg [.lit (.int .u8 0), .lit (.int .u8 0)], .agg [.lit (.int .u8 0), .lit (.int .u8 0)], .agg [.lit (.int .u8 0), .lit (.int .u8 0)], .agg [.lit (.int .u8 0), .lit (.int .u8 0)], .agg [.lit (.int .u8 0), .lit (.int .u8 0)], .agg [.lit (.int .u8 0), .lit (.int .u8 0)], .agg [.lit (.int .u8 0), .lit (.int .u8 0)], .agg [.lit (.int .u8 0), .lit (.int .u8 0)], .agg [.lit (.int .u8 0), .lit (.int .u8 0)]]
/-- One of Go's own tables, pinned by name: the form's constant. -/
def laid_unicode_utf8_first : DataW Unit := Go.Pinned.utf8First

/-- 'cenotaphlaw09.ViewSees': WHATEVER THE INPUT: true; the input reads as it did. -/
def viewSeesSpec : ChangeSpec := { name := "viewSees", fn := fun _ => fun
  | [d1, d2] => { results := [.lit (.bool true)], args := [d1, d2] }
  | _ => none }
def viewSeesRow : OpenClaim := { program := "ytmfhmcegmeinnaagreatdoor", sum := "5e084571e4d0f274c5b6fd6d095cce19a2566244eeed08e333b33fb753531f43", func := "cenotaph/cenotaphlaw09.ViewSees", spec := "viewSees", inPlace := ["slices.overlaps[cenotaph/api.Mut]"], unfollowed := true, recurses := true, named := ["unicode/utf8.first", "unicode/utf8.acceptRanges"], apart := false, laid := [("unicode/utf8.acceptRanges", laid_unicode_utf8_acceptRanges), ("unicode/utf8.first", laid_unicode_utf8_first)] }
def ViewSeesSaid : Prop := viewSeesRow.holds Tryz.pinned (OpenSpec.ofChange viewSeesSpec)

/-- ITS FALSE NEIGHBOUR: 'it returns false'. Refute it at one input. -/
def viewSeesWrong : ChangeSpec := { name := "viewSees", fn := fun _ => fun
  | [d1, d2] => { results := [.lit (.bool false)], args := [d1, d2] }
  | _ => none }
def ViewSeesWrongFalsely : Prop := viewSeesRow.holds Tryz.pinned (OpenSpec.ofChange viewSeesWrong)

/-- 'cenotaphlaw10.SweepKeeps': WHATEVER THE INPUT: true; the input reads as it did. -/
def sweepKeepsSpec : ChangeSpec := { name := "sweepKeeps", fn := fun _ => fun
  | [d1, d2, d3] => { results := [.lit (.bool true)], args := [d1, d2, d3] }
  | _ => none }
def sweepKeepsRow : OpenClaim := { program := "ytmfhmcegmeinnaagreatdoor", sum := "5e084571e4d0f274c5b6fd6d095cce19a2566244eeed08e333b33fb753531f43", func := "cenotaph/cenotaphlaw10.SweepKeeps", spec := "sweepKeeps", inPlace := ["slices.overlaps[cenotaph/api.Mut]"], unfollowed := true, recurses := true, named := ["unicode/utf8.first", "unicode/utf8.acceptRanges"], apart := false, laid := [("unicode/utf8.acceptRanges", laid_unicode_utf8_acceptRanges), ("unicode/utf8.first", laid_unicode_utf8_first)] }
def SweepKeepsSaid : Prop := sweepKeepsRow.holds Tryz.pinned (OpenSpec.ofChange sweepKeepsSpec)

/-- ITS FALSE NEIGHBOUR: 'it returns false'. Refute it at one input. -/
def sweepKeepsWrong : ChangeSpec := { name := "sweepKeeps", fn := fun _ => fun
  | [d1, d2, d3] => { results := [.lit (.bool false)], args := [d1, d2, d3] }
  | _ => none }
def SweepKeepsWrongFalsely : Prop := sweepKeepsRow.holds Tryz.pinned (OpenSpec.ofChange sweepKeepsWrong)

/-- 'cenotaphlaw29.OrderSees': WHATEVER THE INPUT: true; the input reads as it did. -/
def orderSeesSpec : ChangeSpec := { name := "orderSees", fn := fun _ => fun
  | [d1, d2] => { results := [.lit (.bool true)], args := [d1, d2] }
  | _ => none }
def orderSeesRow : OpenClaim := { program := "ytmfhmcegmeinnaagreatdoor", sum := "5e084571e4d0f274c5b6fd6d095cce19a2566244eeed08e333b33fb753531f43", func := "cenotaph/cenotaphlaw29.OrderSees", spec := "orderSees", inPlace := ["slices.overlaps[cenotaph/api.Mut]"], unfollowed := true, recurses := true, named := ["unicode/utf8.first", "unicode/utf8.acceptRanges"], apart := false, laid := [("unicode/utf8.acceptRanges", laid_unicode_utf8_acceptRanges), ("unicode/utf8.first", laid_unicode_utf8_first)] }
def OrderSeesSaid : Prop := orderSeesRow.holds Tryz.pinned (OpenSpec.ofChange orderSeesSpec)

/-- ITS FALSE NEIGHBOUR: 'it returns false'. Refute it at one input. -/
def orderSeesWrong : ChangeSpec := { name := "orderSees", fn := fun _ => fun
  | [d1, d2] => { results := [.lit (.bool false)], args := [d1, d2] }
  | _ => none }
def OrderSeesWrongFalsely : Prop := orderSeesRow.holds Tryz.pinned (OpenSpec.ofChange orderSeesWrong)

/-- 'cenotaphlaw36.DiffsPicks': WHATEVER THE INPUT: true; the input reads as it did. -/
def diffsPicksSpec : ChangeSpec := { name := "diffsPicks", fn := fun _ => fun
  | [d1, d2] => { results := [.lit (.bool true)], args := [d1, d2] }
  | _ => none }
def diffsPicksRow : OpenClaim := { program := "ytmfhmcegmeinnaagreatdoor", sum := "5e084571e4d0f274c5b6fd6d095cce19a2566244eeed08e333b33fb753531f43", func := "cenotaph/cenotaphlaw36.DiffsPicks", spec := "diffsPicks", inPlace := ["slices.overlaps[cenotaph/api.Mut]"], unfollowed := true, recurses := true, named := ["unicode/utf8.first", "unicode/utf8.acceptRanges"], apart := false, laid := [("unicode/utf8.acceptRanges", laid_unicode_utf8_acceptRanges), ("unicode/utf8.first", laid_unicode_utf8_first)] }
def DiffsPicksSaid : Prop := diffsPicksRow.holds Tryz.pinned (OpenSpec.ofChange diffsPicksSpec)

/-- ITS FALSE NEIGHBOUR: 'it returns false'. Refute it at one input. -/
def diffsPicksWrong : ChangeSpec := { name := "diffsPicks", fn := fun _ => fun
  | [d1, d2] => { results := [.lit (.bool false)], args := [d1, d2] }
  | _ => none }
def DiffsPicksWrongFalsely : Prop := diffsPicksRow.holds Tryz.pinned (OpenSpec.ofChange diffsPicksWrong)

/-- 'cenotaphlaw36.DiffsSync': WHATEVER THE INPUT: true; the input reads as it did. -/
def diffsSyncSpec : ChangeSpec := { name := "diffsSync", fn := fun _ => fun
  | [d1, d2] => { results := [.lit (.bool true)], args := [d1, d2] }
  | _ => none }
def diffsSyncRow : OpenClaim := { program := "ytmfhmcegmeinnaagreatdoor", sum := "5e084571e4d0f274c5b6fd6d095cce19a2566244eeed08e333b33fb753531f43", func := "cenotaph/cenotaphlaw36.DiffsSync", spec := "diffsSync", inPlace := ["slices.overlaps[cenotaph/api.Mut]"], unfollowed := true, recurses := true, named := ["unicode/utf8.first", "unicode/utf8.acceptRanges"], apart := false, laid := [("unicode/utf8.acceptRanges", laid_unicode_utf8_acceptRanges), ("unicode/utf8.first", laid_unicode_utf8_first)] }
def DiffsSyncSaid : Prop := diffsSyncRow.holds Tryz.pinned (OpenSpec.ofChange diffsSyncSpec)

/-- ITS FALSE NEIGHBOUR: 'it returns false'. Refute it at one input. -/
def diffsSyncWrong : ChangeSpec := { name := "diffsSync", fn := fun _ => fun
  | [d1, d2] => { results := [.lit (.bool false)], args := [d1, d2] }
  | _ => none }
def DiffsSyncWrongFalsely : Prop := diffsSyncRow.holds Tryz.pinned (OpenSpec.ofChange diffsSyncWrong)

/-- 'cenotaphlaw24.MerkleTrees': WHATEVER THE INPUT: true; the input reads as it did. -/
def merkleTreesSpec : ChangeSpec := { name := "merkleTrees", fn := fun _ => fun
  | [d1, d2, d3] => { results := [.lit (.bool true)], args := [d1, d2, d3] }
  | _ => none }
def merkleTreesRow : OpenClaim := { program := "ytmfhmcegmeinnaagreatdoor", sum := "5e084571e4d0f274c5b6fd6d095cce19a2566244eeed08e333b33fb753531f43", func := "cenotaph/cenotaphlaw24.MerkleTrees", spec := "merkleTrees", inPlace := ["slices.overlaps[cenotaph/api.Mut]"], unfollowed := true, recurses := true, named := ["unicode/utf8.first", "unicode/utf8.acceptRanges"], apart := false, laid := [("unicode/utf8.acceptRanges", laid_unicode_utf8_acceptRanges), ("unicode/utf8.first", laid_unicode_utf8_first)] }
def MerkleTreesSaid : Prop := merkleTreesRow.holds Tryz.pinned (OpenSpec.ofChange merkleTreesSpec)

/-- ITS FALSE NEIGHBOUR: 'it returns false'. Refute it at one input. -/
def merkleTreesWrong : ChangeSpec := { name := "merkleTrees", fn := fun _ => fun
  | [d1, d2, d3] => { results := [.lit (.bool false)], args := [d1, d2, d3] }
  | _ => none }
def MerkleTreesWrongFalsely : Prop := merkleTreesRow.holds Tryz.pinned (OpenSpec.ofChange merkleTreesWrong)

/- THE SECOND FORM. 'bulk': how many values and letters a reading holds, each counted each time it is reached (what is shared counts as often as it is met; a slice's spare places count too). A statement '..UptoSaid' is the law's where the arguments, and the package variables that the reading takes, are together of bulk at most 1048576: NARROWER than '..Said'. Prove '..Said' where nothing that the law and all that it calls make is longer than what came in: it says more and counts as full. Else prove '..UptoSaid'. A law counts once. -/
mutual
def uptoBulk {H : Type} : DataW H → Nat
  | .lit (.string bytes) => bytes.length + 1
  | .lit _ => 1
  | .nil => 1
  | .ptr d => uptoBulk d + 1
  | .slice elems spare => uptoBulkAll elems + uptoBulkAll spare + 1
  | .agg parts => uptoBulkAll parts + 1
  | .iface _ d => uptoBulk d + 1
  | .map entries => uptoBulkEntries entries + 1
  | .held _ => 1
def uptoBulkAll {H : Type} : List (DataW H) → Nat
  | [] => 0
  | d :: r => uptoBulk d + uptoBulkAll r
def uptoBulkEntries {H : Type} : List (Lit × DataW H) → Nat
  | [] => 0
  | x :: r => uptoBulkEntry x + uptoBulkEntries r
def uptoBulkEntry {H : Type} : Lit × DataW H → Nat
  | (.string bytes, d) => bytes.length + uptoBulk d + 1
  | (_, d) => uptoBulk d + 1
 end
def uptoSmall : (H : Type) → List (DataW H) → Bool := fun _ ds => decide (uptoBulkAll ds ≤ 1048576)
def OpenSpec.upto (s : _root_.Go.ChangeSpec) : _root_.Go.OpenSpec := { _root_.Go.OpenSpec.ofChange s with cond := some uptoSmall }

/-- 'cenotaphlaw09.ViewSees', WHERE WHAT IT READS IS OF BULK AT MOST 1048576: true; the input reads as it did. -/
def viewSeesUptoRow : OpenClaim := { program := "ytmfhmcegmeinnaagreatdoor", sum := "5e084571e4d0f274c5b6fd6d095cce19a2566244eeed08e333b33fb753531f43", func := "cenotaph/cenotaphlaw09.ViewSees", spec := "viewSees", inPlace := ["slices.overlaps[cenotaph/api.Mut]"], unfollowed := true, recurses := true, named := ["unicode/utf8.first", "unicode/utf8.acceptRanges"], apart := false, laid := [("unicode/utf8.acceptRanges", laid_unicode_utf8_acceptRanges), ("unicode/utf8.first", laid_unicode_utf8_first)], narrowed := true }
def ViewSeesUptoSaid : Prop := viewSeesUptoRow.holds Tryz.pinned (OpenSpec.upto viewSeesSpec)

/-- 'cenotaphlaw10.SweepKeeps', WHERE WHAT IT READS IS OF BULK AT MOST 1048576: true; the input reads as it did. -/
def sweepKeepsUptoRow : OpenClaim := { program := "ytmfhmcegmeinnaagreatdoor", sum := "5e084571e4d0f274c5b6fd6d095cce19a2566244eeed08e333b33fb753531f43", func := "cenotaph/cenotaphlaw10.SweepKeeps", spec := "sweepKeeps", inPlace := ["slices.overlaps[cenotaph/api.Mut]"], unfollowed := true, recurses := true, named := ["unicode/utf8.first", "unicode/utf8.acceptRanges"], apart := false, laid := [("unicode/utf8.acceptRanges", laid_unicode_utf8_acceptRanges), ("unicode/utf8.first", laid_unicode_utf8_first)], narrowed := true }
def SweepKeepsUptoSaid : Prop := sweepKeepsUptoRow.holds Tryz.pinned (OpenSpec.upto sweepKeepsSpec)

/-- 'cenotaphlaw29.OrderSees', WHERE WHAT IT READS IS OF BULK AT MOST 1048576: true; the input reads as it did. -/
def orderSeesUptoRow : OpenClaim := { program := "ytmfhmcegmeinnaagreatdoor", sum := "5e084571e4d0f274c5b6fd6d095cce19a2566244eeed08e333b33fb753531f43", func := "cenotaph/cenotaphlaw29.OrderSees", spec := "orderSees", inPlace := ["slices.overlaps[cenotaph/api.Mut]"], unfollowed := true, recurses := true, named := ["unicode/utf8.first", "unicode/utf8.acceptRanges"], apart := false, laid := [("unicode/utf8.acceptRanges", laid_unicode_utf8_acceptRanges), ("unicode/utf8.first", laid_unicode_utf8_first)], narrowed := true }
def OrderSeesUptoSaid : Prop := orderSeesUptoRow.holds Tryz.pinned (OpenSpec.upto orderSeesSpec)

/-- 'cenotaphlaw36.DiffsPicks', WHERE WHAT IT READS IS OF BULK AT MOST 1048576: true; the input reads as it did. -/
def diffsPicksUptoRow : OpenClaim := { program := "ytmfhmcegmeinnaagreatdoor", sum := "5e084571e4d0f274c5b6fd6d095cce19a2566244eeed08e333b33fb753531f43", func := "cenotaph/cenotaphlaw36.DiffsPicks", spec := "diffsPicks", inPlace := ["slices.overlaps[cenotaph/api.Mut]"], unfollowed := true, recurses := true, named := ["unicode/utf8.first", "unicode/utf8.acceptRanges"], apart := false, laid := [("unicode/utf8.acceptRanges", laid_unicode_utf8_acceptRanges), ("unicode/utf8.first", laid_unicode_utf8_first)], narrowed := true }
def DiffsPicksUptoSaid : Prop := diffsPicksUptoRow.holds Tryz.pinned (OpenSpec.upto diffsPicksSpec)

/-- 'cenotaphlaw36.DiffsSync', WHERE WHAT IT READS IS OF BULK AT MOST 1048576: true; the input reads as it did. -/
def diffsSyncUptoRow : OpenClaim := { program := "ytmfhmcegmeinnaagreatdoor", sum := "5e084571e4d0f274c5b6fd6d095cce19a2566244eeed08e333b33fb753531f43", func := "cenotaph/cenotaphlaw36.DiffsSync", spec := "diffsSync", inPlace := ["slices.overlaps[cenotaph/api.Mut]"], unfollowed := true, recurses := true, named := ["unicode/utf8.first", "unicode/utf8.acceptRanges"], apart := false, laid := [("unicode/utf8.acceptRanges", laid_unicode_utf8_acceptRanges), ("unicode/utf8.first", laid_unicode_utf8_first)], narrowed := true }
def DiffsSyncUptoSaid : Prop := diffsSyncUptoRow.holds Tryz.pinned (OpenSpec.upto diffsSyncSpec)

/-- 'cenotaphlaw24.MerkleTrees', WHERE WHAT IT READS IS OF BULK AT MOST 1048576: true; the input reads as it did. -/
def merkleTreesUptoRow : OpenClaim := { program := "ytmfhmcegmeinnaagreatdoor", sum := "5e084571e4d0f274c5b6fd6d095cce19a2566244eeed08e333b33fb753531f43", func := "cenotaph/cenotaphlaw24.MerkleTrees", spec := "merkleTrees", inPlace := ["slices.overlaps[cenotaph/api.Mut]"], unfollowed := true, recurses := true, named := ["unicode/utf8.first", "unicode/utf8.acceptRanges"], apart := false, laid := [("unicode/utf8.acceptRanges", laid_unicode_utf8_acceptRanges), ("unicode/utf8.first", laid_unicode_utf8_first)], narrowed := true }
def MerkleTreesUptoSaid : Prop := merkleTreesUptoRow.holds Tryz.pinned (OpenSpec.upto merkleTreesSpec)

end Rows
end Go.Proofs.YtmfhmcegmeinnaaGreatDoor
