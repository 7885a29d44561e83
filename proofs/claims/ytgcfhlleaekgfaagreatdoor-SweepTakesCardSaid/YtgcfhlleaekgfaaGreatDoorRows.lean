/-
  NARROWER THAN 'FOR EVERY INPUT', by the rows' own cells (each row's printed sentence says how): StateLeft: laid · StateSame: laid · StateParts: laid · SweepExpired: laid · SweepTakes: laid.
  DERIVED. THE GIVEN ROWS OF THIS SEAT. 5 by the template 'for every input the law returns true; each argument reads behind the call as it read before'; 0 by the template 'total and deterministic' (their statements: YtgcfhlleaekgfaaGreatDoorTotals.lean).
  GIVEN WITH THE SEED: the statements are not yours to turn. If you find one false, say at which input.
  Laid BY PROGRAM, IN A SANDBOX (cutbox-rows.mjs): the forced cells as the released guide's own fill.sh prints them over the translation 6ef143823cc7897e… (all of the seat's roots in one cut). By AI agents, Wed Nov 11 2026. No macro, syntax, notation, axiom, sorry.
-/
import Derived.Test.YtgcfhlleaekgfaaGreatDoorChecked
import GoSem.PinnedTables
import GoSem.Claim
import GoSem.ClaimJoined
import GoSem.ClaimMapViews
import Derived.JoinedTies
import Derived.KernelRfl
namespace Go.Proofs.YtgcfhlleaekgfaaGreatDoor
/- THE CELL 'sum', in the pinned program and in every row, IS THE sha256 OF THE DUMP (.gsa) THAT YtgcfhlleaekgfaaGreatDoorProg.lean LOADS. Nothing in Lean hashes anything: it is a label: what it is worth is what the hold of that sum in a sandbox is worth. -/
noncomputable def Tryz.pinned : Pinned := { name := "ytgcfhlleaekgfaagreatdoor", sum := "6ef143823cc7897e3ed03046950b60081f563cbe0679420b6e9ef86f532dd64c", checked := Tryz.checked }
namespace Rows
def none {H : Type} : Left H := { results := [], args := [] }

/- WHAT THE LISTED PACKAGE-LEVEL VARIABLES READ AS WHEN THE CALL BEGINS. Each datum BY PROGRAM (the guide's laid-datum.mjs) off the statement by which the dump's own 'gosem.cut.vars' lays the variable. In a bare row this is a premise. The card (YtgcfhlleaekgfaaGreatDoorCards.lean) ties it to the program's text. -/
def laid_unicode_utf8_acceptRanges {H : Type} : DataW H := .agg [.agg [.lit (.int .u8 128), .lit (.int .u8 191)], .agg [.lit (.int .u8 160), .lit (.int .u8 191)], .agg [.lit (.int .u8 128), .lit (.int .u8 159)], .agg [.lit (.int .u8 144), .lit (.int .u8 191)], .agg [.lit (.int .u8 128), .lit (.int .u8 143)], .agg [.lit (.int .u8 0), .lit (.int .u8 0)], .agg [.lit (.int .u8 0), .lit (.int .u8 0)], .agg [.lit (.int .u8 0), .lit (.int .u8 0)], .agg [.lit (.int .u8 0), .lit (.int .u8 0)], .agg [.lit (.int .u8 0), .lit (.int .u8 0)], .agg [.lit (.int .u8 0), .lit (.int .u8 0)], .agg [.lit (.int .u8 0), .lit (.int .u8 0)], .agg [.lit (.int .u8 0), .lit (.int .u8 0)], .agg [.lit (.int .u8 0), .lit (.int .u8 0)], .agg [.lit (.int .u8 0), .lit (.int .u8 0)], .agg [.lit (.int .u8 0), .lit (.int .u8 0)]]
/-- One of Go's own tables, pinned by name: the form's constant. -/
def laid_unicode_utf8_first : DataW Unit := Go.Pinned.utf8First

/-- 'cenotaphlaw08.StateLeft': WHATEVER THE INPUT: true; the input reads as it did. -/
def stateLeftSpec : ChangeSpec := { name := "stateLeft", fn := fun _ => fun
  | [d1, d2, d3] => { results := [.lit (.bool true)], args := [d1, d2, d3] }
  | _ => none }
def stateLeftRow : OpenClaim := { program := "ytgcfhlleaekgfaagreatdoor", sum := "6ef143823cc7897e3ed03046950b60081f563cbe0679420b6e9ef86f532dd64c", func := "cenotaph/cenotaphlaw08.StateLeft", spec := "stateLeft", inPlace := ["slices.overlaps[cenotaph/api.Mut]"], unfollowed := true, recurses := true, named := ["unicode/utf8.first", "unicode/utf8.acceptRanges"], apart := false, laid := [("unicode/utf8.acceptRanges", laid_unicode_utf8_acceptRanges), ("unicode/utf8.first", laid_unicode_utf8_first)] }
def StateLeftSaid : Prop := stateLeftRow.holds Tryz.pinned (OpenSpec.ofChange stateLeftSpec)

/-- ITS FALSE NEIGHBOUR: 'it returns false'. Refute it at one input. -/
def stateLeftWrong : ChangeSpec := { name := "stateLeft", fn := fun _ => fun
  | [d1, d2, d3] => { results := [.lit (.bool false)], args := [d1, d2, d3] }
  | _ => none }
def StateLeftWrongFalsely : Prop := stateLeftRow.holds Tryz.pinned (OpenSpec.ofChange stateLeftWrong)

/-- 'cenotaphlaw08.StateSame': WHATEVER THE INPUT: true; the input reads as it did. -/
def stateSameSpec : ChangeSpec := { name := "stateSame", fn := fun _ => fun
  | [d1, d2, d3] => { results := [.lit (.bool true)], args := [d1, d2, d3] }
  | _ => none }
def stateSameRow : OpenClaim := { program := "ytgcfhlleaekgfaagreatdoor", sum := "6ef143823cc7897e3ed03046950b60081f563cbe0679420b6e9ef86f532dd64c", func := "cenotaph/cenotaphlaw08.StateSame", spec := "stateSame", inPlace := ["slices.overlaps[cenotaph/api.Mut]"], unfollowed := true, recurses := true, named := ["unicode/utf8.first", "unicode/utf8.acceptRanges"], apart := false, laid := [("unicode/utf8.acceptRanges", laid_unicode_utf8_acceptRanges), ("unicode/utf8.first", laid_unicode_utf8_first)] }
def StateSameSaid : Prop := stateSameRow.holds Tryz.pinned (OpenSpec.ofChange stateSameSpec)

/-- ITS FALSE NEIGHBOUR: 'it returns false'. Refute it at one input. -/
def stateSameWrong : ChangeSpec := { name := "stateSame", fn := fun _ => fun
  | [d1, d2, d3] => { results := [.lit (.bool false)], args := [d1, d2, d3] }
  | _ => none }
def StateSameWrongFalsely : Prop := stateSameRow.holds Tryz.pinned (OpenSpec.ofChange stateSameWrong)

/-- 'cenotaphlaw08.StateParts': WHATEVER THE INPUT: true; the input reads as it did. -/
def statePartsSpec : ChangeSpec := { name := "stateParts", fn := fun _ => fun
  | [d1, d2, d3] => { results := [.lit (.bool true)], args := [d1, d2, d3] }
  | _ => none }
def statePartsRow : OpenClaim := { program := "ytgcfhlleaekgfaagreatdoor", sum := "6ef143823cc7897e3ed03046950b60081f563cbe0679420b6e9ef86f532dd64c", func := "cenotaph/cenotaphlaw08.StateParts", spec := "stateParts", inPlace := ["slices.overlaps[cenotaph/api.Mut]"], unfollowed := true, recurses := true, named := ["unicode/utf8.first", "unicode/utf8.acceptRanges"], apart := false, laid := [("unicode/utf8.acceptRanges", laid_unicode_utf8_acceptRanges), ("unicode/utf8.first", laid_unicode_utf8_first)] }
def StatePartsSaid : Prop := statePartsRow.holds Tryz.pinned (OpenSpec.ofChange statePartsSpec)

/-- ITS FALSE NEIGHBOUR: 'it returns false'. Refute it at one input. -/
def statePartsWrong : ChangeSpec := { name := "stateParts", fn := fun _ => fun
  | [d1, d2, d3] => { results := [.lit (.bool false)], args := [d1, d2, d3] }
  | _ => none }
def StatePartsWrongFalsely : Prop := statePartsRow.holds Tryz.pinned (OpenSpec.ofChange statePartsWrong)

/-- 'cenotaphlaw10.SweepExpired': WHATEVER THE INPUT: true; the input reads as it did. -/
def sweepExpiredSpec : ChangeSpec := { name := "sweepExpired", fn := fun _ => fun
  | [d1, d2] => { results := [.lit (.bool true)], args := [d1, d2] }
  | _ => none }
def sweepExpiredRow : OpenClaim := { program := "ytgcfhlleaekgfaagreatdoor", sum := "6ef143823cc7897e3ed03046950b60081f563cbe0679420b6e9ef86f532dd64c", func := "cenotaph/cenotaphlaw10.SweepExpired", spec := "sweepExpired", inPlace := ["slices.overlaps[cenotaph/api.Mut]"], unfollowed := true, recurses := true, named := ["unicode/utf8.first", "unicode/utf8.acceptRanges"], apart := false, laid := [("unicode/utf8.acceptRanges", laid_unicode_utf8_acceptRanges), ("unicode/utf8.first", laid_unicode_utf8_first)] }
def SweepExpiredSaid : Prop := sweepExpiredRow.holds Tryz.pinned (OpenSpec.ofChange sweepExpiredSpec)

/-- ITS FALSE NEIGHBOUR: 'it returns false'. Refute it at one input. -/
def sweepExpiredWrong : ChangeSpec := { name := "sweepExpired", fn := fun _ => fun
  | [d1, d2] => { results := [.lit (.bool false)], args := [d1, d2] }
  | _ => none }
def SweepExpiredWrongFalsely : Prop := sweepExpiredRow.holds Tryz.pinned (OpenSpec.ofChange sweepExpiredWrong)

/-- 'cenotaphlaw10.SweepTakes': WHATEVER THE INPUT: true; the input reads as it did. -/
def sweepTakesSpec : ChangeSpec := { name := "sweepTakes", fn := fun _ => fun
  | [d1, d2] => { results := [.lit (.bool true)], args := [d1, d2] }
  | _ => none }
def sweepTakesRow : OpenClaim := { program := "ytgcfhlleaekgfaagreatdoor", sum := "6ef143823cc7897e3ed03046950b60081f563cbe0679420b6e9ef86f532dd64c", func := "cenotaph/cenotaphlaw10.SweepTakes", spec := "sweepTakes", inPlace := ["slices.overlaps[cenotaph/api.Mut]"], unfollowed := true, recurses := true, named := ["unicode/utf8.first", "unicode/utf8.acceptRanges"], apart := false, laid := [("unicode/utf8.acceptRanges", laid_unicode_utf8_acceptRanges), ("unicode/utf8.first", laid_unicode_utf8_first)] }
def SweepTakesSaid : Prop := sweepTakesRow.holds Tryz.pinned (OpenSpec.ofChange sweepTakesSpec)

/-- ITS FALSE NEIGHBOUR: 'it returns false'. Refute it at one input. -/
def sweepTakesWrong : ChangeSpec := { name := "sweepTakes", fn := fun _ => fun
  | [d1, d2] => { results := [.lit (.bool false)], args := [d1, d2] }
  | _ => none }
def SweepTakesWrongFalsely : Prop := sweepTakesRow.holds Tryz.pinned (OpenSpec.ofChange sweepTakesWrong)

/- THE SECOND FORM. 'bulk': how many values and letters a reading holds, each counted each time it is reached (what is shared counts as often as it is met; a slice's spare places count too). A statement '..UptoSaid' is the law's where the arguments, and the package variables that the reading takes, are together of bulk at most 1048576: NARROWER than '..Said'. Prove '..Said' where nothing that the law and all that it calls make is longer than what came in: it says more and counts as full. Else prove '..UptoSaid'. A law counts once. -/
mutual
def uptoBulk {H : Type} : DataW H → Nat
  | .lit (.string bytes) => bytes.length + 1
  | .lit _ => 1
  | .nil => 1
  | .ptr d => uptoBulk d + 1
  | .slice elems spare => uptoBulkAll elems + uptoBulkAll spare + 1
  | .agg parts => uptoBulkAll parts + 1
  | .iface _ d => uptoBulk d + 1
  | .map entries => uptoBulkEntries entries + 1
  | .held _ => 1
def uptoBulkAll {H : Type} : List (DataW H) → Nat
  | [] => 0
  | d :: r => uptoBulk d + uptoBulkAll r
def uptoBulkEntries {H : Type} : List (Lit × DataW H) → Nat
  | [] => 0
  | x :: r => uptoBulkEntry x + uptoBulkEntries r
def uptoBulkEntry {H : Type} : Lit × DataW H → Nat
  | (.string bytes, d) => bytes.length + uptoBulk d + 1
  | (_, d) => uptoBulk d + 1
 end
def uptoSmall : (H : Type) → List (DataW H) → Bool := fun _ ds => decide (uptoBulkAll ds ≤ 1048576)
def OpenSpec.upto (s : _root_.Go.ChangeSpec) : _root_.Go.OpenSpec := { _root_.Go.OpenSpec.ofChange s with cond := some uptoSmall }

/-- 'cenotaphlaw08.StateLeft', WHERE WHAT IT READS IS OF BULK AT MOST 1048576: true; the input reads as it did. -/
def stateLeftUptoRow : OpenClaim := { program := "ytgcfhlleaekgfaagreatdoor", sum := "6ef143823cc7897e3ed03046950b60081f563cbe0679420b6e9ef86f532dd64c", func := "cenotaph/cenotaphlaw08.StateLeft", spec := "stateLeft", inPlace := ["slices.overlaps[cenotaph/api.Mut]"], unfollowed := true, recurses := true, named := ["unicode/utf8.first", "unicode/utf8.acceptRanges"], apart := false, laid := [("unicode/utf8.acceptRanges", laid_unicode_utf8_acceptRanges), ("unicode/utf8.first", laid_unicode_utf8_first)], narrowed := true }
def StateLeftUptoSaid : Prop := stateLeftUptoRow.holds Tryz.pinned (OpenSpec.upto stateLeftSpec)

/-- 'cenotaphlaw08.StateSame', WHERE WHAT IT READS IS OF BULK AT MOST 1048576: true; the input reads as it did. -/
def stateSameUptoRow : OpenClaim := { program := "ytgcfhlleaekgfaagreatdoor", sum := "6ef143823cc7897e3ed03046950b60081f563cbe0679420b6e9ef86f532dd64c", func := "cenotaph/cenotaphlaw08.StateSame", spec := "stateSame", inPlace := ["slices.overlaps[cenotaph/api.Mut]"], unfollowed := true, recurses := true, named := ["unicode/utf8.first", "unicode/utf8.acceptRanges"], apart := false, laid := [("unicode/utf8.acceptRanges", laid_unicode_utf8_acceptRanges), ("unicode/utf8.first", laid_unicode_utf8_first)], narrowed := true }
def StateSameUptoSaid : Prop := stateSameUptoRow.holds Tryz.pinned (OpenSpec.upto stateSameSpec)

/-- 'cenotaphlaw08.StateParts', WHERE WHAT IT READS IS OF BULK AT MOST 1048576: true; the input reads as it did. -/
def statePartsUptoRow : OpenClaim := { program := "ytgcfhlleaekgfaagreatdoor", sum := "6ef143823cc7897e3ed03046950b60081f563cbe0679420b6e9ef86f532dd64c", func := "cenotaph/cenotaphlaw08.StateParts", spec := "stateParts", inPlace := ["slices.overlaps[cenotaph/api.Mut]"], unfollowed := true, recurses := true, named := ["unicode/utf8.first", "unicode/utf8.acceptRanges"], apart := false, laid := [("unicode/utf8.acceptRanges", laid_unicode_utf8_acceptRanges), ("unicode/utf8.first", laid_unicode_utf8_first)], narrowed := true }
def StatePartsUptoSaid : Prop := statePartsUptoRow.holds Tryz.pinned (OpenSpec.upto statePartsSpec)

/-- 'cenotaphlaw10.SweepExpired', WHERE WHAT IT READS IS OF BULK AT MOST 1048576: true; the input reads as it did. -/
def sweepExpiredUptoRow : OpenClaim := { program := "ytgcfhlleaekgfaagreatdoor", sum := "6ef143823cc7897e3ed03046950b60081f563cbe0679420b6e9ef86f532dd64c", func := "cenotaph/cenotaphlaw10.SweepExpired", spec := "sweepExpired", inPlace := ["slices.overlaps[cenotaph/api.Mut]"], unfollowed := true, recurses := true, named := ["unicode/utf8.first", "unicode/utf8.acceptRanges"], apart := false, laid := [("unicode/utf8.acceptRanges", laid_unicode_utf8_acceptRanges), ("unicode/utf8.first", laid_unicode_utf8_first)], narrowed := true }
def SweepExpiredUptoSaid : Prop := sweepExpiredUptoRow.holds Tryz.pinned (OpenSpec.upto sweepExpiredSpec)

/-- 'cenotaphlaw10.SweepTakes', WHERE WHAT IT READS IS OF BULK AT MOST 1048576: true; the input reads as it did. -/
def sweepTakesUptoRow : OpenClaim := { program := "ytgcfhlleaekgfaagreatdoor", sum := "6ef143823cc7897e3ed03046950b60081f563cbe0679420b6e9ef86f532dd64c", func := "cenotaph/cenotaphlaw10.SweepTakes", spec := "sweepTakes", inPlace := ["slices.overlaps[cenotaph/api.Mut]"], unfollowed := true, recurses := true, named := ["unicode/utf8.first", "unicode/utf8.acceptRanges"], apart := false, laid := [("unicode/utf8.acceptRanges", laid_unicode_utf8_acceptRanges), ("unicode/utf8.first", laid_unicode_utf8_first)], narrowed := true }
def SweepTakesUptoSaid : Prop := sweepTakesUptoRow.holds Tryz.pinned (OpenSpec.upto sweepTakesSpec)

end Rows
end Go.Proofs.YtgcfhlleaekgfaaGreatDoor
