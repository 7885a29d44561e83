/-
  No cell of these rows narrows 'for every input' (looked for: loops, veiled, ifaces, maps, wideKeys, modest, calm, conditions, laid).
  DERIVED. THE GIVEN ROWS OF THIS SEAT. 10 by the template 'for every input the law returns true; each argument reads behind the call as it read before'; 0 by the template 'total and deterministic' (their statements: YtehcndjpckolmaaTotals.lean).
  GIVEN WITH THE SEED: the statements are not yours to turn. If you find one false, say at which input.
  Laid BY PROGRAM, IN A SANDBOX (cutbox-rows.mjs): the forced cells as the released guide's own fill.sh prints them over the translation 6b83b0320e39cd71… (all of the seat's roots in one cut). By AI agents, Wed Nov 11 2026. No macro, syntax, notation, axiom, sorry.
-/
import Derived.Test.YtehcndjpckolmaaChecked
import GoSem.Claim
import GoSem.ClaimJoined
import GoSem.ClaimMapViews
import Derived.JoinedTies
import Derived.KernelRfl
namespace Go.Proofs.Ytehcndjpckolmaa
/- THE CELL 'sum', in the pinned program and in every row, IS THE sha256 OF THE DUMP (.gsa) THAT YtehcndjpckolmaaProg.lean LOADS. Nothing in Lean hashes anything: it is a label: what it is worth is what the hold of that sum in a sandbox is worth. -/
noncomputable def Try.pinned : Pinned := { name := "ytehcndjpckolmaa", sum := "6b83b0320e39cd71a9c4e19af341f5c9bd99a8f807c885abee320fcc0349b68c", checked := Try.checked }
namespace Rows
def none {H : Type} : Left H := { results := [], args := [] }

/-- 'cenotaphlaw36.DiffsRows': WHATEVER THE INPUT: true; the input reads as it did. -/
def diffsRowsSpec : ChangeSpec := { name := "diffsRows", fn := fun _ => fun
  | [d1, d2] => { results := [.lit (.bool true)], args := [d1, d2] }
  | _ => none }
def diffsRowsRow : OpenClaim := { program := "ytehcndjpckolmaa", sum := "6b83b0320e39cd71a9c4e19af341f5c9bd99a8f807c885abee320fcc0349b68c", func := "cenotaph/cenotaphlaw36.DiffsRows", spec := "diffsRows", unfollowed := true, recurses := true, apart := false }
def DiffsRowsSaid : Prop := diffsRowsRow.holds Try.pinned (OpenSpec.ofChange diffsRowsSpec)

/-- ITS FALSE NEIGHBOUR: 'it returns false'. Refute it at one input. -/
def diffsRowsWrong : ChangeSpec := { name := "diffsRows", fn := fun _ => fun
  | [d1, d2] => { results := [.lit (.bool false)], args := [d1, d2] }
  | _ => none }
def DiffsRowsWrongFalsely : Prop := diffsRowsRow.holds Try.pinned (OpenSpec.ofChange diffsRowsWrong)

/-- 'cenotaphlaw43.PickOrders': WHATEVER THE INPUT: true; the input reads as it did. -/
def pickOrdersSpec : ChangeSpec := { name := "pickOrders", fn := fun _ => fun
  | [d1, d2] => { results := [.lit (.bool true)], args := [d1, d2] }
  | _ => none }
def pickOrdersRow : OpenClaim := { program := "ytehcndjpckolmaa", sum := "6b83b0320e39cd71a9c4e19af341f5c9bd99a8f807c885abee320fcc0349b68c", func := "cenotaph/cenotaphlaw43.PickOrders", spec := "pickOrders", unfollowed := true, recurses := true, apart := false }
def PickOrdersSaid : Prop := pickOrdersRow.holds Try.pinned (OpenSpec.ofChange pickOrdersSpec)

/-- ITS FALSE NEIGHBOUR: 'it returns false'. Refute it at one input. -/
def pickOrdersWrong : ChangeSpec := { name := "pickOrders", fn := fun _ => fun
  | [d1, d2] => { results := [.lit (.bool false)], args := [d1, d2] }
  | _ => none }
def PickOrdersWrongFalsely : Prop := pickOrdersRow.holds Try.pinned (OpenSpec.ofChange pickOrdersWrong)

/-- 'cenotaphlaw43.PickAll': WHATEVER THE INPUT: true; the input reads as it did. -/
def pickAllSpec : ChangeSpec := { name := "pickAll", fn := fun _ => fun
  | [d1, d2] => { results := [.lit (.bool true)], args := [d1, d2] }
  | _ => none }
def pickAllRow : OpenClaim := { program := "ytehcndjpckolmaa", sum := "6b83b0320e39cd71a9c4e19af341f5c9bd99a8f807c885abee320fcc0349b68c", func := "cenotaph/cenotaphlaw43.PickAll", spec := "pickAll", unfollowed := true, recurses := true, apart := false }
def PickAllSaid : Prop := pickAllRow.holds Try.pinned (OpenSpec.ofChange pickAllSpec)

/-- ITS FALSE NEIGHBOUR: 'it returns false'. Refute it at one input. -/
def pickAllWrong : ChangeSpec := { name := "pickAll", fn := fun _ => fun
  | [d1, d2] => { results := [.lit (.bool false)], args := [d1, d2] }
  | _ => none }
def PickAllWrongFalsely : Prop := pickAllRow.holds Try.pinned (OpenSpec.ofChange pickAllWrong)

/-- 'cenotaphlaw43.PickPlans': WHATEVER THE INPUT: true; the input reads as it did. -/
def pickPlansSpec : ChangeSpec := { name := "pickPlans", fn := fun _ => fun
  | [d1, d2] => { results := [.lit (.bool true)], args := [d1, d2] }
  | _ => none }
def pickPlansRow : OpenClaim := { program := "ytehcndjpckolmaa", sum := "6b83b0320e39cd71a9c4e19af341f5c9bd99a8f807c885abee320fcc0349b68c", func := "cenotaph/cenotaphlaw43.PickPlans", spec := "pickPlans", unfollowed := true, recurses := true, apart := false }
def PickPlansSaid : Prop := pickPlansRow.holds Try.pinned (OpenSpec.ofChange pickPlansSpec)

/-- ITS FALSE NEIGHBOUR: 'it returns false'. Refute it at one input. -/
def pickPlansWrong : ChangeSpec := { name := "pickPlans", fn := fun _ => fun
  | [d1, d2] => { results := [.lit (.bool false)], args := [d1, d2] }
  | _ => none }
def PickPlansWrongFalsely : Prop := pickPlansRow.holds Try.pinned (OpenSpec.ofChange pickPlansWrong)

/-- 'cenotaphlaw45.TrieEmpty': WHATEVER THE INPUT: true; the input reads as it did. -/
def trieEmptySpec : ChangeSpec := { name := "trieEmpty", fn := fun _ => fun
  | [d1, d2] => { results := [.lit (.bool true)], args := [d1, d2] }
  | _ => none }
def trieEmptyRow : OpenClaim := { program := "ytehcndjpckolmaa", sum := "6b83b0320e39cd71a9c4e19af341f5c9bd99a8f807c885abee320fcc0349b68c", func := "cenotaph/cenotaphlaw45.TrieEmpty", spec := "trieEmpty", inPlace := ["slices.overlaps[rune]", "slices.overlaps[*cenotaph/trie.node]"], recurses := true, apart := false }
def TrieEmptySaid : Prop := trieEmptyRow.holds Try.pinned (OpenSpec.ofChange trieEmptySpec)

/-- ITS FALSE NEIGHBOUR: 'it returns false'. Refute it at one input. -/
def trieEmptyWrong : ChangeSpec := { name := "trieEmpty", fn := fun _ => fun
  | [d1, d2] => { results := [.lit (.bool false)], args := [d1, d2] }
  | _ => none }
def TrieEmptyWrongFalsely : Prop := trieEmptyRow.holds Try.pinned (OpenSpec.ofChange trieEmptyWrong)

/-- 'cenotaphlaw45.TriePlays': WHATEVER THE INPUT: true; the input reads as it did. -/
def triePlaysSpec : ChangeSpec := { name := "triePlays", fn := fun _ => fun
  | [d1, d2] => { results := [.lit (.bool true)], args := [d1, d2] }
  | _ => none }
def triePlaysRow : OpenClaim := { program := "ytehcndjpckolmaa", sum := "6b83b0320e39cd71a9c4e19af341f5c9bd99a8f807c885abee320fcc0349b68c", func := "cenotaph/cenotaphlaw45.TriePlays", spec := "triePlays", inPlace := ["slices.overlaps[rune]", "slices.overlaps[*cenotaph/trie.node]"], unfollowed := true, recurses := true, apart := false }
def TriePlaysSaid : Prop := triePlaysRow.holds Try.pinned (OpenSpec.ofChange triePlaysSpec)

/-- ITS FALSE NEIGHBOUR: 'it returns false'. Refute it at one input. -/
def triePlaysWrong : ChangeSpec := { name := "triePlays", fn := fun _ => fun
  | [d1, d2] => { results := [.lit (.bool false)], args := [d1, d2] }
  | _ => none }
def TriePlaysWrongFalsely : Prop := triePlaysRow.holds Try.pinned (OpenSpec.ofChange triePlaysWrong)

/-- 'cenotaphlaw05.VectorKnows': WHATEVER THE INPUT: true; the input reads as it did. -/
def vectorKnowsSpec : ChangeSpec := { name := "vectorKnows", fn := fun _ => fun
  | [d1, d2] => { results := [.lit (.bool true)], args := [d1, d2] }
  | _ => none }
def vectorKnowsRow : OpenClaim := { program := "ytehcndjpckolmaa", sum := "6b83b0320e39cd71a9c4e19af341f5c9bd99a8f807c885abee320fcc0349b68c", func := "cenotaph/cenotaphlaw05.VectorKnows", spec := "vectorKnows", unfollowed := true, recurses := true, apart := false }
def VectorKnowsSaid : Prop := vectorKnowsRow.holds Try.pinned (OpenSpec.ofChange vectorKnowsSpec)

/-- ITS FALSE NEIGHBOUR: 'it returns false'. Refute it at one input. -/
def vectorKnowsWrong : ChangeSpec := { name := "vectorKnows", fn := fun _ => fun
  | [d1, d2] => { results := [.lit (.bool false)], args := [d1, d2] }
  | _ => none }
def VectorKnowsWrongFalsely : Prop := vectorKnowsRow.holds Try.pinned (OpenSpec.ofChange vectorKnowsWrong)

/-- 'cenotaphlaw05.VectorNext': WHATEVER THE INPUT: true; the input reads as it did. -/
def vectorNextSpec : ChangeSpec := { name := "vectorNext", fn := fun _ => fun
  | [d1, d2] => { results := [.lit (.bool true)], args := [d1, d2] }
  | _ => none }
def vectorNextRow : OpenClaim := { program := "ytehcndjpckolmaa", sum := "6b83b0320e39cd71a9c4e19af341f5c9bd99a8f807c885abee320fcc0349b68c", func := "cenotaph/cenotaphlaw05.VectorNext", spec := "vectorNext", unfollowed := true, recurses := true, apart := false }
def VectorNextSaid : Prop := vectorNextRow.holds Try.pinned (OpenSpec.ofChange vectorNextSpec)

/-- ITS FALSE NEIGHBOUR: 'it returns false'. Refute it at one input. -/
def vectorNextWrong : ChangeSpec := { name := "vectorNext", fn := fun _ => fun
  | [d1, d2] => { results := [.lit (.bool false)], args := [d1, d2] }
  | _ => none }
def VectorNextWrongFalsely : Prop := vectorNextRow.holds Try.pinned (OpenSpec.ofChange vectorNextWrong)

/-- 'cenotaphlaw05.VectorJoins': WHATEVER THE INPUT: true; the input reads as it did. -/
def vectorJoinsSpec : ChangeSpec := { name := "vectorJoins", fn := fun _ => fun
  | [d1, d2] => { results := [.lit (.bool true)], args := [d1, d2] }
  | _ => none }
def vectorJoinsRow : OpenClaim := { program := "ytehcndjpckolmaa", sum := "6b83b0320e39cd71a9c4e19af341f5c9bd99a8f807c885abee320fcc0349b68c", func := "cenotaph/cenotaphlaw05.VectorJoins", spec := "vectorJoins", unfollowed := true, recurses := true, apart := false }
def VectorJoinsSaid : Prop := vectorJoinsRow.holds Try.pinned (OpenSpec.ofChange vectorJoinsSpec)

/-- ITS FALSE NEIGHBOUR: 'it returns false'. Refute it at one input. -/
def vectorJoinsWrong : ChangeSpec := { name := "vectorJoins", fn := fun _ => fun
  | [d1, d2] => { results := [.lit (.bool false)], args := [d1, d2] }
  | _ => none }
def VectorJoinsWrongFalsely : Prop := vectorJoinsRow.holds Try.pinned (OpenSpec.ofChange vectorJoinsWrong)

/-- 'cenotaphlaw05.VectorLaws': WHATEVER THE INPUT: true; the input reads as it did. -/
def vectorLawsSpec : ChangeSpec := { name := "vectorLaws", fn := fun _ => fun
  | [d1, d2, d3] => { results := [.lit (.bool true)], args := [d1, d2, d3] }
  | _ => none }
def vectorLawsRow : OpenClaim := { program := "ytehcndjpckolmaa", sum := "6b83b0320e39cd71a9c4e19af341f5c9bd99a8f807c885abee320fcc0349b68c", func := "cenotaph/cenotaphlaw05.VectorLaws", spec := "vectorLaws", unfollowed := true, recurses := true, apart := false }
def VectorLawsSaid : Prop := vectorLawsRow.holds Try.pinned (OpenSpec.ofChange vectorLawsSpec)

/-- ITS FALSE NEIGHBOUR: 'it returns false'. Refute it at one input. -/
def vectorLawsWrong : ChangeSpec := { name := "vectorLaws", fn := fun _ => fun
  | [d1, d2, d3] => { results := [.lit (.bool false)], args := [d1, d2, d3] }
  | _ => none }
def VectorLawsWrongFalsely : Prop := vectorLawsRow.holds Try.pinned (OpenSpec.ofChange vectorLawsWrong)

/- THE SECOND FORM. 'bulk': how many values and letters a reading holds, each counted each time it is reached (what is shared counts as often as it is met; a slice's spare places count too). A statement '..UptoSaid' is the law's where the arguments, and the package variables that the reading takes, are together of bulk at most 1048576: NARROWER than '..Said'. Prove '..Said' where nothing that the law and all that it calls make is longer than what came in: it says more and counts as full. Else prove '..UptoSaid'. A law counts once. -/
mutual
def uptoBulk {H : Type} : DataW H → Nat
  | .lit (.string bytes) => bytes.length + 1
  | .lit _ => 1
  | .nil => 1
  | .ptr d => uptoBulk d + 1
  | .slice elems spare => uptoBulkAll elems + uptoBulkAll spare + 1
  | .agg parts => uptoBulkAll parts + 1
  | .iface _ d => uptoBulk d + 1
  | .map entries => uptoBulkEntries entries + 1
  | .held _ => 1
def uptoBulkAll {H : Type} : List (DataW H) → Nat
  | [] => 0
  | d :: r => uptoBulk d + uptoBulkAll r
def uptoBulkEntries {H : Type} : List (Lit × DataW H) → Nat
  | [] => 0
  | x :: r => uptoBulkEntry x + uptoBulkEntries r
def uptoBulkEntry {H : Type} : Lit × DataW H → Nat
  | (.string bytes, d) => bytes.length + uptoBulk d + 1
  | (_, d) => uptoBulk d + 1
 end
def uptoSmall : (H : Type) → List (DataW H) → Bool := fun _ ds => decide (uptoBulkAll ds ≤ 1048576)
def OpenSpec.upto (s : _root_.Go.ChangeSpec) : _root_.Go.OpenSpec := { _root_.Go.OpenSpec.ofChange s with cond := some uptoSmall }

/-- 'cenotaphlaw36.DiffsRows', WHERE WHAT IT READS IS OF BULK AT MOST 1048576: true; the input reads as it did. -/
def diffsRowsUptoRow : OpenClaim := { program := "ytehcndjpckolmaa", sum := "6b83b0320e39cd71a9c4e19af341f5c9bd99a8f807c885abee320fcc0349b68c", func := "cenotaph/cenotaphlaw36.DiffsRows", spec := "diffsRows", unfollowed := true, recurses := true, apart := false, narrowed := true }
def DiffsRowsUptoSaid : Prop := diffsRowsUptoRow.holds Try.pinned (OpenSpec.upto diffsRowsSpec)

/-- 'cenotaphlaw43.PickOrders', WHERE WHAT IT READS IS OF BULK AT MOST 1048576: true; the input reads as it did. -/
def pickOrdersUptoRow : OpenClaim := { program := "ytehcndjpckolmaa", sum := "6b83b0320e39cd71a9c4e19af341f5c9bd99a8f807c885abee320fcc0349b68c", func := "cenotaph/cenotaphlaw43.PickOrders", spec := "pickOrders", unfollowed := true, recurses := true, apart := false, narrowed := true }
def PickOrdersUptoSaid : Prop := pickOrdersUptoRow.holds Try.pinned (OpenSpec.upto pickOrdersSpec)

/-- 'cenotaphlaw43.PickAll', WHERE WHAT IT READS IS OF BULK AT MOST 1048576: true; the input reads as it did. -/
def pickAllUptoRow : OpenClaim := { program := "ytehcndjpckolmaa", sum := "6b83b0320e39cd71a9c4e19af341f5c9bd99a8f807c885abee320fcc0349b68c", func := "cenotaph/cenotaphlaw43.PickAll", spec := "pickAll", unfollowed := true, recurses := true, apart := false, narrowed := true }
def PickAllUptoSaid : Prop := pickAllUptoRow.holds Try.pinned (OpenSpec.upto pickAllSpec)

/-- 'cenotaphlaw43.PickPlans', WHERE WHAT IT READS IS OF BULK AT MOST 1048576: true; the input reads as it did. -/
def pickPlansUptoRow : OpenClaim := { program := "ytehcndjpckolmaa", sum := "6b83b0320e39cd71a9c4e19af341f5c9bd99a8f807c885abee320fcc0349b68c", func := "cenotaph/cenotaphlaw43.PickPlans", spec := "pickPlans", unfollowed := true, recurses := true, apart := false, narrowed := true }
def PickPlansUptoSaid : Prop := pickPlansUptoRow.holds Try.pinned (OpenSpec.upto pickPlansSpec)

/-- 'cenotaphlaw45.TrieEmpty', WHERE WHAT IT READS IS OF BULK AT MOST 1048576: true; the input reads as it did. -/
def trieEmptyUptoRow : OpenClaim := { program := "ytehcndjpckolmaa", sum := "6b83b0320e39cd71a9c4e19af341f5c9bd99a8f807c885abee320fcc0349b68c", func := "cenotaph/cenotaphlaw45.TrieEmpty", spec := "trieEmpty", inPlace := ["slices.overlaps[rune]", "slices.overlaps[*cenotaph/trie.node]"], recurses := true, apart := false, narrowed := true }
def TrieEmptyUptoSaid : Prop := trieEmptyUptoRow.holds Try.pinned (OpenSpec.upto trieEmptySpec)

/-- 'cenotaphlaw45.TriePlays', WHERE WHAT IT READS IS OF BULK AT MOST 1048576: true; the input reads as it did. -/
def triePlaysUptoRow : OpenClaim := { program := "ytehcndjpckolmaa", sum := "6b83b0320e39cd71a9c4e19af341f5c9bd99a8f807c885abee320fcc0349b68c", func := "cenotaph/cenotaphlaw45.TriePlays", spec := "triePlays", inPlace := ["slices.overlaps[rune]", "slices.overlaps[*cenotaph/trie.node]"], unfollowed := true, recurses := true, apart := false, narrowed := true }
def TriePlaysUptoSaid : Prop := triePlaysUptoRow.holds Try.pinned (OpenSpec.upto triePlaysSpec)

/-- 'cenotaphlaw05.VectorKnows', WHERE WHAT IT READS IS OF BULK AT MOST 1048576: true; the input reads as it did. -/
def vectorKnowsUptoRow : OpenClaim := { program := "ytehcndjpckolmaa", sum := "6b83b0320e39cd71a9c4e19af341f5c9bd99a8f807c885abee320fcc0349b68c", func := "cenotaph/cenotaphlaw05.VectorKnows", spec := "vectorKnows", unfollowed := true, recurses := true, apart := false, narrowed := true }
def VectorKnowsUptoSaid : Prop := vectorKnowsUptoRow.holds Try.pinned (OpenSpec.upto vectorKnowsSpec)

/-- 'cenotaphlaw05.VectorNext', WHERE WHAT IT READS IS OF BULK AT MOST 1048576: true; the input reads as it did. -/
def vectorNextUptoRow : OpenClaim := { program := "ytehcndjpckolmaa", sum := "6b83b0320e39cd71a9c4e19af341f5c9bd99a8f807c885abee320fcc0349b68c", func := "cenotaph/cenotaphlaw05.VectorNext", spec := "vectorNext", unfollowed := true, recurses := true, apart := false, narrowed := true }
def VectorNextUptoSaid : Prop := vectorNextUptoRow.holds Try.pinned (OpenSpec.upto vectorNextSpec)

/-- 'cenotaphlaw05.VectorJoins', WHERE WHAT IT READS IS OF BULK AT MOST 1048576: true; the input reads as it did. -/
def vectorJoinsUptoRow : OpenClaim := { program := "ytehcndjpckolmaa", sum := "6b83b0320e39cd71a9c4e19af341f5c9bd99a8f807c885abee320fcc0349b68c", func := "cenotaph/cenotaphlaw05.VectorJoins", spec := "vectorJoins", unfollowed := true, recurses := true, apart := false, narrowed := true }
def VectorJoinsUptoSaid : Prop := vectorJoinsUptoRow.holds Try.pinned (OpenSpec.upto vectorJoinsSpec)

/-- 'cenotaphlaw05.VectorLaws', WHERE WHAT IT READS IS OF BULK AT MOST 1048576: true; the input reads as it did. -/
def vectorLawsUptoRow : OpenClaim := { program := "ytehcndjpckolmaa", sum := "6b83b0320e39cd71a9c4e19af341f5c9bd99a8f807c885abee320fcc0349b68c", func := "cenotaph/cenotaphlaw05.VectorLaws", spec := "vectorLaws", unfollowed := true, recurses := true, apart := false, narrowed := true }
def VectorLawsUptoSaid : Prop := vectorLawsUptoRow.holds Try.pinned (OpenSpec.upto vectorLawsSpec)

end Rows
end Go.Proofs.Ytehcndjpckolmaa
