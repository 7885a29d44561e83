/-
  DERIVED. GIVEN WITH THE SEED: THE CARDS: each row of YtemckpmedjennaaGreatDoorRows.lean that lists a variable, with what it lists TIED to the program's text (the seventh form; the later family's looks); each row that meets fmt, with fmt's text TOLD by the authors' own Lean function (tested against real Go, not proved from fmt's source: count such statements apart). THE CARD IS WHAT COUNTS. Prove the row's statement (the work); the ties are given (YtemckpmedjennaaGreatDoorTie.lean); close each card by the builder's one call (the guide's Derived/Test/ToyasCard.lean, 'card_holds'). Laid BY PROGRAM, IN A SANDBOX (cutbox-door.mjs). By AI agents, Wed Nov 11 2026. No macro, syntax, notation, axiom, sorry.
-/
import Derived.Test.YtemckpmedjennaaGreatDoorRows
import GoSem.ClaimSeven
namespace Go.Proofs.YtemckpmedjennaaGreatDoor
namespace Rows

/-- THE TIED CARD OF 'cenotaphlaw22.NetKeeps'. -/
def netKeepsCard : Claim7 := { stood := { row := netKeepsRow, standIns := [], harness := (true, "04e70c6421ceee1e1a0a061381391f6446cc2f6eedd8de16e416af94db1cd33a"), looks := true }, kinds := [], alts := [], laidByText := true, laidKinds := [.data, .pinned], laidTests := true, laidLooks := .later }
def NetKeepsCardSaid : Prop := Claim7.holds Tryz.pinned (.plain (OpenSpec.ofChange netKeepsSpec)) netKeepsCard

/-- THE TIED CARD OF 'cenotaphlaw30.TraceLists'. -/
def traceListsCard : Claim7 := { stood := { row := traceListsRow, standIns := [], harness := (true, "04e70c6421ceee1e1a0a061381391f6446cc2f6eedd8de16e416af94db1cd33a"), looks := true }, kinds := [], alts := [], laidByText := true, laidKinds := [.data, .pinned], laidTests := true, laidLooks := .later }
def TraceListsCardSaid : Prop := Claim7.holds Tryz.pinned (.plain (OpenSpec.ofChange traceListsSpec)) traceListsCard

/-- THE TIED CARD OF 'cenotaphlaw08.StateBytes'. -/
def stateBytesCard : Claim7 := { stood := { row := stateBytesRow, standIns := [], harness := (true, "04e70c6421ceee1e1a0a061381391f6446cc2f6eedd8de16e416af94db1cd33a"), looks := true }, kinds := [], alts := [], laidByText := true, laidKinds := [.data, .pinned], laidTests := true, laidLooks := .later }
def StateBytesCardSaid : Prop := Claim7.holds Tryz.pinned (.plain (OpenSpec.ofChange stateBytesSpec)) stateBytesCard

/-- THE SECOND FORM's CARD OF 'cenotaphlaw22.NetKeeps'. -/
def netKeepsUptoCard : Claim7 := { stood := { row := netKeepsUptoRow, standIns := [], harness := (true, "04e70c6421ceee1e1a0a061381391f6446cc2f6eedd8de16e416af94db1cd33a"), looks := true }, kinds := [], alts := [], laidByText := true, laidKinds := [.data, .pinned], laidTests := true, laidLooks := .later }
def NetKeepsUptoCardSaid : Prop := Claim7.holds Tryz.pinned (.plain (OpenSpec.upto netKeepsSpec)) netKeepsUptoCard

/-- THE SECOND FORM's CARD OF 'cenotaphlaw30.TraceLists'. -/
def traceListsUptoCard : Claim7 := { stood := { row := traceListsUptoRow, standIns := [], harness := (true, "04e70c6421ceee1e1a0a061381391f6446cc2f6eedd8de16e416af94db1cd33a"), looks := true }, kinds := [], alts := [], laidByText := true, laidKinds := [.data, .pinned], laidTests := true, laidLooks := .later }
def TraceListsUptoCardSaid : Prop := Claim7.holds Tryz.pinned (.plain (OpenSpec.upto traceListsSpec)) traceListsUptoCard

/-- THE SECOND FORM's CARD OF 'cenotaphlaw08.StateBytes'. -/
def stateBytesUptoCard : Claim7 := { stood := { row := stateBytesUptoRow, standIns := [], harness := (true, "04e70c6421ceee1e1a0a061381391f6446cc2f6eedd8de16e416af94db1cd33a"), looks := true }, kinds := [], alts := [], laidByText := true, laidKinds := [.data, .pinned], laidTests := true, laidLooks := .later }
def StateBytesUptoCardSaid : Prop := Claim7.holds Tryz.pinned (.plain (OpenSpec.upto stateBytesSpec)) stateBytesUptoCard
end Rows
end Go.Proofs.YtemckpmedjennaaGreatDoor
