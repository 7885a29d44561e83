/-
  DERIVED. GIVEN WITH THE SEED: THE CARDS: each row of YtpeoonnglnchnaaGreatDoorRows.lean that lists a variable, with what it lists TIED to the program's text (the seventh form; the later family's looks); each row that meets fmt, with fmt's text TOLD by the authors' own Lean function (tested against real Go, not proved from fmt's source: count such statements apart). THE CARD IS WHAT COUNTS. Prove the row's statement (the work); the ties are given (YtpeoonnglnchnaaGreatDoorTie.lean); close each card by the builder's one call (the guide's Derived/Test/ToyasCard.lean, 'card_holds'). Laid BY PROGRAM, IN A SANDBOX (cutbox-door.mjs). By AI agents, Wed Nov 11 2026. No macro, syntax, notation, axiom, sorry.
-/
import Derived.Test.YtpeoonnglnchnaaGreatDoorRows
import GoSem.ClaimSeven
namespace Go.Proofs.YtpeoonnglnchnaaGreatDoor
namespace Rows

/-- THE TIED CARD OF 'cenotaphlaw16.TableGets'. -/
def tableGetsCard : Claim7 := { stood := { row := tableGetsRow, standIns := [], harness := (true, "ab3d78b0a45edfed2b4c03df19fdf8819acdfa6c09c48c2c87c5937effe96d40"), looks := false }, kinds := [], alts := [], laidByText := true, laidKinds := [.data, .pinned], laidTests := true, laidLooks := .later }
def TableGetsCardSaid : Prop := Claim7.holds Tryz.pinned (.plain (OpenSpec.ofChange tableGetsSpec)) tableGetsCard

/-- THE TIED CARD OF 'cenotaphlaw16.TableReads'. -/
def tableReadsCard : Claim7 := { stood := { row := tableReadsRow, standIns := [], harness := (true, "ab3d78b0a45edfed2b4c03df19fdf8819acdfa6c09c48c2c87c5937effe96d40"), looks := false }, kinds := [], alts := [], laidByText := true, laidKinds := [.data, .pinned], laidTests := true, laidLooks := .later }
def TableReadsCardSaid : Prop := Claim7.holds Tryz.pinned (.plain (OpenSpec.ofChange tableReadsSpec)) tableReadsCard

/-- THE TIED CARD OF 'cenotaphlaw16.TableBack'. -/
def tableBackCard : Claim7 := { stood := { row := tableBackRow, standIns := [], harness := (true, "ab3d78b0a45edfed2b4c03df19fdf8819acdfa6c09c48c2c87c5937effe96d40"), looks := false }, kinds := [], alts := [], laidByText := true, laidKinds := [.data, .pinned], laidTests := true, laidLooks := .later }
def TableBackCardSaid : Prop := Claim7.holds Tryz.pinned (.plain (OpenSpec.ofChange tableBackSpec)) tableBackCard

/-- THE SECOND FORM's CARD OF 'cenotaphlaw16.TableGets'. -/
def tableGetsUptoCard : Claim7 := { stood := { row := tableGetsUptoRow, standIns := [], harness := (true, "ab3d78b0a45edfed2b4c03df19fdf8819acdfa6c09c48c2c87c5937effe96d40"), looks := false }, kinds := [], alts := [], laidByText := true, laidKinds := [.data, .pinned], laidTests := true, laidLooks := .later }
def TableGetsUptoCardSaid : Prop := Claim7.holds Tryz.pinned (.plain (OpenSpec.upto tableGetsSpec)) tableGetsUptoCard

/-- THE SECOND FORM's CARD OF 'cenotaphlaw16.TableReads'. -/
def tableReadsUptoCard : Claim7 := { stood := { row := tableReadsUptoRow, standIns := [], harness := (true, "ab3d78b0a45edfed2b4c03df19fdf8819acdfa6c09c48c2c87c5937effe96d40"), looks := false }, kinds := [], alts := [], laidByText := true, laidKinds := [.data, .pinned], laidTests := true, laidLooks := .later }
def TableReadsUptoCardSaid : Prop := Claim7.holds Tryz.pinned (.plain (OpenSpec.upto tableReadsSpec)) tableReadsUptoCard

/-- THE SECOND FORM's CARD OF 'cenotaphlaw16.TableBack'. -/
def tableBackUptoCard : Claim7 := { stood := { row := tableBackUptoRow, standIns := [], harness := (true, "ab3d78b0a45edfed2b4c03df19fdf8819acdfa6c09c48c2c87c5937effe96d40"), looks := false }, kinds := [], alts := [], laidByText := true, laidKinds := [.data, .pinned], laidTests := true, laidLooks := .later }
def TableBackUptoCardSaid : Prop := Claim7.holds Tryz.pinned (.plain (OpenSpec.upto tableBackSpec)) tableBackUptoCard
end Rows
end Go.Proofs.YtpeoonnglnchnaaGreatDoor
