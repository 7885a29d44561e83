/-
  DERIVED. GIVEN WITH THE SEED: THE CARDS: each row of YthdbilggnjjkhaaGreatDoorRows.lean that lists a variable, with what it lists TIED to the program's text (the seventh form; the later family's looks); each row that meets fmt, with fmt's text TOLD by the authors' own Lean function (tested against real Go, not proved from fmt's source: count such statements apart). THE CARD IS WHAT COUNTS. Prove the row's statement (the work); the ties are given (YthdbilggnjjkhaaGreatDoorTie.lean); close each card by the builder's one call (the guide's Derived/Test/ToyasCard.lean, 'card_holds'). Laid BY PROGRAM, IN A SANDBOX (cutbox-door.mjs). By AI agents, Wed Nov 11 2026. No macro, syntax, notation, axiom, sorry.
-/
import Derived.Test.YthdbilggnjjkhaaGreatDoorRows
import GoSem.ClaimSeven
namespace Go.Proofs.YthdbilggnjjkhaaGreatDoor
namespace Rows

/-- THE TIED CARD OF 'cenotaphlaw26.RepairAll'. -/
def repairAllCard : Claim7 := { stood := { row := repairAllRow, standIns := [], harness := (true, "16d3feb43a1d1f90c24cea5200e190b197612a186c20226439e5ec3e11e05360"), looks := false }, kinds := [], alts := [], laidByText := true, laidKinds := [.data, .pinned], laidTests := true, laidLooks := .later }
def RepairAllCardSaid : Prop := Claim7.holds Tryz.pinned (.plain (OpenSpec.ofChange repairAllSpec)) repairAllCard

/-- THE SECOND FORM's CARD OF 'cenotaphlaw26.RepairAll'. -/
def repairAllUptoCard : Claim7 := { stood := { row := repairAllUptoRow, standIns := [], harness := (true, "16d3feb43a1d1f90c24cea5200e190b197612a186c20226439e5ec3e11e05360"), looks := false }, kinds := [], alts := [], laidByText := true, laidKinds := [.data, .pinned], laidTests := true, laidLooks := .later }
def RepairAllUptoCardSaid : Prop := Claim7.holds Tryz.pinned (.plain (OpenSpec.upto repairAllSpec)) repairAllUptoCard
end Rows
end Go.Proofs.YthdbilggnjjkhaaGreatDoor
