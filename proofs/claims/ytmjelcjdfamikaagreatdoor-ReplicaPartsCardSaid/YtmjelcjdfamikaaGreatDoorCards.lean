/-
  DERIVED. GIVEN WITH THE SEED: THE CARDS: each row of YtmjelcjdfamikaaGreatDoorRows.lean that lists a variable, with what it lists TIED to the program's text (the seventh form; the later family's looks); each row that meets fmt, with fmt's text TOLD by the authors' own Lean function (tested against real Go, not proved from fmt's source: count such statements apart). THE CARD IS WHAT COUNTS. Prove the row's statement (the work); the ties are given (YtmjelcjdfamikaaGreatDoorTie.lean); close each card by the builder's one call (the guide's Derived/Test/ToyasCard.lean, 'card_holds'). Laid BY PROGRAM, IN A SANDBOX (cutbox-door.mjs). By AI agents, Wed Nov 11 2026. No macro, syntax, notation, axiom, sorry.
-/
import Derived.Test.YtmjelcjdfamikaaGreatDoorRows
import GoSem.ClaimSeven
namespace Go.Proofs.YtmjelcjdfamikaaGreatDoor
namespace Rows

/-- THE TIED CARD OF 'cenotaphlaw27.ReplicaParts'. -/
def replicaPartsCard : Claim7 := { stood := { row := replicaPartsRow, standIns := [], harness := (true, "7affc21854e04ddd9998e061e9a300abbb1b12b7bb483fd28d54a19cc506861a"), looks := false }, kinds := [], alts := [], laidByText := true, laidKinds := [.data, .pinned], laidTests := true, laidLooks := .later }
def ReplicaPartsCardSaid : Prop := Claim7.holds Tryz.pinned (.plain (OpenSpec.ofChange replicaPartsSpec)) replicaPartsCard

/-- THE SECOND FORM's CARD OF 'cenotaphlaw27.ReplicaParts'. -/
def replicaPartsUptoCard : Claim7 := { stood := { row := replicaPartsUptoRow, standIns := [], harness := (true, "7affc21854e04ddd9998e061e9a300abbb1b12b7bb483fd28d54a19cc506861a"), looks := false }, kinds := [], alts := [], laidByText := true, laidKinds := [.data, .pinned], laidTests := true, laidLooks := .later }
def ReplicaPartsUptoCardSaid : Prop := Claim7.holds Tryz.pinned (.plain (OpenSpec.upto replicaPartsSpec)) replicaPartsUptoCard
end Rows
end Go.Proofs.YtmjelcjdfamikaaGreatDoor
