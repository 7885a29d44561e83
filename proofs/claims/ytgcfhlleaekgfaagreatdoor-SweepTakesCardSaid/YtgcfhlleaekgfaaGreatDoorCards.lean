/-
  DERIVED. GIVEN WITH THE SEED: THE CARDS: each row of YtgcfhlleaekgfaaGreatDoorRows.lean that lists a variable, with what it lists TIED to the program's text (the seventh form; the later family's looks); each row that meets fmt, with fmt's text TOLD by the authors' own Lean function (tested against real Go, not proved from fmt's source: count such statements apart). THE CARD IS WHAT COUNTS. Prove the row's statement (the work); the ties are given (YtgcfhlleaekgfaaGreatDoorTie.lean); close each card by the builder's one call (the guide's Derived/Test/ToyasCard.lean, 'card_holds'). Laid BY PROGRAM, IN A SANDBOX (cutbox-door.mjs). By AI agents, Wed Nov 11 2026. No macro, syntax, notation, axiom, sorry.
-/
import Derived.Test.YtgcfhlleaekgfaaGreatDoorRows
import GoSem.ClaimSeven
namespace Go.Proofs.YtgcfhlleaekgfaaGreatDoor
namespace Rows

/-- THE TIED CARD OF 'cenotaphlaw08.StateLeft'. -/
def stateLeftCard : Claim7 := { stood := { row := stateLeftRow, standIns := [], harness := (true, "e5e171bb29d509850925942cf1a8f00175e0b3492652a3647170e25a0ea60aac"), looks := false }, kinds := [], alts := [], laidByText := true, laidKinds := [.data, .pinned], laidTests := true, laidLooks := .later }
def StateLeftCardSaid : Prop := Claim7.holds Tryz.pinned (.plain (OpenSpec.ofChange stateLeftSpec)) stateLeftCard

/-- THE TIED CARD OF 'cenotaphlaw08.StateSame'. -/
def stateSameCard : Claim7 := { stood := { row := stateSameRow, standIns := [], harness := (true, "e5e171bb29d509850925942cf1a8f00175e0b3492652a3647170e25a0ea60aac"), looks := false }, kinds := [], alts := [], laidByText := true, laidKinds := [.data, .pinned], laidTests := true, laidLooks := .later }
def StateSameCardSaid : Prop := Claim7.holds Tryz.pinned (.plain (OpenSpec.ofChange stateSameSpec)) stateSameCard

/-- THE TIED CARD OF 'cenotaphlaw08.StateParts'. -/
def statePartsCard : Claim7 := { stood := { row := statePartsRow, standIns := [], harness := (true, "e5e171bb29d509850925942cf1a8f00175e0b3492652a3647170e25a0ea60aac"), looks := false }, kinds := [], alts := [], laidByText := true, laidKinds := [.data, .pinned], laidTests := true, laidLooks := .later }
def StatePartsCardSaid : Prop := Claim7.holds Tryz.pinned (.plain (OpenSpec.ofChange statePartsSpec)) statePartsCard

/-- THE TIED CARD OF 'cenotaphlaw10.SweepExpired'. -/
def sweepExpiredCard : Claim7 := { stood := { row := sweepExpiredRow, standIns := [], harness := (true, "e5e171bb29d509850925942cf1a8f00175e0b3492652a3647170e25a0ea60aac"), looks := false }, kinds := [], alts := [], laidByText := true, laidKinds := [.data, .pinned], laidTests := true, laidLooks := .later }
def SweepExpiredCardSaid : Prop := Claim7.holds Tryz.pinned (.plain (OpenSpec.ofChange sweepExpiredSpec)) sweepExpiredCard

/-- THE TIED CARD OF 'cenotaphlaw10.SweepTakes'. -/
def sweepTakesCard : Claim7 := { stood := { row := sweepTakesRow, standIns := [], harness := (true, "e5e171bb29d509850925942cf1a8f00175e0b3492652a3647170e25a0ea60aac"), looks := false }, kinds := [], alts := [], laidByText := true, laidKinds := [.data, .pinned], laidTests := true, laidLooks := .later }
def SweepTakesCardSaid : Prop := Claim7.holds Tryz.pinned (.plain (OpenSpec.ofChange sweepTakesSpec)) sweepTakesCard

/-- THE SECOND FORM's CARD OF 'cenotaphlaw08.StateLeft'. -/
def stateLeftUptoCard : Claim7 := { stood := { row := stateLeftUptoRow, standIns := [], harness := (true, "e5e171bb29d509850925942cf1a8f00175e0b3492652a3647170e25a0ea60aac"), looks := false }, kinds := [], alts := [], laidByText := true, laidKinds := [.data, .pinned], laidTests := true, laidLooks := .later }
def StateLeftUptoCardSaid : Prop := Claim7.holds Tryz.pinned (.plain (OpenSpec.upto stateLeftSpec)) stateLeftUptoCard

/-- THE SECOND FORM's CARD OF 'cenotaphlaw08.StateSame'. -/
def stateSameUptoCard : Claim7 := { stood := { row := stateSameUptoRow, standIns := [], harness := (true, "e5e171bb29d509850925942cf1a8f00175e0b3492652a3647170e25a0ea60aac"), looks := false }, kinds := [], alts := [], laidByText := true, laidKinds := [.data, .pinned], laidTests := true, laidLooks := .later }
def StateSameUptoCardSaid : Prop := Claim7.holds Tryz.pinned (.plain (OpenSpec.upto stateSameSpec)) stateSameUptoCard

/-- THE SECOND FORM's CARD OF 'cenotaphlaw08.StateParts'. -/
def statePartsUptoCard : Claim7 := { stood := { row := statePartsUptoRow, standIns := [], harness := (true, "e5e171bb29d509850925942cf1a8f00175e0b3492652a3647170e25a0ea60aac"), looks := false }, kinds := [], alts := [], laidByText := true, laidKinds := [.data, .pinned], laidTests := true, laidLooks := .later }
def StatePartsUptoCardSaid : Prop := Claim7.holds Tryz.pinned (.plain (OpenSpec.upto statePartsSpec)) statePartsUptoCard

/-- THE SECOND FORM's CARD OF 'cenotaphlaw10.SweepExpired'. -/
def sweepExpiredUptoCard : Claim7 := { stood := { row := sweepExpiredUptoRow, standIns := [], harness := (true, "e5e171bb29d509850925942cf1a8f00175e0b3492652a3647170e25a0ea60aac"), looks := false }, kinds := [], alts := [], laidByText := true, laidKinds := [.data, .pinned], laidTests := true, laidLooks := .later }
def SweepExpiredUptoCardSaid : Prop := Claim7.holds Tryz.pinned (.plain (OpenSpec.upto sweepExpiredSpec)) sweepExpiredUptoCard

/-- THE SECOND FORM's CARD OF 'cenotaphlaw10.SweepTakes'. -/
def sweepTakesUptoCard : Claim7 := { stood := { row := sweepTakesUptoRow, standIns := [], harness := (true, "e5e171bb29d509850925942cf1a8f00175e0b3492652a3647170e25a0ea60aac"), looks := false }, kinds := [], alts := [], laidByText := true, laidKinds := [.data, .pinned], laidTests := true, laidLooks := .later }
def SweepTakesUptoCardSaid : Prop := Claim7.holds Tryz.pinned (.plain (OpenSpec.upto sweepTakesSpec)) sweepTakesUptoCard
end Rows
end Go.Proofs.YtgcfhlleaekgfaaGreatDoor
