/-
  DERIVED. GIVEN WITH THE SEED: THE CARDS: each row of YtmfhmcegmeinnaaGreatDoorRows.lean that lists a variable, with what it lists TIED to the program's text (the seventh form; the later family's looks); each row that meets fmt, with fmt's text TOLD by the authors' own Lean function (tested against real Go, not proved from fmt's source: count such statements apart). THE CARD IS WHAT COUNTS. Prove the row's statement (the work); the ties are given (YtmfhmcegmeinnaaGreatDoorTie.lean); close each card by the builder's one call (the guide's Derived/Test/ToyasCard.lean, 'card_holds'). Laid BY PROGRAM, IN A SANDBOX (cutbox-door.mjs). By AI agents, Wed Nov 11 2026. No macro, syntax, notation, axiom, sorry.
-/
import Derived.Test.YtmfhmcegmeinnaaGreatDoorRows
import GoSem.ClaimSeven
namespace Go.Proofs.YtmfhmcegmeinnaaGreatDoor
namespace Rows

/-- THE TIED CARD OF 'cenotaphlaw09.ViewSees'. -/
def viewSeesCard : Claim7 := { stood := { row := viewSeesRow, standIns := [], harness := (true, "1507acb724b02d259483e75673d16b7f51a4a64aaf9141b55023d595dddfa204"), looks := false }, kinds := [], alts := [], laidByText := true, laidKinds := [.data, .pinned], laidTests := true, laidLooks := .later }
def ViewSeesCardSaid : Prop := Claim7.holds Tryz.pinned (.plain (OpenSpec.ofChange viewSeesSpec)) viewSeesCard

/-- THE TIED CARD OF 'cenotaphlaw10.SweepKeeps'. -/
def sweepKeepsCard : Claim7 := { stood := { row := sweepKeepsRow, standIns := [], harness := (true, "1507acb724b02d259483e75673d16b7f51a4a64aaf9141b55023d595dddfa204"), looks := false }, kinds := [], alts := [], laidByText := true, laidKinds := [.data, .pinned], laidTests := true, laidLooks := .later }
def SweepKeepsCardSaid : Prop := Claim7.holds Tryz.pinned (.plain (OpenSpec.ofChange sweepKeepsSpec)) sweepKeepsCard

/-- THE TIED CARD OF 'cenotaphlaw29.OrderSees'. -/
def orderSeesCard : Claim7 := { stood := { row := orderSeesRow, standIns := [], harness := (true, "1507acb724b02d259483e75673d16b7f51a4a64aaf9141b55023d595dddfa204"), looks := false }, kinds := [], alts := [], laidByText := true, laidKinds := [.data, .pinned], laidTests := true, laidLooks := .later }
def OrderSeesCardSaid : Prop := Claim7.holds Tryz.pinned (.plain (OpenSpec.ofChange orderSeesSpec)) orderSeesCard

/-- THE TIED CARD OF 'cenotaphlaw36.DiffsPicks'. -/
def diffsPicksCard : Claim7 := { stood := { row := diffsPicksRow, standIns := [], harness := (true, "1507acb724b02d259483e75673d16b7f51a4a64aaf9141b55023d595dddfa204"), looks := false }, kinds := [], alts := [], laidByText := true, laidKinds := [.data, .pinned], laidTests := true, laidLooks := .later }
def DiffsPicksCardSaid : Prop := Claim7.holds Tryz.pinned (.plain (OpenSpec.ofChange diffsPicksSpec)) diffsPicksCard

/-- THE TIED CARD OF 'cenotaphlaw36.DiffsSync'. -/
def diffsSyncCard : Claim7 := { stood := { row := diffsSyncRow, standIns := [], harness := (true, "1507acb724b02d259483e75673d16b7f51a4a64aaf9141b55023d595dddfa204"), looks := false }, kinds := [], alts := [], laidByText := true, laidKinds := [.data, .pinned], laidTests := true, laidLooks := .later }
def DiffsSyncCardSaid : Prop := Claim7.holds Tryz.pinned (.plain (OpenSpec.ofChange diffsSyncSpec)) diffsSyncCard

/-- THE TIED CARD OF 'cenotaphlaw24.MerkleTrees'. -/
def merkleTreesCard : Claim7 := { stood := { row := merkleTreesRow, standIns := [], harness := (true, "1507acb724b02d259483e75673d16b7f51a4a64aaf9141b55023d595dddfa204"), looks := false }, kinds := [], alts := [], laidByText := true, laidKinds := [.data, .pinned], laidTests := true, laidLooks := .later }
def MerkleTreesCardSaid : Prop := Claim7.holds Tryz.pinned (.plain (OpenSpec.ofChange merkleTreesSpec)) merkleTreesCard

/-- THE SECOND FORM's CARD OF 'cenotaphlaw09.ViewSees'. -/
def viewSeesUptoCard : Claim7 := { stood := { row := viewSeesUptoRow, standIns := [], harness := (true, "1507acb724b02d259483e75673d16b7f51a4a64aaf9141b55023d595dddfa204"), looks := false }, kinds := [], alts := [], laidByText := true, laidKinds := [.data, .pinned], laidTests := true, laidLooks := .later }
def ViewSeesUptoCardSaid : Prop := Claim7.holds Tryz.pinned (.plain (OpenSpec.upto viewSeesSpec)) viewSeesUptoCard

/-- THE SECOND FORM's CARD OF 'cenotaphlaw10.SweepKeeps'. -/
def sweepKeepsUptoCard : Claim7 := { stood := { row := sweepKeepsUptoRow, standIns := [], harness := (true, "1507acb724b02d259483e75673d16b7f51a4a64aaf9141b55023d595dddfa204"), looks := false }, kinds := [], alts := [], laidByText := true, laidKinds := [.data, .pinned], laidTests := true, laidLooks := .later }
def SweepKeepsUptoCardSaid : Prop := Claim7.holds Tryz.pinned (.plain (OpenSpec.upto sweepKeepsSpec)) sweepKeepsUptoCard

/-- THE SECOND FORM's CARD OF 'cenotaphlaw29.OrderSees'. -/
def orderSeesUptoCard : Claim7 := { stood := { row := orderSeesUptoRow, standIns := [], harness := (true, "1507acb724b02d259483e75673d16b7f51a4a64aaf9141b55023d595dddfa204"), looks := false }, kinds := [], alts := [], laidByText := true, laidKinds := [.data, .pinned], laidTests := true, laidLooks := .later }
def OrderSeesUptoCardSaid : Prop := Claim7.holds Tryz.pinned (.plain (OpenSpec.upto orderSeesSpec)) orderSeesUptoCard

/-- THE SECOND FORM's CARD OF 'cenotaphlaw36.DiffsPicks'. -/
def diffsPicksUptoCard : Claim7 := { stood := { row := diffsPicksUptoRow, standIns := [], harness := (true, "1507acb724b02d259483e75673d16b7f51a4a64aaf9141b55023d595dddfa204"), looks := false }, kinds := [], alts := [], laidByText := true, laidKinds := [.data, .pinned], laidTests := true, laidLooks := .later }
def DiffsPicksUptoCardSaid : Prop := Claim7.holds Tryz.pinned (.plain (OpenSpec.upto diffsPicksSpec)) diffsPicksUptoCard

/-- THE SECOND FORM's CARD OF 'cenotaphlaw36.DiffsSync'. -/
def diffsSyncUptoCard : Claim7 := { stood := { row := diffsSyncUptoRow, standIns := [], harness := (true, "1507acb724b02d259483e75673d16b7f51a4a64aaf9141b55023d595dddfa204"), looks := false }, kinds := [], alts := [], laidByText := true, laidKinds := [.data, .pinned], laidTests := true, laidLooks := .later }
def DiffsSyncUptoCardSaid : Prop := Claim7.holds Tryz.pinned (.plain (OpenSpec.upto diffsSyncSpec)) diffsSyncUptoCard

/-- THE SECOND FORM's CARD OF 'cenotaphlaw24.MerkleTrees'. -/
def merkleTreesUptoCard : Claim7 := { stood := { row := merkleTreesUptoRow, standIns := [], harness := (true, "1507acb724b02d259483e75673d16b7f51a4a64aaf9141b55023d595dddfa204"), looks := false }, kinds := [], alts := [], laidByText := true, laidKinds := [.data, .pinned], laidTests := true, laidLooks := .later }
def MerkleTreesUptoCardSaid : Prop := Claim7.holds Tryz.pinned (.plain (OpenSpec.upto merkleTreesSpec)) merkleTreesUptoCard
end Rows
end Go.Proofs.YtmfhmcegmeinnaaGreatDoor
