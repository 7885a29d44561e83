/-
  DERIVED. GIVEN WITH THE SEED: THE CARDS: each row of YtkdgbkhnnehedaaDoorRows.lean that lists a variable, with what it lists TIED to the program's text (the seventh form; the later family's looks); each row that meets fmt, with fmt's text TOLD by the authors' own Lean function (tested against real Go, not proved from fmt's source: count such statements apart). THE CARD IS WHAT COUNTS. Prove the row's statement (the work); the ties are given (YtkdgbkhnnehedaaDoorTie.lean); close each card by the builder's one call (the guide's Derived/Test/ToyasCard.lean, 'card_holds'). Laid BY PROGRAM, IN A SANDBOX (cutbox-door.mjs). By AI agents, Wed Nov 11 2026. No macro, syntax, notation, axiom, sorry.
-/
import Derived.Test.YtkdgbkhnnehedaaDoorRows
import GoSem.ClaimSeven
namespace Go.Proofs.YtkdgbkhnnehedaaDoor
namespace Rows

/-- THE TIED CARD OF 'cenotaphlaw11.DiskKeeps'. -/
def diskKeepsCard : Claim7 := { stood := { row := diskKeepsRow, standIns := [], harness := (true, "c746a732f8eac3f1f21ce139c254f56c52ba157125933f98c11249a3e745ac42"), looks := true }, kinds := [], alts := [], laidByText := true, laidKinds := [.data, .pinned], laidTests := true, laidLooks := .later }
def DiskKeepsCardSaid : Prop := Claim7.holds Tryd.pinned (.plain (OpenSpec.ofChange diskKeepsSpec)) diskKeepsCard

/-- THE TIED CARD OF 'cenotaphlaw22.NetSays'. -/
def netSaysCard : Claim7 := { stood := { row := netSaysRow, standIns := [], harness := (true, "c746a732f8eac3f1f21ce139c254f56c52ba157125933f98c11249a3e745ac42"), looks := true }, kinds := [], alts := [], laidByText := true, laidKinds := [.data, .pinned], laidTests := true, laidLooks := .later }
def NetSaysCardSaid : Prop := Claim7.holds Tryd.pinned (.plain (OpenSpec.ofChange netSaysSpec)) netSaysCard

/-- THE TIED CARD OF 'cenotaphlaw24.MerkleTells'. -/
def merkleTellsCard : Claim7 := { stood := { row := merkleTellsRow, standIns := [], harness := (true, "c746a732f8eac3f1f21ce139c254f56c52ba157125933f98c11249a3e745ac42"), looks := true }, kinds := [], alts := [], laidByText := true, laidKinds := [.data, .pinned], laidTests := true, laidLooks := .later }
def MerkleTellsCardSaid : Prop := Claim7.holds Tryd.pinned (.plain (OpenSpec.ofChange merkleTellsSpec)) merkleTellsCard

/-- THE SECOND FORM's CARD OF 'cenotaphlaw11.DiskKeeps'. -/
def diskKeepsUptoCard : Claim7 := { stood := { row := diskKeepsUptoRow, standIns := [], harness := (true, "c746a732f8eac3f1f21ce139c254f56c52ba157125933f98c11249a3e745ac42"), looks := true }, kinds := [], alts := [], laidByText := true, laidKinds := [.data, .pinned], laidTests := true, laidLooks := .later }
def DiskKeepsUptoCardSaid : Prop := Claim7.holds Tryd.pinned (.plain (OpenSpec.upto diskKeepsSpec)) diskKeepsUptoCard

/-- THE SECOND FORM's CARD OF 'cenotaphlaw22.NetSays'. -/
def netSaysUptoCard : Claim7 := { stood := { row := netSaysUptoRow, standIns := [], harness := (true, "c746a732f8eac3f1f21ce139c254f56c52ba157125933f98c11249a3e745ac42"), looks := true }, kinds := [], alts := [], laidByText := true, laidKinds := [.data, .pinned], laidTests := true, laidLooks := .later }
def NetSaysUptoCardSaid : Prop := Claim7.holds Tryd.pinned (.plain (OpenSpec.upto netSaysSpec)) netSaysUptoCard

/-- THE SECOND FORM's CARD OF 'cenotaphlaw24.MerkleTells'. -/
def merkleTellsUptoCard : Claim7 := { stood := { row := merkleTellsUptoRow, standIns := [], harness := (true, "c746a732f8eac3f1f21ce139c254f56c52ba157125933f98c11249a3e745ac42"), looks := true }, kinds := [], alts := [], laidByText := true, laidKinds := [.data, .pinned], laidTests := true, laidLooks := .later }
def MerkleTellsUptoCardSaid : Prop := Claim7.holds Tryd.pinned (.plain (OpenSpec.upto merkleTellsSpec)) merkleTellsUptoCard
end Rows
end Go.Proofs.YtkdgbkhnnehedaaDoor
