/-
  DERIVED. GIVEN WITH THE SEED: THE CARDS: each row of YtgcfhlleaekgfaaDoorRows.lean that lists a variable, with what it lists TIED to the program's text (the seventh form; the later family's looks); each row that meets fmt, with fmt's text TOLD by the authors' own Lean function (tested against real Go, not proved from fmt's source: count such statements apart). THE CARD IS WHAT COUNTS. Prove the row's statement (the work); the ties are given (YtgcfhlleaekgfaaDoorTie.lean); close each card by the builder's one call (the guide's Derived/Test/ToyasCard.lean, 'card_holds'). Laid BY PROGRAM, IN A SANDBOX (cutbox-door.mjs). By AI agents, Wed Nov 11 2026. No macro, syntax, notation, axiom, sorry.
-/
import Derived.Test.YtgcfhlleaekgfaaDoorRows
import GoSem.ClaimSeven
namespace Go.Proofs.YtgcfhlleaekgfaaDoor
namespace Rows

/-- THE TIED CARD OF 'cenotaphlaw08.StateOrder'. -/
def stateOrderCard : Claim7 := { stood := { row := stateOrderRow, standIns := [], harness := (true, "a9a14a719b7088b1c4e55fdfc7f98bddf7be749101d26197fb55a867875280db"), looks := false }, kinds := [], alts := [], laidByText := true, laidKinds := [.data, .pinned], laidTests := true, laidLooks := .later }
def StateOrderCardSaid : Prop := Claim7.holds Tryd.pinned (.plain (OpenSpec.ofChange stateOrderSpec)) stateOrderCard

/-- THE SECOND FORM's CARD OF 'cenotaphlaw08.StateOrder'. -/
def stateOrderUptoCard : Claim7 := { stood := { row := stateOrderUptoRow, standIns := [], harness := (true, "a9a14a719b7088b1c4e55fdfc7f98bddf7be749101d26197fb55a867875280db"), looks := false }, kinds := [], alts := [], laidByText := true, laidKinds := [.data, .pinned], laidTests := true, laidLooks := .later }
def StateOrderUptoCardSaid : Prop := Claim7.holds Tryd.pinned (.plain (OpenSpec.upto stateOrderSpec)) stateOrderUptoCard
end Rows
end Go.Proofs.YtgcfhlleaekgfaaDoor
