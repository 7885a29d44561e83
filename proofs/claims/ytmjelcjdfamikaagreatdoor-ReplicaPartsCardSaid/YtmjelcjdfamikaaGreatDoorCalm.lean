/-
  A region that draws its order, whose operations only read and whose callees only read or MAKE memory: one walk, in the order of the text, serves every order. (Derived.Deep.Quiet's theorem, at the class 'below the heap's size as it was'.)
  Use: 'refine wp_region_calm (by kernel_rfl) (by kernel_rfl) ?_; repeat (BigFrame.go_big_quiet_step (tac)); refine wpQuiet_nil ?_; rintro _ ⟨y, rfl⟩'. At a call tac is 'exact calm (contract ..)'.
-/
import Derived.Test.YtmjelcjdfamikaaGreatDoorBase
set_option linter.unusedSimpArgs false
set_option linter.unusedVariables false
namespace Go.Proofs.YtmjelcjdfamikaaGreatDoor
open Go.RowKit

/-- The worlds that are, below the heap's size as it was in w, as w was. -/
def BW (w : World) : Type := { w' : World // Below w.heap.size w w' }
instance (w : World) : Nonempty (BW w) := ⟨⟨w, Below.refl _ _⟩⟩
def BW.at {w : World} (x : BW w) : World := x.1
theorem BW.below {w : World} (x : BW w) : Below w.heap.size w x.at := x.2
theorem BW.cell {w : World} (x : BW w) {b : Nat} (h : b < w.heap.size) (o : Nat) : x.at.cell? ⟨b, o, none⟩ = w.cell? ⟨b, o, none⟩ := x.below.cell (p := ⟨b, o, none⟩) h

@[go_sem] theorem BW.cell_sem {w : World} (x : BW w) (b o : Nat) (h : b < w.heap.size) : x.at.cell? ⟨b, o, none⟩ = w.cell? ⟨b, o, none⟩ := x.cell h o

theorem wp_region_calm {P : Program} {id : Nat} {Q : Exit → Act → World → Prop} {a : Act} {w : World} {l : List Oper} (hm : P.follows .mixedOrders = true) (hB : Region.lexB .any l.toArray = true)
    (h : wpQuiet P l.toArray (fun w' => ∃ x : BW w, w' = x.at) (fun a' => ∀ w', (∃ x : BW w, w' = x.at) → Q .normal a' w') l a) : (Code.region id l.toArray true).wp P Q a w :=
  wp_region_quiet (C := fun w' => ∃ x : BW w, w' = x.at) hm hB ⟨⟨w.drew, (Below.refl _ _).drew⟩, rfl⟩ (by simpa using h)

theorem calm {P : Program} {f : FuncId} {args : Array Value} {w : World} {x : BW w} {v : Value}
    (h : Calls P f args x.at fun e w' => e = .returned v ∧ Below x.at.heap.size x.at w') : Calls P f args x.at fun e w'' => e = .returned v ∧ ∃ y : BW w, w'' = y.at :=
  h.mono fun _ w' ⟨he, hb⟩ => ⟨he, ⟨w', below_then x.below (Nat.le_refl _) hb⟩, rfl⟩
theorem calm_same {P : Program} {f : FuncId} {args : Array Value} {w : World} {x : BW w} {v : Value}
    (h : Calls P f args x.at fun e w' => e = .returned v ∧ x.at = w') : Calls P f args x.at fun e w'' => e = .returned v ∧ ∃ y : BW w, w'' = y.at :=
  h.mono fun _ _ ⟨he, hb⟩ => ⟨he, x, hb.symm⟩
end Go.Proofs.YtmjelcjdfamikaaGreatDoor
