/- wire.Put and wire.Text behind the bytes of a row of the call's own (layer 3). PRINTED by wip/genonto.py. -/
import Derived.Test.YtihfcohebgemdaaDoorMrkNode
import Derived.Test.YtihfcohebgemdaaDoorAppendLoc
import Derived.Maps.Range
set_option linter.unusedSimpArgs false
set_option linter.unusedVariables false
namespace Go.Proofs.YtihfcohebgemdaaDoor.Mrk
open Go.RowKit Go.Proofs.YtihfcohebgemdaaDoor.Spare

/-- These bytes, in a row of the call's own. -/
def OwnB (w : World) (base : Nat) (v : Value) (l : List Nat) : Prop := w.ownsRow base 5 1 v l.length (l.flatMap enB)
/-- These bytes come back, in that row or in a new one. -/
def OnPost (base : Nat) (v : Value) (l : List Nat) (w : World) (e : Ending) (w' : World) : Prop := ∃ v', e = .returned v' ∧ OwnB w' base v' l ∧ w.grownBy w' v.ownBlock ∧ SpareLoc w v v'
theorem OwnB.form {w : World} {base : Nat} {v : Value} {l : List Nat} (h : OwnB w base v l) : ∃ ao cap, v = .slice ao l.length cap := by
  rcases h.2 with ⟨rfl, h0⟩ | ⟨g, cap, cur, rfl, _⟩
  · rw [h0]; exact ⟨_, _, rfl⟩
  · exact ⟨_, _, rfl⟩
theorem low_of {w : World} {base : Nat} {e : TypeId} {bb boff n cap : Nat} {xs : List Value} (h : w.ownsRow base e 1 (.slice (some ⟨bb, boff, none⟩) n cap) n xs) : base ≤ bb ∧ bb < w.heap.size := by
  rcases h.2 with ⟨h1, _⟩ | ⟨g, cap', cur, h1, h2, h3, _⟩
  · cases h1
  · cases h1
    exact ⟨h2, (Array.getElem?_eq_some_iff.1 h3).1⟩
theorem grown_below {w w' : World} {row : Option Nat} (h : Below w.heap.size w w') : w.grownBy w' row := ⟨h.os, h.tape, h.output, h.size, fun k hk _ => h.block k hk⟩

end Go.Proofs.YtihfcohebgemdaaDoor.Mrk
