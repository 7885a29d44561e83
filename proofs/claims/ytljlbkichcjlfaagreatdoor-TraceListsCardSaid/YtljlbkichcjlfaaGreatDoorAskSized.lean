/- What is asked for (layer 9), as an argument. · The frame of a tied card (as KitLaid's), where the walk is told how great the arguments are; the texts of what is asked for (layer 9). -/
import Derived.Test.YtljlbkichcjlfaaGreatDoorConArg
import Derived.Test.YtljlbkichcjlfaaGreatDoorKitLaid
set_option linter.unusedSimpArgs false
set_option linter.unusedVariables false
namespace Go.Proofs.YtljlbkichcjlfaaGreatDoor.Mut
open Go.ChangeShapes Go.WideShapes Go.ChangeAt Go.RowKit Go.Deep Go.Proofs.YtljlbkichcjlfaaGreatDoor.Kit Go.Proofs.YtljlbkichcjlfaaGreatDoor.Ord
set_option linter.unusedSectionVars false
variable [Inhabited Lim]
end Go.Proofs.YtljlbkichcjlfaaGreatDoor.Mut

namespace Go.Proofs.YtljlbkichcjlfaaGreatDoor.Kit
open Go.ChangeShapes Go.WideShapes Go.ChangeAt Go.RowKit Go.Deep

/-- How great the arguments are: what they read as weighs no more than a machine's memory may hold. -/
def Sized {H : Type} (enc : TypeId × Value → H) (P : Program) (W : World) (ts : List TypeId) (vs : List Value) : Prop :=
  ∃ ds gs p us, DataW.TrodAll enc P W 0 (fun _ => true) true ts vs ds p ∧ (DataW.weightsEach P (ts ++ us) (ds ++ gs)).all (· ≤ reachBytes) = true

theorem law_lifted_sized {H : Type} {enc : TypeId × Value → H} {C : Checked} {os : Os} {f : FuncId} {fn : Func} {s : ChangeSpec} {tb : TypeId} {laid : List (String × DataW Unit)}
    (own : ownKnob C.prog.godebug = none) (started : os.Started) (noInit : C.prog.inits.idxOf? f = none) (hfn : C.prog.funcs[f]? = some fn) (hl : laidOutB C.prog = true)
    (hp0 : (fn.params.toList.all fun t => C.prog.readableRec t && decide (t < C.prog.types.size)) = true) (hv : s.vars = []) (hres : fn.resultTypes = #[tb]) (ht : C.prog.underlying tb = some .bool)
    (hspec : ∀ ds : List (DataW H), ds.length = fn.params.size → s.fn H ds = { results := [.lit (.bool true)], args := ds })
    (witness : ∃ (w : World) (tape : Tape) (i : Input), w.os = os ∧ (w.forCall tape i).Shaped C.prog ∧ i.vars = [] ∧ Input.okWide C.prog (w.forCall tape i) .any w.heap.size f i ∧
      ((s.pre enc C.prog fn [] false (w.forCall tape i).memory i.args ∧ laidMetH C.prog laid (w.forCall tape i).memory) ∧ sizedMet enc C.prog fn (OpenSpec.ofChange s) false (w.forCall tape i).memory i.args) ∧ ({} : Assume).holds C.prog (lone (Frame.enter C.prog f i.args .normal) [] (w.forCall tape i)))
    (walk : ∀ (W : World) (args : Array Value), Args enc C.prog W fn.params.toList args.toList → laidMetH C.prog laid W → Sized enc C.prog W fn.params.toList args.toList →
      Calls C.prog f args W fun e W' => e = .returned (.bool true) ∧ Below W.heap.size W W') :
    ReturnsInHanded {} C os f .any (fun w args => (s.pre enc C.prog fn [] false w args ∧ laidMetH C.prog laid w) ∧ sizedMet enc C.prog fn (OpenSpec.ofChange s) false w args) (s.post enc C.prog fn false true false false) := by
  have hp : ∀ t ∈ fn.params.toList, C.prog.readableRec t = true ∧ t < C.prog.types.size := fun t h => by
    have := List.all_eq_true.1 hp0 t h
    simpa using this
  refine returnsInHanded_of_change_and (X := fun w _ => laidMetH C.prog laid w) (fun _ _ _ hh h => h.of_heap hh) own started noInit hfn witness ?_
  intro W base args ds gs before hval hW _ hZ hL _
  have hW' := hW
  obtain ⟨p, q, hA, hV, rfl, hfz, hnd⟩ := hW'
  obtain ⟨hargs, hlen⟩ := args_of (fun j t v h1 h2 => ⟨_, _, hval j t v (by simpa using h1) (by simpa using h2)⟩) hA
  refine (walk W args hargs hL ⟨ds, gs, p, _, hA, hZ⟩).mono fun e W' ⟨he, hb⟩ => ?_
  subst he
  exact ⟨_, rfl, law_post hl hp hv hres ht (hspec ds (by simpa using hlen)) hW hb⟩

end Go.Proofs.YtljlbkichcjlfaaGreatDoor.Kit
