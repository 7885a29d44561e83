/- What is asked for (layer 9), as an argument. · The frame of a tied card (as KitLaid's), where the walk is told how great the arguments are; the texts of what is asked for (layer 9). -/
import Derived.Test.YtmfhmcegmeinnaaGreatDoorConArg
import Derived.Test.YtmfhmcegmeinnaaGreatDoorKitLaid
set_option linter.unusedSimpArgs false
set_option linter.unusedVariables false
namespace Go.Proofs.YtmfhmcegmeinnaaGreatDoor.Mut
open Go.ChangeShapes Go.WideShapes Go.ChangeAt Go.RowKit Go.Deep Go.Proofs.YtmfhmcegmeinnaaGreatDoor.Kit Go.Proofs.YtmfhmcegmeinnaaGreatDoor.Ord
set_option linter.unusedSectionVars false
variable [Inhabited Lim]
set_option maxRecDepth 100000 in
theorem arg_ask {H : Type} {enc : TypeId × Value → H} {W : World} {v : Value} (h : Arg enc Tryz.prog W 25 v) : ∃ (t phys : Int) (a b : ByteArray), v = .agg #[.int .i64 t, .string a, .string b, .int .i64 phys] ∧ a.size ≤ maxLen := by
  obtain ⟨cs, rfl, hr⟩ := arg_agg Tryz.underlying25 h
  obtain ⟨hl, hf⟩ := rd_struct Tryz.underlying25 hr
  rw [show Tryz.prog.cellsOf 25 = 4 by kernel_rfl] at hl
  match cs, hl with
  | [c0, c1, c2, c3], _ =>
    have h0 : Rd enc Tryz.prog W 23 (List.take (Tryz.prog.cellsOf 23) (List.drop 0 [c0, c1, c2, c3])) := hf 0 _ rfl
    have h1 : Rd enc Tryz.prog W 9 (List.take (Tryz.prog.cellsOf 9) (List.drop 1 [c0, c1, c2, c3])) := hf 1 _ rfl
    have h2 : Rd enc Tryz.prog W 9 (List.take (Tryz.prog.cellsOf 9) (List.drop 2 [c0, c1, c2, c3])) := hf 2 _ rfl
    have h3 : Rd enc Tryz.prog W 3 (List.take (Tryz.prog.cellsOf 3) (List.drop 3 [c0, c1, c2, c3])) := hf 3 _ rfl
    simp only [show Tryz.prog.cellsOf 23 = 1 by kernel_rfl, show Tryz.prog.cellsOf 9 = 1 by kernel_rfl, show Tryz.prog.cellsOf 3 = 1 by kernel_rfl,
      List.drop_succ_cons, List.drop_zero, List.take_succ_cons, List.take_zero] at h0 h1 h2 h3
    obtain ⟨t, e0, _⟩ := rd_i64 Tryz.underlying23 h0
    obtain ⟨a, e1, ha⟩ := rd_string Tryz.underlying9 h1
    obtain ⟨b, e2, _⟩ := rd_string Tryz.underlying9 h2
    obtain ⟨p, e3, _, _⟩ := rd_i64 Tryz.underlying3 h3
    cases e0; cases e1; cases e2; cases e3
    exact ⟨t, p, a, b, rfl, ha⟩
end Go.Proofs.YtmfhmcegmeinnaaGreatDoor.Mut

namespace Go.Proofs.YtmfhmcegmeinnaaGreatDoor.Kit
open Go.ChangeShapes Go.WideShapes Go.ChangeAt Go.RowKit Go.Deep

/-- How great the arguments are: what they read as weighs no more than a machine's memory may hold. -/
def Sized {H : Type} (enc : TypeId × Value → H) (P : Program) (W : World) (ts : List TypeId) (vs : List Value) : Prop :=
  ∃ ds gs p us, DataW.TrodAll enc P W 0 (fun _ => true) true ts vs ds p ∧ (DataW.weightsEach P (ts ++ us) (ds ++ gs)).all (· ≤ reachBytes) = true

theorem law_lifted_sized {H : Type} {enc : TypeId × Value → H} {C : Checked} {os : Os} {f : FuncId} {fn : Func} {s : ChangeSpec} {tb : TypeId} {laid : List (String × DataW Unit)}
    (own : ownKnob C.prog.godebug = none) (started : os.Started) (noInit : C.prog.inits.idxOf? f = none) (hfn : C.prog.funcs[f]? = some fn) (hl : laidOutB C.prog = true)
    (hp0 : (fn.params.toList.all fun t => C.prog.readableRec t && decide (t < C.prog.types.size)) = true) (hv : s.vars = []) (hres : fn.resultTypes = #[tb]) (ht : C.prog.underlying tb = some .bool)
    (hspec : ∀ ds : List (DataW H), ds.length = fn.params.size → s.fn H ds = { results := [.lit (.bool true)], args := ds })
    (witness : ∃ (w : World) (tape : Tape) (i : Input), w.os = os ∧ (w.forCall tape i).Shaped C.prog ∧ i.vars = [] ∧ Input.okWide C.prog (w.forCall tape i) .any w.heap.size f i ∧
      ((s.pre enc C.prog fn [] false (w.forCall tape i).memory i.args ∧ laidMetH C.prog laid (w.forCall tape i).memory) ∧ sizedMet enc C.prog fn (OpenSpec.ofChange s) false (w.forCall tape i).memory i.args) ∧ ({} : Assume).holds C.prog (lone (Frame.enter C.prog f i.args .normal) [] (w.forCall tape i)))
    (walk : ∀ (W : World) (args : Array Value), Args enc C.prog W fn.params.toList args.toList → laidMetH C.prog laid W → Sized enc C.prog W fn.params.toList args.toList →
      Calls C.prog f args W fun e W' => e = .returned (.bool true) ∧ Below W.heap.size W W') :
    ReturnsInHanded {} C os f .any (fun w args => (s.pre enc C.prog fn [] false w args ∧ laidMetH C.prog laid w) ∧ sizedMet enc C.prog fn (OpenSpec.ofChange s) false w args) (s.post enc C.prog fn false true false false) := by
  have hp : ∀ t ∈ fn.params.toList, C.prog.readableRec t = true ∧ t < C.prog.types.size := fun t h => by
    have := List.all_eq_true.1 hp0 t h
    simpa using this
  refine returnsInHanded_of_change_and (X := fun w _ => laidMetH C.prog laid w) (fun _ _ _ hh h => h.of_heap hh) own started noInit hfn witness ?_
  intro W base args ds gs before hval hW _ hZ hL _
  have hW' := hW
  obtain ⟨p, q, hA, hV, rfl, hfz, hnd⟩ := hW'
  obtain ⟨hargs, hlen⟩ := args_of (fun j t v h1 h2 => ⟨_, _, hval j t v (by simpa using h1) (by simpa using h2)⟩) hA
  refine (walk W args hargs hL ⟨ds, gs, p, _, hA, hZ⟩).mono fun e W' ⟨he, hb⟩ => ?_
  subst he
  exact ⟨_, rfl, law_post hl hp hv hres ht (hspec ds (by simpa using hlen)) hW hb⟩

set_option maxRecDepth 100000 in
/-- The text from which is asked is no longer than a machine's memory. -/
theorem ask_small {H : Type} {enc : TypeId × Value → H} {W : World} {v0 : Value} {t phys : Int} {a b : ByteArray} {t0 : TypeId}
    (h : Sized enc Tryz.prog W [t0, 25] [v0, .agg #[.int .i64 t, .string a, .string b, .int .i64 phys]]) : a.size ≤ reachBytes := by
  obtain ⟨ds, gs, p, us, hA, hw⟩ := h
  match ds, hA with
  | [d0, d1], hA =>
    obtain ⟨p0, q0, -, h1, -⟩ := hA
    obtain ⟨p1, q1, ⟨n, h2⟩, -, -⟩ := h1
    obtain ⟨xs, k, -, hx, hl, hxl, hf⟩ := DataW.trod_struct Tryz.underlying25 h2
    match xs, hxl with
    | [x0, x1, x2, x3], _ =>
      have g1 : DataW.trod enc Tryz.prog W 0 (fun _ => true) true k 9 (List.take (Tryz.prog.cellsOf 9) (List.drop 1 [.int .i64 t, .string a, .string b, .int .i64 phys])) = some x1 := hf 1 _ rfl
      rw [show Tryz.prog.cellsOf 9 = 1 by kernel_rfl] at g1
      obtain ⟨s, hc, hx1, -⟩ := DataW.trod_string Tryz.underlying9 g1
      have e1 : a = s := by simpa using hc
      subst e1
      have e2 : d1 = .agg [x0.1, x1.1, x2.1, x3.1] := by
        have := congrArg (·.1) hx
        simpa using this
      rw [e2, hx1] at hw
      simp only [List.cons_append, List.nil_append, DataW.weightsEach, DataW.weights, Tryz.underlying25, List.all_append, List.all_cons, Bool.and_eq_true, decide_eq_true_eq, Array.length_toList] at hw
      obtain ⟨-, ⟨h3, -⟩⟩ := hw
      simp only [List.map_cons, List.map_nil, DataW.weightsEach, DataW.weights, List.all_append, List.all_cons, Bool.and_eq_true, decide_eq_true_eq, Array.length_toList] at h3
      have h4 := h3.2.1.1
      exact h4
end Go.Proofs.YtmfhmcegmeinnaaGreatDoor.Kit
