/- Arrays whose elements are all the same: '==' gives true (any program). -/
import Derived.Laws.StructEq
import Derived.Laws.Entries
set_option linter.unusedSimpArgs false
set_option linter.unusedVariables false
namespace Go.Proofs.YtemckpmedjennaaGreatDoor.ArrEq
open Go

theorem run_equalIn_array {P : Program} (w : World) (d len : Nat) (t e : TypeId) (xs ys : Array Value) (i1 : TypeInfo) (ht : P.underlying t = some (.array len e)) (hi : P.info? e = some i1) (hs : i1.size = 1)
    (h : ∀ i, i < len → ∃ a b, (∀ w, (part e xs i).run P w = .ok a w) ∧ (∀ w, (part e ys i).run P w = .ok b w) ∧ ∀ w, (Op.equalIn d e a b).run P w = .ok true w) :
    (Op.equalIn (d + 1) t (.agg xs) (.agg ys)).run P w = .ok true w := by
  simp only [Op.equalIn, Sem.run_bind, run_underlying ht, Result.andThen_ok, sizeOf, typeInfo, run_program, hi, Sem.run_pure]
  simp only [hs, Nat.mul_one]
  rw [Std.Legacy.Range.forIn_eq_forIn_range']
  have key : ∀ (l : List Nat), (∀ i ∈ l, i < len) → ∀ w, ((forIn (m := Sem) l ((none, ()) : Option Bool × Unit) fun i r => do
      let a ← part e xs i
      let b ← part e ys i
      let r ← Op.equalIn d e a b
      if (!r) = true then pure (ForInStep.done (some false, ())) else pure (ForInStep.yield (none, ())))).run P w = .ok (none, ()) w := by
    intro l
    induction l with
    | nil => intro _ w; simp
    | cons i l ih =>
      intro hl w
      obtain ⟨a, b, h1, h2, h3⟩ := h i (hl i (by simp))
      simp only [List.forIn_cons, Sem.run_bind, h1, h2, h3, Result.andThen_ok, Bool.not_true, Bool.false_eq_true, if_false, Sem.run_pure, Sem.run_ite]
      exact ih (fun j hj => hl j (by simp [hj])) w
  have := key (List.range' 0 len 1) (fun i hi => by simpa using hi) w
  have e : ([:len] : Std.Legacy.Range).size = len := by simp [Std.Legacy.Range.size]
  rw [e]
  show ((Sem.run P (forIn (List.range' 0 len 1) _ _) w).andThen _) = _
  rw [this]
  simp
theorem run_part_int {P : Program} (w : World) (e : TypeId) (k : IntKind) (cs : Array Value) (i : Nat) (v : Value) (he : P.underlying e = some (.int k)) (h : cs[i]? = some v) : (part e cs i).run P w = .ok v w := by
  simp [part, isAgg, run_underlying he, h]
theorem run_part_string {P : Program} (w : World) (e : TypeId) (cs : Array Value) (i : Nat) (v : Value) (he : P.underlying e = some .string) (h : cs[i]? = some v) : (part e cs i).run P w = .ok v w := by
  simp [part, isAgg, run_underlying he, h]
/-- An array of numbers is the same as itself. -/
theorem run_eql_ints {P : Program} (w : World) (len : Nat) (t e : TypeId) (k : IntKind) (xs : Array Value) (ht : P.underlying t = some (.array len e)) (hi : (P.info? e).map (·.size) = some 1) (he : P.underlying e = some (.int k))
    (h : ∀ i, i < len → ∃ x, xs[i]? = some (.int k x)) : (binOp .eql t (.agg xs) (.agg xs)).run P w = .ok (.bool true) w := by
  cases hq : P.info? e with
  | none => simp [hq] at hi
  | some i1 =>
    rw [run_eql_struct, run_equalIn_array w 9999 len t e xs xs i1 ht hq (by simpa [hq] using hi) (fun i hl => by
      obtain ⟨x, hx⟩ := h i hl
      exact ⟨_, _, fun w => run_part_int w e k xs i _ he hx, fun w => run_part_int w e k xs i _ he hx, fun w => by rw [run_equalIn_int w 9998 e k k x x he]; simp⟩)]
    rfl
theorem run_eql_strings {P : Program} (w : World) (len : Nat) (t e : TypeId) (xs : Array Value) (ht : P.underlying t = some (.array len e)) (hi : (P.info? e).map (·.size) = some 1) (he : P.underlying e = some .string)
    (h : ∀ i, i < len → ∃ x, xs[i]? = some (.string x)) : (binOp .eql t (.agg xs) (.agg xs)).run P w = .ok (.bool true) w := by
  cases hq : P.info? e with
  | none => simp [hq] at hi
  | some i1 =>
    rw [run_eql_struct, run_equalIn_array w 9999 len t e xs xs i1 ht hq (by simpa [hq] using hi) (fun i hl => by
      obtain ⟨x, hx⟩ := h i hl
      exact ⟨_, _, fun w => run_part_string w e xs i _ he hx, fun w => run_part_string w e xs i _ he hx, fun w => by rw [run_equalIn_string w 9998 e x x he]; simp⟩)]
    rfl
end Go.Proofs.YtemckpmedjennaaGreatDoor.ArrEq
