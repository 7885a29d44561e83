/- The walk of slices.DeleteFunc at mutations, on a row that the call owns. -/
import Derived.Test.YtihfcohebgemdaaDoorMutCopies
import Derived.Test.YtihfcohebgemdaaDoorSlRow
set_option linter.unusedSimpArgs false
set_option linter.unusedVariables false
namespace Go.Proofs.YtihfcohebgemdaaDoor.Mut
open Go.RowKit Go.Sort Go.Proofs.YtihfcohebgemdaaDoor.Ord
set_option linter.unusedSectionVars false
variable [Inhabited Lim]

/-- An element of some cells stored into a row that is known whole. -/
theorem wpList_store_k {P : Program} (w : World) {ops : Array Oper} {rest : List Oper} {o : Oper} {a : Act} {Q : Exit → Act → World → Prop} (hgd : o.guard = none) (ty : TypeId) (x y : Operand) (ho : o.op = .store ty x y)
    (g off : Nat) (cells : List Value) (hx : a.eval x = .pointer (some ⟨g, off, none⟩)) (hy : a.eval y = .agg ⟨cells⟩) (cur : List Value) (t : TypeId) (hg : w.heap[g]? = some (.cells ⟨cur⟩ t (0, 0)))
    (hi : (P.info? ty).map (·.size) = some cells.length) (hfit : off + cells.length ≤ cur.length) (h1 : ∀ u ∈ cells, u.oneCell' = true)
    (h : wpList P ops Q rest (a.put o.dst undef) (w.setRow g ⟨splice cur off cells⟩)) : wpList P ops Q (o :: rest) a w := by
  refine wpList_plain hgd fun K hK => ?_
  have hst := run_storeCells_at P g off t cells 0 ⟨cur⟩ w hg (by simpa using hfit) h1
  cases hq : P.info? ty with
  | none => simp [hq] at hi
  | some i =>
    have hs : i.size = cells.length := by simpa [hq] using hi
    unfold Oper.wp
    simp [execOp, ho, hx, hy, Instr.storeAt, Instr.sureAddr, storeVar, sizeOf, typeInfo, hq, hs, Value.cells, hst, Result.andThen, splice]
    exact hK _ _ (by simpa [splice] using h)

theorem flat_splice (L : List Ro) (spare : List Value) (i : Nat) (x : Ro) (hi : i < L.length) : splice (L.flatMap enM ++ spare) (i * 10) (enM x) = (L.set i x).flatMap enM ++ spare := by
  have h10 : ∀ (l : List Ro), (l.flatMap enM).length = l.length * 10 := flatMap_len enM_len
  have e : L = L.take i ++ L[i] :: L.drop (i + 1) := by rw [← List.drop_eq_getElem_cons hi, List.take_append_drop]
  have e1 : (L.set i x) = L.take i ++ x :: L.drop (i + 1) := by rw [List.set_eq_take_append_cons_drop, if_pos hi]
  unfold splice
  rw [e1]
  have hA : (L.flatMap enM) = (L.take i).flatMap enM ++ (enM L[i] ++ (L.drop (i + 1)).flatMap enM) := by
    conv => lhs; rw [e]
    rw [List.flatMap_append, List.flatMap_cons]
  have hl : ((L.take i).flatMap enM).length = i * 10 := by rw [h10, List.length_take, Nat.min_eq_left (by omega)]
  rw [hA, List.append_assoc, List.take_left' hl, List.flatMap_append, List.flatMap_cons]
  have hd : ((L.take i).flatMap enM ++ ((enM L[i] ++ (L.drop (i + 1)).flatMap enM) ++ spare)).drop (i * 10 + (enM x).length) = (L.drop (i + 1)).flatMap enM ++ spare := by
    rw [← List.append_assoc, ← List.append_assoc, List.append_assoc]
    exact List.drop_left' (by rw [List.length_append, hl, enM_len, enM_len])
  rw [hd]
  simp [List.append_assoc]
theorem heap_alloc_old' (w : World) (o : Obj) (i : Nat) (h : i < w.heap.size) : (w.alloc o).heap[i]? = w.heap[i]? := by
  show (w.heap.push o)[i]? = w.heap[i]?
  rw [Array.getElem?_push, if_neg (Nat.ne_of_lt h)]
end Go.Proofs.YtihfcohebgemdaaDoor.Mut
