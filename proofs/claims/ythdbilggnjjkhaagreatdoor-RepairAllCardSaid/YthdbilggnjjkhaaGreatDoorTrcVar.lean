/- Variables of many cells: loads and stores of their parts, and what stays when they turn. -/
import Derived.Test.YthdbilggnjjkhaaGreatDoorLstMore
import Derived.Deep.MidRow
import Derived.Deep.WholeRow
import Derived.Laws.CopyRow
import Derived.Laws.CopyOwn
set_option linter.unusedSimpArgs false
set_option linter.unusedVariables false
namespace Go.Proofs.YthdbilggnjjkhaaGreatDoor.Trc
open Go.RowKit
set_option linter.unusedSectionVars false

/-- A variable, whole, of these cells. -/
def VarAt (w : World) (g : Nat) (t : TypeId) (l : List Value) : Prop := w.heap[g]? = some (.cells l.toArray t (0, 0))
section
variable {w w' : World} {g : Nat} {t : TypeId} {l : List Value}
theorem VarAt.lt (h : VarAt w g t l) : g < w.heap.size := (Array.getElem?_eq_some_iff.1 h).1
theorem VarAt.below (h : VarAt w g t l) (hb : Below w.heap.size w w') : VarAt w' g t l := (hb.block g h.lt).trans h
theorem VarAt.new (w : World) (t : TypeId) (l : List Value) : VarAt (w.alloc (.cells ⟨l⟩ t)) w.heap.size t l := heap_alloc_last w _
theorem VarAt.get (h : VarAt w g t l) {k : Nat} {v : Value} (hk : l[k]? = some v) : w.cell? ⟨g, k, none⟩ = some v := by
  rw [cell_of_row w g k _ _ (0, 0) h, List.getElem?_toArray]; exact hk
theorem VarAt.frozen (h : VarAt w g t l) (k : Nat) : w.frozen? ⟨g, k, none⟩ = false := frozen_of_row w g k _ _ h
theorem VarAt.load {P : Program} (h : VarAt w g t l) (o : Nat) (ty : TypeId) (cs : List Value) (d : TypeDesc) (hcs : (l.drop o).take cs.length = cs) (hu : P.underlying ty = some d) (hd : d.isRow = true) (hi : (P.info? ty).map (·.size) = some cs.length) :
    (Instr.loadAt ty (.pointer (some ⟨g, o, none⟩))).run P w = .ok (.agg ⟨cs⟩) w :=
  run_loadAt_mid w g o ty cs d (fun j v hv => h.get (by
    rw [← List.getElem?_drop]
    have hj := (List.getElem?_eq_some_iff.1 hv).1
    rw [← hcs, List.getElem?_take_of_lt hj] at hv
    exact hv)) hu hd hi
theorem VarAt.store {P : Program} (h : VarAt w g t l) (o : Nat) (ty : TypeId) (cs : List Value) (ho : o + cs.length ≤ l.length) (hi : (P.info? ty).map (·.size) = some cs.length) (h1 : cs.all (·.oneCell') = true) :
    (Instr.storeAt ty (.pointer (some ⟨g, o, none⟩)) (.agg ⟨cs⟩)).run P w = .ok () (w.setRow g (l.take o ++ cs ++ l.drop (o + cs.length)).toArray) := by
  have := run_storeCells_at (P := P) g o t cs 0 l.toArray w h (by simpa using ho) (fun v hv => List.all_eq_true.1 h1 v hv)
  cases hq : P.info? ty with
  | none => simp [hq] at hi
  | some i =>
    have hs : cs.length = i.size := by simp [hq] at hi; omega
    simp only [Nat.add_zero] at this
    simp only [Instr.storeAt, Instr.sureAddr, Sem.run_bind, Sem.run_pure, Result.andThen_ok]
    simp [storeVar, sizeOf, typeInfo, hq, Value.cells, hs] at this ⊢
    rw [this]
theorem VarAt.storeK {P : Program} (h : VarAt w g t l) (o : Nat) (ty : TypeId) (cs : List Value) {l' : List Value} (ho : Nat.ble (o + cs.length) l.length = true) (hi : (P.info? ty).map (·.size) = some cs.length) (h1 : cs.all (·.oneCell') = true) (hl : l.take o ++ cs ++ l.drop (o + cs.length) = l') :
    (Instr.storeAt ty (.pointer (some ⟨g, o, none⟩)) (.agg ⟨cs⟩)).run P w = .ok () (w.setRow g ⟨l'⟩) := by
  rw [← hl]; exact h.store o ty cs (Nat.le_of_ble_eq_true ho) hi h1
theorem VarAt.storeAll {P : Program} (h : VarAt w g t l) (ty : TypeId) (n : Nat) (cs : List Value) (hn : cs.length = n) (hl : l.length = n) (hi : (P.info? ty).map (·.size) = some n) (h1 : cs.all (·.oneCell') = true) :
    (Instr.storeAt ty (.pointer (some ⟨g, 0, none⟩)) (.agg ⟨cs⟩)).run P w = .ok () (w.setRow g ⟨cs⟩) :=
  h.storeK 0 ty cs (Nat.ble_eq_true_of_le (by omega)) (by rw [hn]; exact hi) h1 (by rw [List.drop_eq_nil_of_le (by omega)]; simp)
theorem VarAt.loadAll {P : Program} (h : VarAt w g t l) (ty : TypeId) (n : Nat) (hl : l.length = n) (d : TypeDesc) (hu : P.underlying ty = some d) (hd : d.isRow = true) (hi : (P.info? ty).map (·.size) = some n) :
    (Instr.loadAt ty (.pointer (some ⟨g, 0, none⟩))).run P w = .ok (.agg ⟨l⟩) w :=
  h.load 0 ty l d (by simp) hu hd (by rw [hl]; exact hi)
theorem VarAt.row (h : VarAt w g t l) (l' : List Value) : VarAt (w.setRow g l'.toArray) g t l' := setRow_heap w g _ _ t _ h
theorem VarAt.set (h : VarAt w g t l) (i : Nat) (v : Value) : VarAt (w.setCell ⟨g, i, none⟩ v) g t (l.set i v) := by
  have h2 := heap_setCell_same w g i l.toArray _ v h
  unfold VarAt
  rw [h2]
  simp
theorem VarAt.setK (h : VarAt w g t l) (i : Nat) (v : Value) {l' : List Value} (hl : l.set i v = l') : VarAt (w.setCell ⟨g, i, none⟩ v) g t l' := by rw [← hl]; exact h.set i v
theorem VarAt.row_other (h : VarAt w g t l) {g' : Nat} (cs : Array Value) (hne : g ≠ g') : VarAt (w.setRow g' cs) g t l := (setRow_other w g' g cs hne).trans h
theorem VarAt.set_other (h : VarAt w g t l) {g' : Nat} (i : Nat) (v : Value) (hne : g ≠ g') : VarAt (w.setCell ⟨g', i, none⟩ v) g t l := (RowKit.Below.heap_setCell w ⟨g', i, none⟩ v g hne).trans h
end
/-- What is of another type than this stays. -/
structure KeepT (t : TypeId) (w w' : World) : Prop where
  size : w.heap.size ≤ w'.heap.size
  same : ∀ (k : Nat) (c : Array Value) (e : TypeId) (fr : Nat × Nat), w.heap[k]? = some (.cells c e fr) → e ≠ t → w'.heap[k]? = some (.cells c e fr)
section
variable {w w' w'' : World} {g : Nat} {t : TypeId} {l : List Value}
theorem KeepT.refl (t : TypeId) (w : World) : KeepT t w w := ⟨Nat.le_refl _, fun _ _ _ _ h _ => h⟩
theorem KeepT.trans (h : KeepT t w w') (k : KeepT t w' w'') : KeepT t w w'' := ⟨Nat.le_trans h.size k.size, fun i c e fr h1 h2 => k.same i c e fr (h.same i c e fr h1 h2) h2⟩
theorem KeepT.below (h : Below w.heap.size w w') : KeepT t w w' := ⟨h.size, fun k c e fr h1 _ => (h.block k (Array.getElem?_eq_some_iff.1 h1).1).trans h1⟩
theorem KeepT.row (h : VarAt w g t l) (cs : Array Value) : KeepT t w (w.setRow g cs) := ⟨by simp, fun k c e fr h1 h2 => by
  have hne : k ≠ g := fun e' => by
    subst e'
    rw [show w.heap[k]? = _ from h] at h1
    cases h1
    exact h2 rfl
  exact (setRow_other w g k cs hne).trans h1⟩
theorem KeepT.set (h : VarAt w g t l) (i : Nat) (v : Value) : KeepT t w (w.setCell ⟨g, i, none⟩ v) := ⟨by simp, fun k c e fr h1 h2 => by
  have hne : k ≠ g := fun e' => by
    subst e'
    rw [show w.heap[k]? = _ from h] at h1
    cases h1
    exact h2 rfl
  exact (RowKit.Below.heap_setCell w ⟨g, i, none⟩ v k hne).trans h1⟩
theorem KeepT.own (h : KeepT t w w') {base : Nat} {e : TypeId} {sz n : Nat} {v : Value} {xs : List Value} (hr : w.ownsRow base e sz v n xs) (hne : e ≠ t) : w'.ownsRow base e sz v n xs := by
  refine ⟨hr.1, ?_⟩
  rcases hr.2 with h2 | ⟨g, cap, cur, h1, h2, h3, h4⟩
  · exact Or.inl h2
  · exact Or.inr ⟨g, cap, cur, h1, h2, h.same g _ _ _ h3 hne, h4⟩
end
/-- A load, or a store, of a whole struct, by what its run is: not opened cell by cell. -/
theorem wpList_load_run {P : Program} {w : World} {ops : Array Oper} {rest : List Oper} {o : Oper} {a : Act} {Q : Exit → Act → World → Prop} (hg : o.guard = none) (ty : TypeId) (x : Operand) (hop : o.op = .load ty x)
    (p V : Value) (hx : a.eval x = p) (hld : (Instr.loadAt ty p).run P w = .ok V w) (h : wpList P ops Q rest (a.put o.dst V) w) : wpList P ops Q (o :: rest) a w := by
  refine wpList_plain hg fun K hK => ?_
  unfold Oper.wp execOp
  simp only [hop, hx, hld, Sem.run_bind, Sem.run_pure, Result.andThen_ok]
  exact hK _ _ h
theorem wpList_store_run {P : Program} {w w' : World} {ops : Array Oper} {rest : List Oper} {o : Oper} {a : Act} {Q : Exit → Act → World → Prop} (hg : o.guard = none) (ty : TypeId) (x y : Operand) (hop : o.op = .store ty x y)
    (p V : Value) (hx : a.eval x = p) (hy : a.eval y = V) (hst : (Instr.storeAt ty p V).run P w = .ok () w') (h : wpList P ops Q rest (a.put o.dst undef) w') : wpList P ops Q (o :: rest) a w := by
  refine wpList_plain hg fun K hK => ?_
  unfold Oper.wp execOp
  simp only [hop, hx, hy, hst, Sem.run_bind, Sem.run_pure, Result.andThen_ok]
  exact hK _ _ h
theorem setRow_below {n : Nat} {w0 w : World} (h : Below n w0 w) (g : Nat) (hg : n ≤ g) (cs : Array Value) : Below n w0 (w.setRow g cs) := below_setRow h hg cs
end Go.Proofs.YthdbilggnjjkhaaGreatDoor.Trc
