/- Variables of many cells: loads and stores of their parts, and what stays when they turn. · Layer 30 (trace): slices.Clone at ints and at rows of values. PRINTED by wip/gentrcclone.py. · Layer 30 (trace): Copy: the same, in memory of its own. PRINTED by wip/gentrccopy.py. -/
import Derived.Test.YtljlbkichcjlfaaGreatDoorLstMore
import Derived.Deep.MidRow
import Derived.Deep.WholeRow
import Derived.Laws.CopyRow
import Derived.Laws.CopyOwn
import Derived.Test.YtljlbkichcjlfaaGreatDoorPkV
import Derived.Test.YtljlbkichcjlfaaGreatDoorInts
import Derived.Laws.AppendOwn
import Derived.Lib.SliceRun
import Derived.Test.YtljlbkichcjlfaaGreatDoorTrcReply
import Derived.Test.YtljlbkichcjlfaaGreatDoorConKnown
set_option linter.unusedSimpArgs false
set_option linter.unusedVariables false
namespace Go.Proofs.YtljlbkichcjlfaaGreatDoor.Trc
open Go.RowKit
set_option linter.unusedSectionVars false

/-- A variable, whole, of these cells. -/
def VarAt (w : World) (g : Nat) (t : TypeId) (l : List Value) : Prop := w.heap[g]? = some (.cells l.toArray t (0, 0))
section
variable {w w' : World} {g : Nat} {t : TypeId} {l : List Value}
theorem VarAt.lt (h : VarAt w g t l) : g < w.heap.size := (Array.getElem?_eq_some_iff.1 h).1
theorem VarAt.below (h : VarAt w g t l) (hb : Below w.heap.size w w') : VarAt w' g t l := (hb.block g h.lt).trans h
theorem VarAt.new (w : World) (t : TypeId) (l : List Value) : VarAt (w.alloc (.cells ⟨l⟩ t)) w.heap.size t l := heap_alloc_last w _
theorem VarAt.get (h : VarAt w g t l) {k : Nat} {v : Value} (hk : l[k]? = some v) : w.cell? ⟨g, k, none⟩ = some v := by
  rw [cell_of_row w g k _ _ (0, 0) h, List.getElem?_toArray]; exact hk
theorem VarAt.frozen (h : VarAt w g t l) (k : Nat) : w.frozen? ⟨g, k, none⟩ = false := frozen_of_row w g k _ _ h
theorem VarAt.load {P : Program} (h : VarAt w g t l) (o : Nat) (ty : TypeId) (cs : List Value) (d : TypeDesc) (hcs : (l.drop o).take cs.length = cs) (hu : P.underlying ty = some d) (hd : d.isRow = true) (hi : (P.info? ty).map (·.size) = some cs.length) :
    (Instr.loadAt ty (.pointer (some ⟨g, o, none⟩))).run P w = .ok (.agg ⟨cs⟩) w :=
  run_loadAt_mid w g o ty cs d (fun j v hv => h.get (by
    rw [← List.getElem?_drop]
    have hj := (List.getElem?_eq_some_iff.1 hv).1
    rw [← hcs, List.getElem?_take_of_lt hj] at hv
    exact hv)) hu hd hi
theorem VarAt.store {P : Program} (h : VarAt w g t l) (o : Nat) (ty : TypeId) (cs : List Value) (ho : o + cs.length ≤ l.length) (hi : (P.info? ty).map (·.size) = some cs.length) (h1 : cs.all (·.oneCell') = true) :
    (Instr.storeAt ty (.pointer (some ⟨g, o, none⟩)) (.agg ⟨cs⟩)).run P w = .ok () (w.setRow g (l.take o ++ cs ++ l.drop (o + cs.length)).toArray) := by
  have := run_storeCells_at (P := P) g o t cs 0 l.toArray w h (by simpa using ho) (fun v hv => List.all_eq_true.1 h1 v hv)
  cases hq : P.info? ty with
  | none => simp [hq] at hi
  | some i =>
    have hs : cs.length = i.size := by simp [hq] at hi; omega
    simp only [Nat.add_zero] at this
    simp only [Instr.storeAt, Instr.sureAddr, Sem.run_bind, Sem.run_pure, Result.andThen_ok]
    simp [storeVar, sizeOf, typeInfo, hq, Value.cells, hs] at this ⊢
    rw [this]
theorem VarAt.storeK {P : Program} (h : VarAt w g t l) (o : Nat) (ty : TypeId) (cs : List Value) {l' : List Value} (ho : Nat.ble (o + cs.length) l.length = true) (hi : (P.info? ty).map (·.size) = some cs.length) (h1 : cs.all (·.oneCell') = true) (hl : l.take o ++ cs ++ l.drop (o + cs.length) = l') :
    (Instr.storeAt ty (.pointer (some ⟨g, o, none⟩)) (.agg ⟨cs⟩)).run P w = .ok () (w.setRow g ⟨l'⟩) := by
  rw [← hl]; exact h.store o ty cs (Nat.le_of_ble_eq_true ho) hi h1
theorem VarAt.storeAll {P : Program} (h : VarAt w g t l) (ty : TypeId) (n : Nat) (cs : List Value) (hn : cs.length = n) (hl : l.length = n) (hi : (P.info? ty).map (·.size) = some n) (h1 : cs.all (·.oneCell') = true) :
    (Instr.storeAt ty (.pointer (some ⟨g, 0, none⟩)) (.agg ⟨cs⟩)).run P w = .ok () (w.setRow g ⟨cs⟩) :=
  h.storeK 0 ty cs (Nat.ble_eq_true_of_le (by omega)) (by rw [hn]; exact hi) h1 (by rw [List.drop_eq_nil_of_le (by omega)]; simp)
theorem VarAt.loadAll {P : Program} (h : VarAt w g t l) (ty : TypeId) (n : Nat) (hl : l.length = n) (d : TypeDesc) (hu : P.underlying ty = some d) (hd : d.isRow = true) (hi : (P.info? ty).map (·.size) = some n) :
    (Instr.loadAt ty (.pointer (some ⟨g, 0, none⟩))).run P w = .ok (.agg ⟨l⟩) w :=
  h.load 0 ty l d (by simp) hu hd (by rw [hl]; exact hi)
theorem VarAt.row (h : VarAt w g t l) (l' : List Value) : VarAt (w.setRow g l'.toArray) g t l' := setRow_heap w g _ _ t _ h
theorem VarAt.set (h : VarAt w g t l) (i : Nat) (v : Value) : VarAt (w.setCell ⟨g, i, none⟩ v) g t (l.set i v) := by
  have h2 := heap_setCell_same w g i l.toArray _ v h
  unfold VarAt
  rw [h2]
  simp
theorem VarAt.setK (h : VarAt w g t l) (i : Nat) (v : Value) {l' : List Value} (hl : l.set i v = l') : VarAt (w.setCell ⟨g, i, none⟩ v) g t l' := by rw [← hl]; exact h.set i v
theorem VarAt.row_other (h : VarAt w g t l) {g' : Nat} (cs : Array Value) (hne : g ≠ g') : VarAt (w.setRow g' cs) g t l := (setRow_other w g' g cs hne).trans h
theorem VarAt.set_other (h : VarAt w g t l) {g' : Nat} (i : Nat) (v : Value) (hne : g ≠ g') : VarAt (w.setCell ⟨g', i, none⟩ v) g t l := (RowKit.Below.heap_setCell w ⟨g', i, none⟩ v g hne).trans h
end
/-- What is of another type than this stays. -/
structure KeepT (t : TypeId) (w w' : World) : Prop where
  size : w.heap.size ≤ w'.heap.size
  same : ∀ (k : Nat) (c : Array Value) (e : TypeId) (fr : Nat × Nat), w.heap[k]? = some (.cells c e fr) → e ≠ t → w'.heap[k]? = some (.cells c e fr)
section
variable {w w' w'' : World} {g : Nat} {t : TypeId} {l : List Value}
theorem KeepT.refl (t : TypeId) (w : World) : KeepT t w w := ⟨Nat.le_refl _, fun _ _ _ _ h _ => h⟩
theorem KeepT.trans (h : KeepT t w w') (k : KeepT t w' w'') : KeepT t w w'' := ⟨Nat.le_trans h.size k.size, fun i c e fr h1 h2 => k.same i c e fr (h.same i c e fr h1 h2) h2⟩
theorem KeepT.below (h : Below w.heap.size w w') : KeepT t w w' := ⟨h.size, fun k c e fr h1 _ => (h.block k (Array.getElem?_eq_some_iff.1 h1).1).trans h1⟩
theorem KeepT.row (h : VarAt w g t l) (cs : Array Value) : KeepT t w (w.setRow g cs) := ⟨by simp, fun k c e fr h1 h2 => by
  have hne : k ≠ g := fun e' => by
    subst e'
    rw [show w.heap[k]? = _ from h] at h1
    cases h1
    exact h2 rfl
  exact (setRow_other w g k cs hne).trans h1⟩
theorem KeepT.set (h : VarAt w g t l) (i : Nat) (v : Value) : KeepT t w (w.setCell ⟨g, i, none⟩ v) := ⟨by simp, fun k c e fr h1 h2 => by
  have hne : k ≠ g := fun e' => by
    subst e'
    rw [show w.heap[k]? = _ from h] at h1
    cases h1
    exact h2 rfl
  exact (RowKit.Below.heap_setCell w ⟨g, i, none⟩ v k hne).trans h1⟩
theorem KeepT.own (h : KeepT t w w') {base : Nat} {e : TypeId} {sz n : Nat} {v : Value} {xs : List Value} (hr : w.ownsRow base e sz v n xs) (hne : e ≠ t) : w'.ownsRow base e sz v n xs := by
  refine ⟨hr.1, ?_⟩
  rcases hr.2 with h2 | ⟨g, cap, cur, h1, h2, h3, h4⟩
  · exact Or.inl h2
  · exact Or.inr ⟨g, cap, cur, h1, h2, h.same g _ _ _ h3 hne, h4⟩
end
/-- A load, or a store, of a whole struct, by what its run is: not opened cell by cell. -/
theorem wpList_load_run {P : Program} {w : World} {ops : Array Oper} {rest : List Oper} {o : Oper} {a : Act} {Q : Exit → Act → World → Prop} (hg : o.guard = none) (ty : TypeId) (x : Operand) (hop : o.op = .load ty x)
    (p V : Value) (hx : a.eval x = p) (hld : (Instr.loadAt ty p).run P w = .ok V w) (h : wpList P ops Q rest (a.put o.dst V) w) : wpList P ops Q (o :: rest) a w := by
  refine wpList_plain hg fun K hK => ?_
  unfold Oper.wp execOp
  simp only [hop, hx, hld, Sem.run_bind, Sem.run_pure, Result.andThen_ok]
  exact hK _ _ h
theorem wpList_store_run {P : Program} {w w' : World} {ops : Array Oper} {rest : List Oper} {o : Oper} {a : Act} {Q : Exit → Act → World → Prop} (hg : o.guard = none) (ty : TypeId) (x y : Operand) (hop : o.op = .store ty x y)
    (p V : Value) (hx : a.eval x = p) (hy : a.eval y = V) (hst : (Instr.storeAt ty p V).run P w = .ok () w') (h : wpList P ops Q rest (a.put o.dst undef) w') : wpList P ops Q (o :: rest) a w := by
  refine wpList_plain hg fun K hK => ?_
  unfold Oper.wp execOp
  simp only [hop, hx, hy, hst, Sem.run_bind, Sem.run_pure, Result.andThen_ok]
  exact hK _ _ h
theorem setRow_below {n : Nat} {w0 w : World} (h : Below n w0 w) (g : Nat) (hg : n ≤ g) (cs : Array Value) : Below n w0 (w.setRow g cs) := below_setRow h hg cs
end Go.Proofs.YtljlbkichcjlfaaGreatDoor.Trc

namespace Go.Proofs.YtljlbkichcjlfaaGreatDoor.Trc
open Go.RowKit Go.Proofs.YtljlbkichcjlfaaGreatDoor.Mut Go.Proofs.YtljlbkichcjlfaaGreatDoor.Ints
set_option linter.unusedSectionVars false
variable [Inhabited Lim]

theorem info_Int : (Tryz.prog.info? 3).map (fun i => (i.zero, i.size, i.bytes)) = some (some (.int .i64 0), 1, 8) := by kernel_rfl
set_option maxHeartbeats 2000000 in
set_option maxRecDepth 100000 in
theorem clone_Int (ao : Option Addr) (ac : Nat) (l : List Int) (w : World) (ha : IRow w (.slice ao l.length ac) l) (hl : l.length ≤ 17592186043904) :
    Calls Tryz.prog 29 #[.slice ao l.length ac] w fun e w' => ∃ v, e = .returned v ∧ w'.ownsRow w.heap.size 3 1 v l.length (l.flatMap enI) ∧ Below w.heap.size w w' := by
  have q22 : ∀ (w : World) (a : Option Addr) (n c : Nat), (binOp .eql 24 (.slice a n c) (.slice none 0 0)).run Tryz.prog w = .ok (.bool a.isNone) w := fun w a n c => Lib.run_eql_slice_nil w _ _ a n c 0 0 Tryz.underlying24
  cases ao with
  | none =>
    have h0 : l = [] := by
      obtain ⟨ao', cap', hv, _, _, h3⟩ := ha
      cases hv
      rcases h3 with h3 | ⟨b, off, he, _⟩
      · exact List.eq_nil_of_length_eq_zero h3
      · cases he
    subst h0
    clear ha hl
    go_enter Tryz.func29, Tryz.ntmps29
    go_wp2_with fail
    go_ret
    exact ⟨_, rfl, World.ownsRow_nil _ _ _ _, Below.refl _ _⟩
  | some a =>
    obtain ⟨i0, hi, hz0, hz1, hz2⟩ : ∃ i : TypeInfo, Tryz.prog.info? 3 = some i ∧ i.zero = some (.int .i64 0) ∧ i.size = 1 ∧ i.bytes = 8 := by
      have h := info_Int
      cases hq : Tryz.prog.info? 3 with
      | none => simp [hq] at h
      | some i => simp [hq] at h; exact ⟨i, rfl, h.1, h.2.1, h.2.2⟩
    have HI := Lib.hid (And.intro hi (And.intro hz0 (And.intro hz1 hz2)))
    obtain ⟨G, hG⟩ : ∃ G, G = l.flatMap enI := ⟨_, rfl⟩
    have hGl : G.length = l.length * 1 := by rw [hG]; exact flatMap_len enI_len l
    have hc : ∀ j u, G[j]? = some u → w.cell? (a.add j) = some u := fun j u hu => by
      have hj := (List.getElem?_eq_some_iff.1 hu).1
      rw [hGl] at hj
      have hd : j / 1 < l.length := Nat.div_lt_of_lt_mul (by omega)
      obtain ⟨b, off, e, _, h⟩ := Lst.get ha hd
      cases e
      have h2 := h (j % 1) (Nat.mod_lt _ (by decide))
      have h3 := flatMap_get enI_len l (j / 1) _ (List.getElem?_eq_getElem hd) (j % 1) (Nat.mod_lt _ (by decide))
      rw [show j / 1 * 1 + j % 1 = j by omega, ← hG, hu] at h3
      rw [Addr.add_lit, show off + j = off + j / 1 * 1 + j % 1 by omega, h2, ← h3]
    have ho : ∀ u ∈ G, u.oneCell' = true := fun u hu => by
      rw [hG] at hu
      obtain ⟨x, _, hx⟩ := List.mem_flatMap.1 hu
      simp [enI] at hx
      rcases hx with rfl <;> rfl
    have HC := Lib.hid hc
    have HO := Lib.hid ho
    have HG := Lib.hid hG
    clear ha hi hz0 hz1 hz2 hc ho hG
    go_enter Tryz.func29, Tryz.ntmps29
    go_wp2_with (at_builtin; refine wpList_append_own _ rfl _ _ 24 rfl w.heap.size 3 i0 (.int .i64 0) 1 8 Tryz.underlying24 HI.out.1 HI.out.2.1 HI.out.2.2.1 HI.out.2.2.2 rfl (by decide) _ _ _ rfl (World.ownsRow_made w #[] 0 (Nat.le_refl _) (Nat.zero_le _) rfl) a l.length ac G rfl ?qc1 ?qc2 ?qc3 ?qc4 ?qc5 ?qc6 ?_)
    all_goals first
      | (case qc1 => omega)
      | (case qc2 => exact fun j u hu => Lib.cell?_alloc_some _ (HC.out j u hu))
      | (case qc3 => exact HO.out)
      | (case qc4 => unfold maxLen; omega)
      | (case qc5 => omega)
      | (case qc6 => simp)
      | skip
    intro v' w1 hown hgrow _
    have HR := Lib.hid (show w1.ownsRow w.heap.size 3 1 v' l.length (l.flatMap enI) from by rw [← HG.out]; simpa using hown)
    have HB := Lib.hid (show Below w.heap.size w w1 from ((Below.refl _ w).alloc (Nat.le_refl _) _).grown hgrow (by simp) (by intro k hk; simp [Value.ownBlock] at hk; omega))
    clear hown hgrow
    go_wp2_with fail
    go_ret
    exact ⟨v', rfl, HR.out, HB.out⟩

theorem info_Rw : (Tryz.prog.info? 49).map (fun i => (i.zero, i.size, i.bytes)) = some (some (.agg #[.string ⟨#[]⟩, .string ⟨#[]⟩, .int .i64 0, .int .i64 0, .int .i64 0]), 5, 56) := by kernel_rfl
set_option maxHeartbeats 2000000 in
set_option maxRecDepth 100000 in
theorem clone_Rw (ao : Option Addr) (ac : Nat) (l : List Rw) (w : World) (ha : WRow w (.slice ao l.length ac) l) (hl : l.length ≤ 100000) :
    Calls Tryz.prog 30 #[.slice ao l.length ac] w fun e w' => ∃ v, e = .returned v ∧ w'.ownsRow w.heap.size 49 5 v l.length (l.flatMap enRw) ∧ Below w.heap.size w w' := by
  have q22 : ∀ (w : World) (a : Option Addr) (n c : Nat), (binOp .eql 37 (.slice a n c) (.slice none 0 0)).run Tryz.prog w = .ok (.bool a.isNone) w := fun w a n c => Lib.run_eql_slice_nil w _ _ a n c 0 0 Tryz.underlying37
  cases ao with
  | none =>
    have h0 : l = [] := by
      obtain ⟨ao', cap', hv, _, _, h3⟩ := ha
      cases hv
      rcases h3 with h3 | ⟨b, off, he, _⟩
      · exact List.eq_nil_of_length_eq_zero h3
      · cases he
    subst h0
    clear ha hl
    go_enter Tryz.func30, Tryz.ntmps30
    go_wp2_with fail
    go_ret
    exact ⟨_, rfl, World.ownsRow_nil _ _ _ _, Below.refl _ _⟩
  | some a =>
    obtain ⟨i0, hi, hz0, hz1, hz2⟩ : ∃ i : TypeInfo, Tryz.prog.info? 49 = some i ∧ i.zero = some (.agg #[.string ⟨#[]⟩, .string ⟨#[]⟩, .int .i64 0, .int .i64 0, .int .i64 0]) ∧ i.size = 5 ∧ i.bytes = 56 := by
      have h := info_Rw
      cases hq : Tryz.prog.info? 49 with
      | none => simp [hq] at h
      | some i => simp [hq] at h; exact ⟨i, rfl, h.1, h.2.1, h.2.2⟩
    have HI := Lib.hid (And.intro hi (And.intro hz0 (And.intro hz1 hz2)))
    obtain ⟨G, hG⟩ : ∃ G, G = l.flatMap enRw := ⟨_, rfl⟩
    have hGl : G.length = l.length * 5 := by rw [hG]; exact flatMap_len enRw_len l
    have hc : ∀ j u, G[j]? = some u → w.cell? (a.add j) = some u := fun j u hu => by
      have hj := (List.getElem?_eq_some_iff.1 hu).1
      rw [hGl] at hj
      have hd : j / 5 < l.length := Nat.div_lt_of_lt_mul (by omega)
      obtain ⟨b, off, e, _, h⟩ := Lst.get ha hd
      cases e
      have h2 := h (j % 5) (Nat.mod_lt _ (by decide))
      have h3 := flatMap_get enRw_len l (j / 5) _ (List.getElem?_eq_getElem hd) (j % 5) (Nat.mod_lt _ (by decide))
      rw [show j / 5 * 5 + j % 5 = j by omega, ← hG, hu] at h3
      rw [Addr.add_lit, show off + j = off + j / 5 * 5 + j % 5 by omega, h2, ← h3]
    have ho : ∀ u ∈ G, u.oneCell' = true := fun u hu => by
      rw [hG] at hu
      obtain ⟨x, _, hx⟩ := List.mem_flatMap.1 hu
      simp [enRw] at hx
      rcases hx with rfl | rfl | rfl | rfl | rfl <;> rfl
    have HC := Lib.hid hc
    have HO := Lib.hid ho
    have HG := Lib.hid hG
    clear ha hi hz0 hz1 hz2 hc ho hG
    go_enter Tryz.func30, Tryz.ntmps30
    go_wp2_with (at_builtin; refine wpList_append_own _ rfl _ _ 37 rfl w.heap.size 49 i0 (.agg #[.string ⟨#[]⟩, .string ⟨#[]⟩, .int .i64 0, .int .i64 0, .int .i64 0]) 5 56 Tryz.underlying37 HI.out.1 HI.out.2.1 HI.out.2.2.1 HI.out.2.2.2 rfl (by decide) _ _ _ rfl (World.ownsRow_made w #[] 0 (Nat.le_refl _) (Nat.zero_le _) rfl) a l.length ac G rfl ?qc1 ?qc2 ?qc3 ?qc4 ?qc5 ?qc6 ?_)
    all_goals first
      | (case qc1 => omega)
      | (case qc2 => exact fun j u hu => Lib.cell?_alloc_some _ (HC.out j u hu))
      | (case qc3 => exact HO.out)
      | (case qc4 => unfold maxLen; omega)
      | (case qc5 => omega)
      | (case qc6 => simp)
      | skip
    intro v' w1 hown hgrow _
    have HR := Lib.hid (show w1.ownsRow w.heap.size 49 5 v' l.length (l.flatMap enRw) from by rw [← HG.out]; simpa using hown)
    have HB := Lib.hid (show Below w.heap.size w w1 from ((Below.refl _ w).alloc (Nat.le_refl _) _).grown hgrow (by simp) (by intro k hk; simp [Value.ownBlock] at hk; omega))
    clear hown hgrow
    go_wp2_with fail
    go_ret
    exact ⟨v', rfl, HR.out, HB.out⟩
end Go.Proofs.YtljlbkichcjlfaaGreatDoor.Trc

namespace Go.Proofs.YtljlbkichcjlfaaGreatDoor.Trc
open Go.RowKit Go.Proofs.YtljlbkichcjlfaaGreatDoor.RegInv Go.Proofs.YtljlbkichcjlfaaGreatDoor.Mut Go.Proofs.YtljlbkichcjlfaaGreatDoor.Ints
set_option linter.unusedSectionVars false
variable [Inhabited Lim]

def conZ : Con := ⟨[], [], []⟩
theorem okcZ : Okc conZ 0 := ⟨fun m hm => (by cases hm), Nat.le_refl _⟩
theorem repsZ : Reps (fun m => m ∈ conZ.all) conZ := Reps.none.same (fun m => by unfold conZ Con.all; simp)
/-- A content in memory made since base. -/
def CpC (base : Nat) (c : Con) (w : World) (a b d : Value) : Prop := Lies w a b d c ∧ Mut.Fresh base w a b d
theorem CpC.below {base : Nat} {c : Con} {w w' : World} {a b d : Value} (h : CpC base c w a b d) (hb : RowKit.Below w.heap.size w w') : CpC base c w' a b d := ⟨h.1.below hb, h.2.below hb⟩
theorem CpC.keep {base : Nat} {c : Con} {w w' : World} {a b d : Value} (h : CpC base c w a b d) (hk : KeepT 39 w w') : CpC base c w' a b d := by
  obtain ⟨⟨⟨A, eA, hA⟩, ⟨B, eB, hB⟩, ⟨D, eD, hD⟩⟩, ⟨⟨A', hA'⟩, ⟨B', hB'⟩, ⟨D', hD'⟩⟩⟩ := h
  have key : ∀ {v : Value} {R R' : List Ro}, MRow w v R → Copied w v R' base → Copied w' v R base := fun {v R R'} h k => by
    have h1 := copied_over h k
    exact ⟨hk.own h1.row (by decide), fun x hx => hk.own (h1.over x hx) (by decide)⟩
  have kA := key hA hA'
  have kB := key hB hB'
  have kD := key hD hD'
  exact ⟨⟨⟨A, eA, kA.mrow⟩, ⟨B, eB, kB.mrow⟩, ⟨D, eD, kD.mrow⟩⟩, ⟨⟨A, kA⟩, ⟨B, kB⟩, ⟨D, kD⟩⟩⟩
/-- A content comes back, in memory of its own. -/
def RetCp (c : Con) (w : World) (e : Ending) (w' : World) : Prop := ∃ a b d, e = .returned (.agg #[a, b, d]) ∧ CpC w.heap.size c w' a b d ∧ RowKit.Below w.heap.size w w'
theorem c_joinZ {c : Con} {v : Value} {n : Nat} {w : World} (hT : Tabs w) (hv : IsC c v w) (h : Mut.Good c n) (hn : n ≤ 80000) : Calls Tryz.prog 28 #[.agg #[.slice none 0 0, .slice none 0 0, .slice none 0 0], v] w (RetCp c w) := by
  obtain ⟨a', b', d', rfl, hl'⟩ := hv
  refine (join_anyF _ _ _ a' b' d' conZ c _ _ 0 n w hT (Lies.none w) repsZ okcZ hl' h.reps h.okc (by omega)).mono ?_
  rintro e w' ⟨a, b, d, c2, rfl, hl, hr, -, hb, hf⟩
  have e2 : c2 = c := by
    have h1 : c2 = Mut.leftOf c.all := leftOf_eq (hr.same fun m => by rw [h.fits]; unfold conZ Con.all; simp)
    rw [h1, h.left]
  rw [e2] at hl
  exact ⟨a, b, d, rfl, ⟨hl, hf w.heap.size ⟨Nat.le_refl _, Mut.Fresh.nil _ _⟩⟩, hb⟩

theorem size_Ev : (Tryz.prog.info? 39).map (·.size) = some 33 := by kernel_rfl
theorem size_Mu : (Tryz.prog.info? 32).map (·.size) = some 10 := by kernel_rfl
theorem size_Co : (Tryz.prog.info? 35).map (·.size) = some 3 := by kernel_rfl

/-- What Join hands back: a content of which something is known. -/
def JoinP (KC : World → Value → Value → Value → Prop) (w : World) (e : Ending) (w' : World) : Prop := ∃ o1 n1 k1 o2 n2 k2 o3 n3 k3, e = .returned (.agg #[.slice o1 n1 k1, .slice o2 n2 k2, .slice o3 n3 k3]) ∧ KC w' (.slice o1 n1 k1) (.slice o2 n2 k2) (.slice o3 n3 k3) ∧ Below w.heap.size w w'
theorem join_good {c : Con} {v : Value} {n : Nat} {w : World} (base : Nat) (hb : base ≤ w.heap.size) (hT : Tabs w) (hv : IsC c v w) (h : Mut.Good c n) (hn : n ≤ 80000) : Calls Tryz.prog 28 #[.agg #[.slice none 0 0, .slice none 0 0, .slice none 0 0], v] w (JoinP (CpC base c) w) := by
  refine (c_joinZ hT hv h hn).mono ?_
  rintro e w' ⟨a, b, d, rfl, hcp, hb'⟩
  obtain ⟨a1, a2, a3, ea⟩ := hcp.1.cells.slice
  obtain ⟨b1, b2, b3, eb⟩ := hcp.1.wipes.slice
  obtain ⟨d1, d2, d3, ed⟩ := hcp.1.sibs.slice
  subst ea eb ed
  exact ⟨a1, a2, a3, b1, b2, b3, d1, d2, d3, rfl, ⟨hcp.1, hcp.2.1.imp fun _ h => h.base hb, hcp.2.2.1.imp fun _ h => h.base hb, hcp.2.2.2.imp fun _ h => h.base hb⟩, hb'⟩
/-- A copy comes back: the same, in memory of its own. -/
def CopE (KC : World → Value → Value → Value → Prop) (w : World) (e : Ev) (Q NN : List Int) (R : List Rw) (X : List Stp) (r : Ending) (w' : World) : Prop :=
  ∃ mv a b d q n rr x, r = .returned (vE { e with m := (e.m.1, mv), ca := a, cb := b, cd := d, qv := q, nv := n, rv := rr, cv := x }) ∧ Below w.heap.size w w' ∧
    Over w' (e.m.1, mv) ∧ KC w' a b d ∧ w'.ownsRow w.heap.size 3 1 q Q.length (Q.flatMap enI) ∧ w'.ownsRow w.heap.size 3 1 n NN.length (NN.flatMap enI) ∧ w'.ownsRow w.heap.size 49 5 rr R.length (R.flatMap enRw) ∧ w'.ownsRow w.heap.size 29 3 x X.length (X.flatMap enS)

set_option maxRecDepth 100000 in
set_option maxHeartbeats 4000000 in
theorem copyE_any (KC : World → Value → Value → Value → Prop) (hKC : ∀ W W' a b d, KC W a b d → KeepT 39 W W' → KC W' a b d) (e : Ev) (Q NN : List Int) (R : List Rw) (X : List Stp) (w : World) (hm : Over w e.m) (hmo : e.m.1.over.length ≤ 1000000) (hq : IRow w e.qv Q) (hql : Q.length ≤ 100000) (hn : IRow w e.nv NN) (hnl : NN.length ≤ 17592186043904)
    (hr : WRow w e.rv R) (hrl : R.length ≤ 100000) (hx : SRow w e.cv X) (hxl : X.length ≤ 1000000)
    (hJ : ∀ W, Below w.heap.size w W → Calls Tryz.prog 28 #[.agg #[.slice none 0 0, .slice none 0 0, .slice none 0 0], .agg #[e.ca, e.cb, e.cd]] W (JoinP KC W)) :
    Calls Tryz.prog 13 #[vE e] w (CopE KC w e Q NN R X) := by
  obtain ⟨kind, node, rng, op, ⟨⟨mt, mk, mkey, mfin, mval, mexp, ⟨map, mal, maw⟩, movr⟩, mv⟩, ca, cb, cd, ⟨sp, sl, sw⟩, ⟨bp, bl, bw⟩, quar, why, qv, nv, no, table, key, fin, rv, cv⟩ := e
  simp only [] at hm hmo hq hn hr hx hJ
  obtain ⟨qo, qc, rfl, -, -⟩ := Lst.form hq
  obtain ⟨no_, nc, rfl, -, -⟩ := Lst.form hn
  obtain ⟨ro, rc, rfl, -, -⟩ := Lst.form hr
  obtain ⟨xo, xc, rfl, -, -⟩ := Lst.form hx
  have HM := Lib.hid (fun W (h : Below w.heap.size w W) => copy_any _ W (hm.below h) hmo)
  unfold vM at HM
  simp only [] at HM
  have HJ := Lib.hid hJ
  have HKC := Lib.hid hKC
  have HQ := Lib.hid (fun W (h : Below w.heap.size w W) => clone_Int qo qc Q W (hq.below h) (by omega))
  have HN := Lib.hid (fun W (h : Below w.heap.size w W) => clone_Int no_ nc NN W (hn.below h) hnl)
  have HR := Lib.hid (fun W (h : Below w.heap.size w W) => clone_Rw ro rc R W (hr.below h) hrl)
  have HX := Lib.hid (fun W (h : Below w.heap.size w W) => cloneS_any xo xc X W (Lst.below hx h) (flatS_one _) hxl)
  clear hm hmo hq hn hnl hr hrl hx hxl hJ hKC hql
  obtain ⟨W0, hW0⟩ : ∃ W0, W0 = (w.alloc (.cells #[.int .i64 kind, .int .i64 node, .int .i64 rng, .int .i64 op, .int .i64 mt, .int .i64 mk, .string mkey, .string mfin, .string mval, .int .i64 mexp, .int .i64 map, .int .i64 mal, .int .i64 maw, mv, ca, cb, cd, .int .i64 sp, .int .i64 sl, .int .i64 sw, .int .i64 bp, .int .i64 bl, .int .i64 bw, .bool quar, .int .i64 why, .slice qo Q.length qc, .slice no_ NN.length nc, .int .i64 no, .int .i64 table, .string key, .string fin, .slice ro R.length rc, .slice xo X.length xc] 39)).alloc (.cells #[.int .i64 0, .int .i64 0, .int .i64 0, .int .i64 0, .int .i64 0, .int .i64 0, .string ⟨#[]⟩, .string ⟨#[]⟩, .string ⟨#[]⟩, .int .i64 0, .int .i64 0, .int .i64 0, .int .i64 0, .slice none 0 0, .slice none 0 0, .slice none 0 0, .slice none 0 0, .int .i64 0, .int .i64 0, .int .i64 0, .int .i64 0, .int .i64 0, .int .i64 0, .bool false, .int .i64 0, .slice none 0 0, .slice none 0 0, .int .i64 0, .int .i64 0, .string ⟨#[]⟩, .string ⟨#[]⟩, .slice none 0 0, .slice none 0 0] 39) := ⟨_, rfl⟩
  have hb0 : Below w.heap.size w W0 := by rw [hW0]; exact ((Below.refl _ w).alloc (Nat.le_refl _) _).alloc (by simp) _
  have hP0 : VarAt W0 w.heap.size 39 [.int .i64 kind, .int .i64 node, .int .i64 rng, .int .i64 op, .int .i64 mt, .int .i64 mk, .string mkey, .string mfin, .string mval, .int .i64 mexp, .int .i64 map, .int .i64 mal, .int .i64 maw, mv, ca, cb, cd, .int .i64 sp, .int .i64 sl, .int .i64 sw, .int .i64 bp, .int .i64 bl, .int .i64 bw, .bool quar, .int .i64 why, .slice qo Q.length qc, .slice no_ NN.length nc, .int .i64 no, .int .i64 table, .string key, .string fin, .slice ro R.length rc, .slice xo X.length xc] := by
    rw [hW0]; exact (VarAt.new w 39 [.int .i64 kind, .int .i64 node, .int .i64 rng, .int .i64 op, .int .i64 mt, .int .i64 mk, .string mkey, .string mfin, .string mval, .int .i64 mexp, .int .i64 map, .int .i64 mal, .int .i64 maw, mv, ca, cb, cd, .int .i64 sp, .int .i64 sl, .int .i64 sw, .int .i64 bp, .int .i64 bl, .int .i64 bw, .bool quar, .int .i64 why, .slice qo Q.length qc, .slice no_ NN.length nc, .int .i64 no, .int .i64 table, .string key, .string fin, .slice ro R.length rc, .slice xo X.length xc]).below ((Below.refl _ _).alloc (Nat.le_refl _) _)
  have hZ0 : VarAt W0 (w.heap.size + 1) 39 [.int .i64 0, .int .i64 0, .int .i64 0, .int .i64 0, .int .i64 0, .int .i64 0, .string ⟨#[]⟩, .string ⟨#[]⟩, .string ⟨#[]⟩, .int .i64 0, .int .i64 0, .int .i64 0, .int .i64 0, .slice none 0 0, .slice none 0 0, .slice none 0 0, .slice none 0 0, .int .i64 0, .int .i64 0, .int .i64 0, .int .i64 0, .int .i64 0, .int .i64 0, .bool false, .int .i64 0, .slice none 0 0, .slice none 0 0, .int .i64 0, .int .i64 0, .string ⟨#[]⟩, .string ⟨#[]⟩, .slice none 0 0, .slice none 0 0] := by
    rw [hW0]
    have h := VarAt.new (w.alloc (.cells #[.int .i64 kind, .int .i64 node, .int .i64 rng, .int .i64 op, .int .i64 mt, .int .i64 mk, .string mkey, .string mfin, .string mval, .int .i64 mexp, .int .i64 map, .int .i64 mal, .int .i64 maw, mv, ca, cb, cd, .int .i64 sp, .int .i64 sl, .int .i64 sw, .int .i64 bp, .int .i64 bl, .int .i64 bw, .bool quar, .int .i64 why, .slice qo Q.length qc, .slice no_ NN.length nc, .int .i64 no, .int .i64 table, .string key, .string fin, .slice ro R.length rc, .slice xo X.length xc] 39)) 39 [.int .i64 0, .int .i64 0, .int .i64 0, .int .i64 0, .int .i64 0, .int .i64 0, .string ⟨#[]⟩, .string ⟨#[]⟩, .string ⟨#[]⟩, .int .i64 0, .int .i64 0, .int .i64 0, .int .i64 0, .slice none 0 0, .slice none 0 0, .slice none 0 0, .slice none 0 0, .int .i64 0, .int .i64 0, .int .i64 0, .int .i64 0, .int .i64 0, .int .i64 0, .bool false, .int .i64 0, .slice none 0 0, .slice none 0 0, .int .i64 0, .int .i64 0, .string ⟨#[]⟩, .string ⟨#[]⟩, .slice none 0 0, .slice none 0 0]
    rwa [World.size_alloc] at h
  have HL0 := Lib.hid (hP0.load 4 32 [.int .i64 mt, .int .i64 mk, .string mkey, .string mfin, .string mval, .int .i64 mexp, .int .i64 map, .int .i64 mal, .int .i64 maw, mv] _ (by kernel_rfl) Tryz.underlying32 rfl size_Mu)
  have HB0 := Lib.hid hb0
  have HP0 := Lib.hid hP0
  have HZ0 := Lib.hid hZ0
  have HW0 := Lib.hid hW0
  clear hW0 hb0 hP0 hZ0
  unfold vE enE
  simp only []
  go_enter Tryz.func13, Tryz.ntmps13
  go_upto_region 1 with fail
  rw [← HW0.out]
  go_wp2_with (refine wpList_load_run rfl 32 _ rfl (.pointer (some ⟨w.heap.size, 4, none⟩)) (.agg #[.int .i64 mt, .int .i64 mk, .string mkey, .string mfin, .string mval, .int .i64 mexp, .int .i64 map, .int .i64 mal, .int .i64 maw, mv]) rfl HL0.out ?_)
  refine (HM.out W0 HB0.out).mono ?_
  rintro e w1 ⟨v1, rfl, ⟨vo, vc, rfl⟩, hown1, hb1⟩
  obtain ⟨m1, hm1⟩ : ∃ m1, m1 = movr.length := ⟨_, rfl⟩
  simp only [] at hown1 ⊢
  rw [← hm1] at hown1
  rw [← hm1]
  have hP1 := HP0.out.below hb1
  obtain ⟨W1, hW1⟩ : ∃ W1, W1 = w1.setRow w.heap.size #[.int .i64 kind, .int .i64 node, .int .i64 rng, .int .i64 op, .int .i64 mt, .int .i64 mk, .string mkey, .string mfin, .string mval, .int .i64 mexp, .int .i64 map, .int .i64 mal, .int .i64 maw, .slice vo m1 vc, ca, cb, cd, .int .i64 sp, .int .i64 sl, .int .i64 sw, .int .i64 bp, .int .i64 bl, .int .i64 bw, .bool quar, .int .i64 why, .slice qo Q.length qc, .slice no_ NN.length nc, .int .i64 no, .int .i64 table, .string key, .string fin, .slice ro R.length rc, .slice xo X.length xc] := ⟨_, rfl⟩
  have hs1 : (Instr.storeAt 32 (.pointer (some ⟨w.heap.size, 4, none⟩)) (.agg #[.int .i64 mt, .int .i64 mk, .string mkey, .string mfin, .string mval, .int .i64 mexp, .int .i64 map, .int .i64 mal, .int .i64 maw, .slice vo m1 vc])).run Tryz.prog w1 = .ok () W1 := by rw [hW1]; exact hP1.storeK 4 32 [.int .i64 mt, .int .i64 mk, .string mkey, .string mfin, .string mval, .int .i64 mexp, .int .i64 map, .int .i64 mal, .int .i64 maw, .slice vo m1 vc] (by kernel_rfl) size_Mu (by kernel_rfl) (by kernel_rfl)
  have hQ1 : VarAt W1 w.heap.size 39 [.int .i64 kind, .int .i64 node, .int .i64 rng, .int .i64 op, .int .i64 mt, .int .i64 mk, .string mkey, .string mfin, .string mval, .int .i64 mexp, .int .i64 map, .int .i64 mal, .int .i64 maw, .slice vo m1 vc, ca, cb, cd, .int .i64 sp, .int .i64 sl, .int .i64 sw, .int .i64 bp, .int .i64 bl, .int .i64 bw, .bool quar, .int .i64 why, .slice qo Q.length qc, .slice no_ NN.length nc, .int .i64 no, .int .i64 table, .string key, .string fin, .slice ro R.length rc, .slice xo X.length xc] := by rw [hW1]; exact hP1.row [.int .i64 kind, .int .i64 node, .int .i64 rng, .int .i64 op, .int .i64 mt, .int .i64 mk, .string mkey, .string mfin, .string mval, .int .i64 mexp, .int .i64 map, .int .i64 mal, .int .i64 maw, .slice vo m1 vc, ca, cb, cd, .int .i64 sp, .int .i64 sl, .int .i64 sw, .int .i64 bp, .int .i64 bl, .int .i64 bw, .bool quar, .int .i64 why, .slice qo Q.length qc, .slice no_ NN.length nc, .int .i64 no, .int .i64 table, .string key, .string fin, .slice ro R.length rc, .slice xo X.length xc]
  have hZ1 : VarAt W1 (w.heap.size + 1) 39 [.int .i64 0, .int .i64 0, .int .i64 0, .int .i64 0, .int .i64 0, .int .i64 0, .string ⟨#[]⟩, .string ⟨#[]⟩, .string ⟨#[]⟩, .int .i64 0, .int .i64 0, .int .i64 0, .int .i64 0, .slice none 0 0, .slice none 0 0, .slice none 0 0, .slice none 0 0, .int .i64 0, .int .i64 0, .int .i64 0, .int .i64 0, .int .i64 0, .int .i64 0, .bool false, .int .i64 0, .slice none 0 0, .slice none 0 0, .int .i64 0, .int .i64 0, .string ⟨#[]⟩, .string ⟨#[]⟩, .slice none 0 0, .slice none 0 0] := by rw [hW1]; exact (HZ0.out.below hb1).row_other _ (by omega)
  have hk1 : KeepT 39 w1 W1 := by rw [hW1]; exact KeepT.row hP1 _
  have hB1 : Below w.heap.size w W1 := by rw [hW1]; exact setRow_below (below_then HB0.out (Nat.le_refl _) hb1) _ (Nat.le_refl _) _
  have HO1 := Lib.hid (own_base (hk1.own hown1 (by decide)) HB0.out.size)
  have HS1 := Lib.hid hs1
  have HL1 := Lib.hid (hQ1.load 14 35 [ca, cb, cd] _ (by kernel_rfl) Tryz.underlying35 rfl size_Co)
  have HP1 := Lib.hid hQ1
  have HZ1 := Lib.hid hZ1
  have HB1 := Lib.hid hB1
  have HM1 := Lib.hid hm1
  clear hW1 hs1 hQ1 hZ1 hk1 hB1 hown1 hP1 hb1 hm1
  go_wp2_with (first | (refine wpList_store_run rfl 32 _ _ rfl (.pointer (some ⟨w.heap.size, 4, none⟩)) (.agg #[.int .i64 mt, .int .i64 mk, .string mkey, .string mfin, .string mval, .int .i64 mexp, .int .i64 map, .int .i64 mal, .int .i64 maw, .slice vo m1 vc]) rfl rfl HS1.out ?_) | (refine wpList_load_run rfl 35 _ rfl (.pointer (some ⟨w.heap.size, 14, none⟩)) (.agg #[ca, cb, cd]) rfl HL1.out ?_))
  refine (HJ.out W1 HB1.out).mono ?_
  rintro e w2 ⟨a1, a2, a3, b1, b2, b3, d1, d2, d3, rfl, hcp, hb2⟩
  have hP2 := HP1.out.below hb2
  obtain ⟨W2, hW2⟩ : ∃ W2, W2 = w2.setRow w.heap.size #[.int .i64 kind, .int .i64 node, .int .i64 rng, .int .i64 op, .int .i64 mt, .int .i64 mk, .string mkey, .string mfin, .string mval, .int .i64 mexp, .int .i64 map, .int .i64 mal, .int .i64 maw, .slice vo m1 vc, .slice a1 a2 a3, .slice b1 b2 b3, .slice d1 d2 d3, .int .i64 sp, .int .i64 sl, .int .i64 sw, .int .i64 bp, .int .i64 bl, .int .i64 bw, .bool quar, .int .i64 why, .slice qo Q.length qc, .slice no_ NN.length nc, .int .i64 no, .int .i64 table, .string key, .string fin, .slice ro R.length rc, .slice xo X.length xc] := ⟨_, rfl⟩
  have hs2 : (Instr.storeAt 35 (.pointer (some ⟨w.heap.size, 14, none⟩)) (.agg #[.slice a1 a2 a3, .slice b1 b2 b3, .slice d1 d2 d3])).run Tryz.prog w2 = .ok () W2 := by rw [hW2]; exact hP2.storeK 14 35 [.slice a1 a2 a3, .slice b1 b2 b3, .slice d1 d2 d3] (by kernel_rfl) size_Co (by kernel_rfl) (by kernel_rfl)
  have hQ2 : VarAt W2 w.heap.size 39 [.int .i64 kind, .int .i64 node, .int .i64 rng, .int .i64 op, .int .i64 mt, .int .i64 mk, .string mkey, .string mfin, .string mval, .int .i64 mexp, .int .i64 map, .int .i64 mal, .int .i64 maw, .slice vo m1 vc, .slice a1 a2 a3, .slice b1 b2 b3, .slice d1 d2 d3, .int .i64 sp, .int .i64 sl, .int .i64 sw, .int .i64 bp, .int .i64 bl, .int .i64 bw, .bool quar, .int .i64 why, .slice qo Q.length qc, .slice no_ NN.length nc, .int .i64 no, .int .i64 table, .string key, .string fin, .slice ro R.length rc, .slice xo X.length xc] := by rw [hW2]; exact hP2.row [.int .i64 kind, .int .i64 node, .int .i64 rng, .int .i64 op, .int .i64 mt, .int .i64 mk, .string mkey, .string mfin, .string mval, .int .i64 mexp, .int .i64 map, .int .i64 mal, .int .i64 maw, .slice vo m1 vc, .slice a1 a2 a3, .slice b1 b2 b3, .slice d1 d2 d3, .int .i64 sp, .int .i64 sl, .int .i64 sw, .int .i64 bp, .int .i64 bl, .int .i64 bw, .bool quar, .int .i64 why, .slice qo Q.length qc, .slice no_ NN.length nc, .int .i64 no, .int .i64 table, .string key, .string fin, .slice ro R.length rc, .slice xo X.length xc]
  have hZ2 : VarAt W2 (w.heap.size + 1) 39 [.int .i64 0, .int .i64 0, .int .i64 0, .int .i64 0, .int .i64 0, .int .i64 0, .string ⟨#[]⟩, .string ⟨#[]⟩, .string ⟨#[]⟩, .int .i64 0, .int .i64 0, .int .i64 0, .int .i64 0, .slice none 0 0, .slice none 0 0, .slice none 0 0, .slice none 0 0, .int .i64 0, .int .i64 0, .int .i64 0, .int .i64 0, .int .i64 0, .int .i64 0, .bool false, .int .i64 0, .slice none 0 0, .slice none 0 0, .int .i64 0, .int .i64 0, .string ⟨#[]⟩, .string ⟨#[]⟩, .slice none 0 0, .slice none 0 0] := by rw [hW2]; exact (HZ1.out.below hb2).row_other _ (by omega)
  have hk2 : KeepT 39 w2 W2 := by rw [hW2]; exact KeepT.row hP2 _
  have hB2 : Below w.heap.size w W2 := by rw [hW2]; exact setRow_below (below_then HB1.out (Nat.le_refl _) hb2) _ (Nat.le_refl _) _
  have HO2 := Lib.hid (hk2.own (row_below HO1.out hb2) (by decide))
  have HC2 := Lib.hid (HKC.out _ _ _ _ _ hcp hk2)
  have HS2 := Lib.hid hs2
  have HP2 := Lib.hid hQ2
  have HZ2 := Lib.hid hZ2
  have HB2 := Lib.hid hB2
  clear hW2 hs2 hQ2 hZ2 hk2 hB2 hcp hP2 hb2
  go_wp2_with (refine wpList_store_run rfl 35 _ _ rfl (.pointer (some ⟨w.heap.size, 14, none⟩)) (.agg #[.slice a1 a2 a3, .slice b1 b2 b3, .slice d1 d2 d3]) rfl rfl HS2.out ?_)
  simp only [Act.put]
  refine wp_region_told [] 13 [false, false, false, false, false, false, false, false, false, false, false, false, true, true, true, true, true, true, true, true, true, true, true, true, true, false, false, false, false]
    [sLit (.pointer (some ⟨w.heap.size, 25, none⟩)),
    sLit (.slice qo Q.length qc),
    sOne (fun v W => W.ownsRow w.heap.size 3 1 v Q.length (Q.flatMap enI)) (fun _ _ _ h hb => row_below h hb),
    sLit (.pointer (some ⟨w.heap.size, 26, none⟩)),
    sLit (.slice no_ NN.length nc),
    sOne (fun v W => W.ownsRow w.heap.size 3 1 v NN.length (NN.flatMap enI)) (fun _ _ _ h hb => row_below h hb),
    sLit (.pointer (some ⟨w.heap.size, 31, none⟩)),
    sLit (.slice ro R.length rc),
    sOne (fun v W => W.ownsRow w.heap.size 49 5 v R.length (R.flatMap enRw)) (fun _ _ _ h hb => row_below h hb),
    sLit (.pointer (some ⟨w.heap.size, 32, none⟩)),
    sLit (.slice xo X.length xc),
    sOne (fun v W => W.ownsRow w.heap.size 29 3 v X.length (X.flatMap enS)) (fun _ _ _ h hb => row_below h hb),
    sLit (.pointer (some ⟨w.heap.size, 25, none⟩))] (by kernel_rfl) (by kernel_rfl) (by kernel_rfl) (fun F hF => ?_)
  simp only [over, overL, Nat.reduceAdd] at hF
  obtain rfl := funext hF
  clear hF
  refine ⟨⟨?_, ?_, ?_, ?_, ?_, ?_, ?_, ?_, ?_, ?_, ?_, ?_, ?_, trivial⟩, ?_⟩
  · intro V W hb hd K hK _
    clear hd
    go_wp2_with fail
    refine hK _ _ ?_ ?_ ?_ ?_
    · rfl
    · exact Below.refl _ _
    · exact rfl
    · trivial
  · intro V W hb hd K hK _
    have h0 : (V 12) = .pointer (some ⟨w.heap.size, 25, none⟩) := hd 0 (by kernel_rfl)
    clear hd
    have s25 := (HP2.out.below hb).get (k := 25) rfl
    go_wp2_with fail
    refine hK _ _ ?_ ?_ ?_ ?_
    · rfl
    · exact Below.refl _ _
    · exact rfl
    · trivial
  · intro V W hb hd K hK _
    have h1 : (V 13) = .slice qo Q.length qc := hd 1 (by kernel_rfl)
    clear hd
    have hsz : w.heap.size ≤ W.heap.size := Nat.le_trans HB2.out.size hb.size
    go_wp2_with fail
    refine (HQ.out W (HB2.out.trans (hb.mono HB2.out.size))).mono ?_
    rintro e w1 ⟨v1, rfl, g1, hb1⟩
    go_wp2_with fail
    refine hK _ _ ?_ ?_ ?_ ?_
    · rfl
    · exact hb1
    · exact own_base g1 hsz
    · trivial
  · intro V W hb hd K hK _
    clear hd
    go_wp2_with fail
    refine hK _ _ ?_ ?_ ?_ ?_
    · rfl
    · exact Below.refl _ _
    · exact rfl
    · trivial
  · intro V W hb hd K hK _
    have h3 : (V 15) = .pointer (some ⟨w.heap.size, 26, none⟩) := hd 3 (by kernel_rfl)
    clear hd
    have s26 := (HP2.out.below hb).get (k := 26) rfl
    go_wp2_with fail
    refine hK _ _ ?_ ?_ ?_ ?_
    · rfl
    · exact Below.refl _ _
    · exact rfl
    · trivial
  · intro V W hb hd K hK _
    have h4 : (V 16) = .slice no_ NN.length nc := hd 4 (by kernel_rfl)
    clear hd
    have hsz : w.heap.size ≤ W.heap.size := Nat.le_trans HB2.out.size hb.size
    go_wp2_with fail
    refine (HN.out W (HB2.out.trans (hb.mono HB2.out.size))).mono ?_
    rintro e w1 ⟨v1, rfl, g1, hb1⟩
    go_wp2_with fail
    refine hK _ _ ?_ ?_ ?_ ?_
    · rfl
    · exact hb1
    · exact own_base g1 hsz
    · trivial
  · intro V W hb hd K hK _
    clear hd
    go_wp2_with fail
    refine hK _ _ ?_ ?_ ?_ ?_
    · rfl
    · exact Below.refl _ _
    · exact rfl
    · trivial
  · intro V W hb hd K hK _
    have h6 : (V 18) = .pointer (some ⟨w.heap.size, 31, none⟩) := hd 6 (by kernel_rfl)
    clear hd
    have s31 := (HP2.out.below hb).get (k := 31) rfl
    go_wp2_with fail
    refine hK _ _ ?_ ?_ ?_ ?_
    · rfl
    · exact Below.refl _ _
    · exact rfl
    · trivial
  · intro V W hb hd K hK _
    have h7 : (V 19) = .slice ro R.length rc := hd 7 (by kernel_rfl)
    clear hd
    have hsz : w.heap.size ≤ W.heap.size := Nat.le_trans HB2.out.size hb.size
    go_wp2_with fail
    refine (HR.out W (HB2.out.trans (hb.mono HB2.out.size))).mono ?_
    rintro e w1 ⟨v1, rfl, g1, hb1⟩
    go_wp2_with fail
    refine hK _ _ ?_ ?_ ?_ ?_
    · rfl
    · exact hb1
    · exact own_base g1 hsz
    · trivial
  · intro V W hb hd K hK _
    clear hd
    go_wp2_with fail
    refine hK _ _ ?_ ?_ ?_ ?_
    · rfl
    · exact Below.refl _ _
    · exact rfl
    · trivial
  · intro V W hb hd K hK _
    have h9 : (V 21) = .pointer (some ⟨w.heap.size, 32, none⟩) := hd 9 (by kernel_rfl)
    clear hd
    have s32 := (HP2.out.below hb).get (k := 32) rfl
    go_wp2_with fail
    refine hK _ _ ?_ ?_ ?_ ?_
    · rfl
    · exact Below.refl _ _
    · exact rfl
    · trivial
  · intro V W hb hd K hK _
    have h10 : (V 22) = .slice xo X.length xc := hd 10 (by kernel_rfl)
    clear hd
    have hsz : w.heap.size ≤ W.heap.size := Nat.le_trans HB2.out.size hb.size
    go_wp2_with fail
    refine (HX.out W (HB2.out.trans (hb.mono HB2.out.size))).mono ?_
    rintro e w1 ⟨v1, rfl, g1, hb1⟩
    go_wp2_with fail
    refine hK _ _ ?_ ?_ ?_ ?_
    · rfl
    · exact hb1
    · exact own_base g1 hsz
    · trivial
  · intro V W hb hd K hK _
    clear hd
    go_wp2_with fail
    refine hK _ _ ?_ ?_ ?_ ?_
    · rfl
    · exact Below.refl _ _
    · exact rfl
    · trivial
  · intro V W hb hd hap
    have h2 : W.ownsRow w.heap.size 3 1 (V 14) Q.length (Q.flatMap enI) := hd 2 (by decide)
    have h5 : W.ownsRow w.heap.size 3 1 (V 17) NN.length (NN.flatMap enI) := hd 5 (by decide)
    have h8 : W.ownsRow w.heap.size 49 5 (V 20) R.length (R.flatMap enRw) := hd 8 (by decide)
    have h11 : W.ownsRow w.heap.size 29 3 (V 23) X.length (X.flatMap enS) := hd 11 (by decide)
    have h12 : (V 24) = .pointer (some ⟨w.heap.size, 25, none⟩) := hd 12 (by decide)
    clear hd hap
    simp only [List.drop_succ_cons, List.drop_zero]
    obtain ⟨q1, q3, e2⟩ := row_form h2
    obtain ⟨l1, l3, e5⟩ := row_form h5
    obtain ⟨r1, r3, e8⟩ := row_form h8
    obtain ⟨x1, x3, e11⟩ := row_form h11
    rw [e2] at h2
    rw [e5] at h5
    rw [e8] at h8
    rw [e11] at h11
    have hQ3 := HP2.out.below hb
    have hZ3 := HZ2.out.below hb
    obtain ⟨Wf, hWf⟩ : ∃ Wf, Wf = (((W.setCell ⟨w.heap.size, 25, none⟩ (.slice q1 Q.length q3)).setCell ⟨w.heap.size, 26, none⟩ (.slice l1 NN.length l3)).setCell ⟨w.heap.size, 31, none⟩ (.slice r1 R.length r3)).setCell ⟨w.heap.size, 32, none⟩ (.slice x1 X.length x3) := ⟨_, rfl⟩
    have hSa : VarAt (W.setCell ⟨w.heap.size, 25, none⟩ (.slice q1 Q.length q3)) w.heap.size 39 [.int .i64 kind, .int .i64 node, .int .i64 rng, .int .i64 op, .int .i64 mt, .int .i64 mk, .string mkey, .string mfin, .string mval, .int .i64 mexp, .int .i64 map, .int .i64 mal, .int .i64 maw, .slice vo m1 vc, .slice a1 a2 a3, .slice b1 b2 b3, .slice d1 d2 d3, .int .i64 sp, .int .i64 sl, .int .i64 sw, .int .i64 bp, .int .i64 bl, .int .i64 bw, .bool quar, .int .i64 why, .slice q1 Q.length q3, .slice no_ NN.length nc, .int .i64 no, .int .i64 table, .string key, .string fin, .slice ro R.length rc, .slice xo X.length xc] := hQ3.setK 25 _ (by kernel_rfl)
    have hSb : VarAt ((W.setCell ⟨w.heap.size, 25, none⟩ (.slice q1 Q.length q3)).setCell ⟨w.heap.size, 26, none⟩ (.slice l1 NN.length l3)) w.heap.size 39 [.int .i64 kind, .int .i64 node, .int .i64 rng, .int .i64 op, .int .i64 mt, .int .i64 mk, .string mkey, .string mfin, .string mval, .int .i64 mexp, .int .i64 map, .int .i64 mal, .int .i64 maw, .slice vo m1 vc, .slice a1 a2 a3, .slice b1 b2 b3, .slice d1 d2 d3, .int .i64 sp, .int .i64 sl, .int .i64 sw, .int .i64 bp, .int .i64 bl, .int .i64 bw, .bool quar, .int .i64 why, .slice q1 Q.length q3, .slice l1 NN.length l3, .int .i64 no, .int .i64 table, .string key, .string fin, .slice ro R.length rc, .slice xo X.length xc] := hSa.setK 26 _ (by kernel_rfl)
    have hSc : VarAt (((W.setCell ⟨w.heap.size, 25, none⟩ (.slice q1 Q.length q3)).setCell ⟨w.heap.size, 26, none⟩ (.slice l1 NN.length l3)).setCell ⟨w.heap.size, 31, none⟩ (.slice r1 R.length r3)) w.heap.size 39 [.int .i64 kind, .int .i64 node, .int .i64 rng, .int .i64 op, .int .i64 mt, .int .i64 mk, .string mkey, .string mfin, .string mval, .int .i64 mexp, .int .i64 map, .int .i64 mal, .int .i64 maw, .slice vo m1 vc, .slice a1 a2 a3, .slice b1 b2 b3, .slice d1 d2 d3, .int .i64 sp, .int .i64 sl, .int .i64 sw, .int .i64 bp, .int .i64 bl, .int .i64 bw, .bool quar, .int .i64 why, .slice q1 Q.length q3, .slice l1 NN.length l3, .int .i64 no, .int .i64 table, .string key, .string fin, .slice r1 R.length r3, .slice xo X.length xc] := hSb.setK 31 _ (by kernel_rfl)
    have hSd : VarAt ((((W.setCell ⟨w.heap.size, 25, none⟩ (.slice q1 Q.length q3)).setCell ⟨w.heap.size, 26, none⟩ (.slice l1 NN.length l3)).setCell ⟨w.heap.size, 31, none⟩ (.slice r1 R.length r3)).setCell ⟨w.heap.size, 32, none⟩ (.slice x1 X.length x3)) w.heap.size 39 [.int .i64 kind, .int .i64 node, .int .i64 rng, .int .i64 op, .int .i64 mt, .int .i64 mk, .string mkey, .string mfin, .string mval, .int .i64 mexp, .int .i64 map, .int .i64 mal, .int .i64 maw, .slice vo m1 vc, .slice a1 a2 a3, .slice b1 b2 b3, .slice d1 d2 d3, .int .i64 sp, .int .i64 sl, .int .i64 sw, .int .i64 bp, .int .i64 bl, .int .i64 bw, .bool quar, .int .i64 why, .slice q1 Q.length q3, .slice l1 NN.length l3, .int .i64 no, .int .i64 table, .string key, .string fin, .slice r1 R.length r3, .slice x1 X.length x3] := hSc.setK 32 _ (by kernel_rfl)
    have hPf : VarAt Wf w.heap.size 39 [.int .i64 kind, .int .i64 node, .int .i64 rng, .int .i64 op, .int .i64 mt, .int .i64 mk, .string mkey, .string mfin, .string mval, .int .i64 mexp, .int .i64 map, .int .i64 mal, .int .i64 maw, .slice vo m1 vc, .slice a1 a2 a3, .slice b1 b2 b3, .slice d1 d2 d3, .int .i64 sp, .int .i64 sl, .int .i64 sw, .int .i64 bp, .int .i64 bl, .int .i64 bw, .bool quar, .int .i64 why, .slice q1 Q.length q3, .slice l1 NN.length l3, .int .i64 no, .int .i64 table, .string key, .string fin, .slice r1 R.length r3, .slice x1 X.length x3] := by rw [hWf]; exact hSd
    have hZf : VarAt Wf (w.heap.size + 1) 39 [.int .i64 0, .int .i64 0, .int .i64 0, .int .i64 0, .int .i64 0, .int .i64 0, .string ⟨#[]⟩, .string ⟨#[]⟩, .string ⟨#[]⟩, .int .i64 0, .int .i64 0, .int .i64 0, .int .i64 0, .slice none 0 0, .slice none 0 0, .slice none 0 0, .slice none 0 0, .int .i64 0, .int .i64 0, .int .i64 0, .int .i64 0, .int .i64 0, .int .i64 0, .bool false, .int .i64 0, .slice none 0 0, .slice none 0 0, .int .i64 0, .int .i64 0, .string ⟨#[]⟩, .string ⟨#[]⟩, .slice none 0 0, .slice none 0 0] := by rw [hWf]; exact (((hZ3.set_other 25 _ (by omega)).set_other 26 _ (by omega)).set_other 31 _ (by omega)).set_other 32 _ (by omega)
    obtain ⟨L, hL⟩ : ∃ L : List Value, L = [.int .i64 kind, .int .i64 node, .int .i64 rng, .int .i64 op, .int .i64 mt, .int .i64 mk, .string mkey, .string mfin, .string mval, .int .i64 mexp, .int .i64 map, .int .i64 mal, .int .i64 maw, .slice vo m1 vc, .slice a1 a2 a3, .slice b1 b2 b3, .slice d1 d2 d3, .int .i64 sp, .int .i64 sl, .int .i64 sw, .int .i64 bp, .int .i64 bl, .int .i64 bw, .bool quar, .int .i64 why, .slice q1 Q.length q3, .slice l1 NN.length l3, .int .i64 no, .int .i64 table, .string key, .string fin, .slice r1 R.length r3, .slice x1 X.length x3] := ⟨_, rfl⟩
    rw [← hL] at hPf
    obtain ⟨Z, hZ⟩ : ∃ Z : List Value, Z = [.int .i64 0, .int .i64 0, .int .i64 0, .int .i64 0, .int .i64 0, .int .i64 0, .string ⟨#[]⟩, .string ⟨#[]⟩, .string ⟨#[]⟩, .int .i64 0, .int .i64 0, .int .i64 0, .int .i64 0, .slice none 0 0, .slice none 0 0, .slice none 0 0, .slice none 0 0, .int .i64 0, .int .i64 0, .int .i64 0, .int .i64 0, .int .i64 0, .int .i64 0, .bool false, .int .i64 0, .slice none 0 0, .slice none 0 0, .int .i64 0, .int .i64 0, .string ⟨#[]⟩, .string ⟨#[]⟩, .slice none 0 0, .slice none 0 0] := ⟨_, rfl⟩
    rw [← hZ] at hZf
    have hLn : L.length = 33 := by rw [hL]; rfl
    have hZn : Z.length = 33 := by rw [hZ]; rfl
    have hL1 : L.all (·.oneCell') = true := by rw [hL]; kernel_rfl
    have hvE : Value.agg ⟨L⟩ = vE ⟨kind, node, rng, op, (⟨mt, mk, mkey, mfin, mval, mexp, ⟨map, mal, maw⟩, movr⟩, .slice vo m1 vc), .slice a1 a2 a3, .slice b1 b2 b3, .slice d1 d2 d3, ⟨sp, sl, sw⟩, ⟨bp, bl, bw⟩, quar, why, .slice q1 Q.length q3, .slice l1 NN.length l3, no, table, key, fin, .slice r1 R.length r3, .slice x1 X.length x3⟩ := by rw [hL]; rfl
    have hkf : KeepT 39 W Wf := by rw [hWf]; exact (((KeepT.set hQ3 25 _).trans (KeepT.set hSa 26 _)).trans (KeepT.set hSb 31 _)).trans (KeepT.set hSc 32 _)
    have hBf : Below w.heap.size w Wf := by rw [hWf]; exact ((((HB2.out.trans (hb.mono HB2.out.size)).setCell (p := ⟨w.heap.size, 25, none⟩) (Nat.le_refl _) _).setCell (p := ⟨w.heap.size, 26, none⟩) (Nat.le_refl _) _).setCell (p := ⟨w.heap.size, 31, none⟩) (Nat.le_refl _) _).setCell (p := ⟨w.heap.size, 32, none⟩) (Nat.le_refl _) _
    have HLF := Lib.hid (hPf.loadAll 39 33 hLn _ Tryz.underlying39 rfl size_Ev)
    obtain ⟨Wg, hWg⟩ : ∃ Wg, Wg = Wf.setRow (w.heap.size + 1) ⟨L⟩ := ⟨_, rfl⟩
    have HSF := Lib.hid (show (Instr.storeAt 39 (.pointer (some ⟨w.heap.size + 1, 0, none⟩)) (.agg ⟨L⟩)).run Tryz.prog Wf = .ok () Wg by rw [hWg]; exact hZf.storeAll 39 33 L hLn hZn size_Ev hL1)
    have HYF := Lib.hid (show Wg.heap[w.heap.size + 1]? = some (.cells ⟨L⟩ 39 (0, 0)) by rw [hWg]; exact hZf.row L)
    have HLN := Lib.hid (show (Tryz.prog.info? 39).map (·.size) = some (Array.mk L).size by rw [size_Ev, ← hLn]; rfl)
    have hkg : KeepT 39 W Wg := by rw [hWg]; exact hkf.trans (KeepT.row hZf _)
    have hBg : Below w.heap.size w Wg := by rw [hWg]; exact setRow_below hBf _ (by omega) _
    have hovr : Over Wg (⟨mt, mk, mkey, mfin, mval, mexp, ⟨map, mal, maw⟩, movr⟩, .slice vo m1 vc) := Over.own (base := w.heap.size) (by
      have h := hkg.own (row_below HO2.out hb) (by decide)
      rw [HM1.out] at h ⊢
      exact h)
    have HFIN := Lib.hid (show CopE KC w ⟨kind, node, rng, op, (⟨mt, mk, mkey, mfin, mval, mexp, ⟨map, mal, maw⟩, movr⟩, mv), ca, cb, cd, ⟨sp, sl, sw⟩, ⟨bp, bl, bw⟩, quar, why, .slice qo Q.length qc, .slice no_ NN.length nc, no, table, key, fin, .slice ro R.length rc, .slice xo X.length xc⟩ Q NN R X (.returned (.agg ⟨L⟩)) Wg from
      ⟨.slice vo m1 vc, .slice a1 a2 a3, .slice b1 b2 b3, .slice d1 d2 d3, .slice q1 Q.length q3, .slice l1 NN.length l3, .slice r1 R.length r3, .slice x1 X.length x3, by rw [hvE], hBg, hovr, HKC.out _ _ _ _ _ HC2.out ((KeepT.below hb).trans hkg), hkg.own h2 (by decide), hkg.own h5 (by decide), hkg.own h8 (by decide), hkg.own h11 (by decide)⟩)
    have s25 := hQ3.get (k := 25) rfl
    have s26 := hQ3.get (k := 26) rfl
    have s31 := hQ3.get (k := 31) rfl
    have s32 := hQ3.get (k := 32) rfl
    have f25 := hQ3.frozen 25
    have f26 := hQ3.frozen 26
    have f31 := hQ3.frozen 31
    have f32 := hQ3.frozen 32
    have HWF := Lib.hid hWf
    clear hL hZ hLn hZn hL1 hvE h2 h5 h8 h11 hSa hSb hSc hSd hQ3 hZ3 hWf hPf hZf hkf hBf hWg hkg hBg hovr
    go_upto_region 4 with fail
    rw [← HWF.out]
    go_wp2_with (first | (refine wpList_load_run rfl 39 _ rfl (.pointer (some ⟨w.heap.size, 0, none⟩)) (.agg ⟨L⟩) rfl HLF.out ?_) | (refine wpList_store_run rfl 39 _ _ rfl (.pointer (some ⟨w.heap.size + 1, 0, none⟩)) (.agg ⟨L⟩) rfl rfl HSF.out ?_))
    exact bodyPost_ret (v := .agg ⟨L⟩) (results_cell_row rfl _ _ (w.heap.size + 1) 39 _ (0, 0) _ rfl HYF.out Tryz.underlying39 rfl HLN.out) rfl HFIN.out
end Go.Proofs.YtljlbkichcjlfaaGreatDoor.Trc
