/- Layer 30 (trace): Of, and how it goes through events of a kind. · state.All and state.Join at a content whose mutations may be any (small ones): what an event that came with a call holds. PRINTED by wip/gentrcraw.py out of ConMore's walks. · Layer 30 (trace): Answer: the first reply of an operation, copied. PRINTED by wip/gentrcans.py. -/
import Derived.Test.YtljlbkichcjlfaaGreatDoorLstMore
import Derived.Test.YtljlbkichcjlfaaGreatDoorInts
import Derived.Deep.MidRow
import Derived.Deep.WholeRow
import Derived.BigFrameIn
import Derived.Test.YtljlbkichcjlfaaGreatDoorConMore
import Derived.Test.YtljlbkichcjlfaaGreatDoorPkD
set_option linter.unusedSimpArgs false
set_option linter.unusedVariables false
namespace Go.Proofs.YtljlbkichcjlfaaGreatDoor.Trc
open Go.RowKit Go.Shelf Go.Proofs.YtljlbkichcjlfaaGreatDoor.Ints
set_option linter.unusedSectionVars false

attribute [local go_sem] Oper.semAt_some

/-- A load, or a store, of a whole struct, by what its run is: not opened cell by cell. -/
theorem wpListIn_load_run {F : Fence} {n : Nat} {P : Program} {w : World} {ops : Array Oper} {rest : List Oper} {o : Oper} {a : Act} {Q : Exit → Act → World → Prop} (hg : o.guard = none) (ty : TypeId) (x : Operand) (hop : o.op = .load ty x)
    (p V : Value) (hx : a.eval x = p) (hld : (Instr.loadAt ty p).run P w = .ok V w) (h : wpListIn F n P ops Q rest (a.put o.dst V) w) : wpListIn F n P ops Q (o :: rest) a w := by
  refine wpListIn_plain hg fun K hK => ?_
  unfold Oper.wpIn
  refine ⟨fun f hf => ?_, ?_⟩
  · simp [Oper.about, hop] at hf
  · rw [Oper.semAt_plain F _ _ (by rw [hop]; intro c hc'; cases hc')]
    unfold execOp
    simp only [hop, hx, hld, Sem.run_bind, Sem.run_pure, Result.andThen_ok]
    exact hK _ _ h
theorem wpListIn_loadG_run {F : Fence} {n : Nat} {P : Program} {w : World} {ops : Array Oper} {rest : List Oper} {o : Oper} {a : Act} {Q : Exit → Act → World → Prop} (hw : Region.wanted o (yielded ops a.tmps) = true) (ty : TypeId) (x : Operand) (hop : o.op = .load ty x)
    (p V : Value) (hx : a.eval x = p) (hld : (Instr.loadAt ty p).run P w = .ok V w) (h : wpListIn F n P ops Q rest (a.put o.dst V) w) : wpListIn F n P ops Q (o :: rest) a w := by
  refine wpListIn_step fun K hK => ?_
  rw [if_pos hw]
  unfold Oper.wpIn
  refine ⟨fun f hf => ?_, ?_⟩
  · simp [Oper.about, hop] at hf
  · rw [Oper.semAt_plain F _ _ (by rw [hop]; intro c hc'; cases hc')]
    unfold execOp
    simp only [hop, hx, hld, Sem.run_bind, Sem.run_pure, Result.andThen_ok]
    exact hK _ _ h
theorem wpListIn_store_run {F : Fence} {n : Nat} {P : Program} {w w' : World} {ops : Array Oper} {rest : List Oper} {o : Oper} {a : Act} {Q : Exit → Act → World → Prop} (hg : o.guard = none) (ty : TypeId) (x y : Operand) (hop : o.op = .store ty x y)
    (p V : Value) (hx : a.eval x = p) (hy : a.eval y = V) (hst : (Instr.storeAt ty p V).run P w = .ok () w') (h : wpListIn F n P ops Q rest (a.put o.dst undef) w') : wpListIn F n P ops Q (o :: rest) a w := by
  refine wpListIn_plain hg fun K hK => ?_
  unfold Oper.wpIn
  refine ⟨fun f hf => ?_, ?_⟩
  · simp [Oper.about, hop] at hf
  · rw [Oper.semAt_plain F _ _ (by rw [hop]; intro c hc'; cases hc')]
    unfold execOp
    simp only [hop, hx, hy, hst, Sem.run_bind, Sem.run_pure, Result.andThen_ok]
    exact hK _ _ h

set_option maxHeartbeats 1000000 in
theorem of_in (n : Nat) (k : Int) (ao : Option Addr) (m cap : Nat) (w : World) :
    CallsIn Fence.wide n Tryz.prog 19 #[.int .i64 k, .slice ao m cap] w fun e w' =>
      e = .returned (.func (.func 37) #[] #[.pointer (some ⟨w.heap.size + 1, 0, none⟩), .pointer (some ⟨w.heap.size, 0, none⟩)]) ∧
      w' = (w.alloc (.cells #[.int .i64 k] 23)).alloc (.cells #[.slice ao m cap] 22) := by
  refine callsIn_of_wp Tryz.func19 rfl trivial ?_ rfl
  simp only [Tryz.ntmps19, List.size_toArray, List.length_cons, List.length_nil, Nat.reduceAdd, Nat.reduceSub, Array.replicate_succ, Array.replicate_zero, List.push_toArray, List.append_toArray, List.nil_append, List.cons_append]
  gi_wp2
  go_ret
  exact ⟨rfl, rfl⟩

/-- .. with its world told by what lies in it. -/
theorem of_any (n : Nat) (k : Int) (ao : Option Addr) (m cap : Nat) (w : World) :
    CallsIn Fence.wide n Tryz.prog 19 #[.int .i64 k, .slice ao m cap] w fun e w' =>
      e = .returned (.func (.func 37) #[] #[.pointer (some ⟨w.heap.size + 1, 0, none⟩), .pointer (some ⟨w.heap.size, 0, none⟩)]) ∧
      Boxed w' w.heap.size 23 (.int .i64 k) ∧ Boxed w' (w.heap.size + 1) 22 (.slice ao m cap) ∧ Below w.heap.size w w' ∧ w'.heap.size = w.heap.size + 2 := by
  refine (of_in n k ao m cap w).mono ?_
  rintro e w' ⟨rfl, rfl⟩
  refine ⟨rfl, (Boxed.new w 23 (.int .i64 k)).alloc _, ?_, ((Below.refl _ w).alloc (Nat.le_refl _) _).alloc (by simp) _, by simp⟩
  have h := Boxed.new (w.alloc (.cells #[.int .i64 k] 23)) 22 (.slice ao m cap)
  rwa [World.size_alloc] at h

section
variable {α : Type} (kd : α → Int)
/-- What of a row's first n is gone through: of a kind, with its place. -/
def ofK (k : Int) (L : List α) (n : Nat) : List (α × Nat) := (L.take n).zipIdx.filter fun p => decide (kd p.1 = k)
theorem ofK_step {k : Int} {L : List α} {n : Nat} {x : α} (hx : L[n]? = some x) : ofK kd k L (n + 1) = ofK kd k L n ++ if kd x = k then [(x, n)] else [] := by
  obtain ⟨hk, e⟩ := List.getElem?_eq_some_iff.1 hx
  unfold ofK
  rw [List.take_succ_eq_append_getElem hk, e, List.zipIdx_append, List.filter_append]
  congr 1
  rw [List.length_take, Nat.min_eq_left (Nat.le_of_lt hk)]
  by_cases h : kd x = k <;> simp [h]
theorem ofK_cut (k : Int) (L : List α) (n : Nat) : ofK kd k L L.length = ofK kd k L n ++ ((L.drop n).zipIdx (0 + (L.take n).length)).filter fun p => decide (kd p.1 = k) := by
  unfold ofK
  rw [List.take_length, ← List.filter_append, ← List.zipIdx_append, List.take_append_drop]
theorem ofK_len {k : Int} {L : List α} {n : Nat} {x : α} (hx : L[n]? = some x) (hs : kd x = k) : (ofK kd k L n).length < (ofK kd k L L.length).length := by
  have h1 := ofK_step kd (k := k) hx
  have h2 := congrArg List.length (ofK_cut kd k L (n + 1))
  rw [h1, if_pos hs] at h2
  simp only [List.length_append, List.length_cons, List.length_nil] at h2
  omega
theorem ofK_pre {k : Int} {L : List α} {n : Nat} : ∃ j, j ≤ (ofK kd k L L.length).length ∧ ofK kd k L n = (ofK kd k L L.length).take j := by
  refine ⟨(ofK kd k L n).length, ?_, ?_⟩
  · rw [ofK_cut kd k L n, List.length_append]; omega
  · rw [ofK_cut kd k L n, List.take_left]
theorem ofK_le (k : Int) (L : List α) : (ofK kd k L L.length).length ≤ L.length := by
  unfold ofK
  rw [List.take_length]
  exact Nat.le_trans (List.length_filter_le _ _) (by simp)

variable (en : α → List Value)
/-- A round keeps the kind's box, and the row that is gone through. -/
def KeepE (B : Nat) (v : Value) (L : List α) (A C : World) : Prop := Keep B A C ∧ (Lst 33 en A v L → Lst 33 en C v L)
theorem KeepE.trans {B : Nat} {v : Value} {L : List α} {A C D : World} (h : KeepE en B v L A C) (k : KeepE en B v L C D) : KeepE en B v L A D := ⟨h.1.trans k.1, fun r => k.2 (h.2 r)⟩

set_option maxRecDepth 100000 in
set_option maxHeartbeats 4000000 in
theorem of1_in (hen : ∀ x, (en x).length = 33) (hkd : ∀ x, (en x)[0]? = some (.int .i64 (kd x)))
    (n : Nat) (hn : 1 ≤ n) (lp Bl Bk : Nat) (ao : Option Addr) (cap : Nat) (k : Int) (L : List α) (N : Nat) (hN : N = L.length) (hL : N ≤ 100000) (hone : ∀ x ∈ L, (en x).all (·.oneCell') = true) (J Jx : List (α × Nat) → World → Prop)
    (hY : ∀ pre x W, J pre W → pre.length < (ofK kd k L L.length).length → YieldAt Fence.wide (n - 1) Tryz.prog lp #[.int .i64 (x.2 : Int), .agg ⟨en x.1⟩] W fun e W' =>
      (e = .returned (.bool true) ∧ J (pre ++ [x]) W' ∧ KeepE en Bk (.slice ao N cap) L W W') ∨ (e = .returned (.bool false) ∧ Jx (pre ++ [x]) W'))
    (W : World) (hJab : AbidesFrom W.heap.size J) (hbl : W.cell? ⟨Bl, 0, none⟩ = some (.slice ao N cap)) (hbk : W.cell? ⟨Bk, 0, none⟩ = some (.int .i64 k)) (hBk : Bk < W.heap.size) (hrow : Lst 33 en W (.slice ao N cap) L) (hJ0 : J [] W) :
    CallsIn Fence.wide n Tryz.prog 37 #[.func (.yield lp) #[] #[], .pointer (some ⟨Bl, 0, none⟩), .pointer (some ⟨Bk, 0, none⟩)] W fun e W' => (∃ v, e = .returned v) ∧
      ((∃ ys, ys = ofK kd k L L.length ∧ J ys W') ∨ (∃ pre, (∃ j, j ≤ (ofK kd k L L.length).length ∧ pre = (ofK kd k L L.length).take j) ∧ Jx pre W')) := by
  have HR := Lib.hid (And.intro hrow hbk)
  have HN := Lib.hid hN
  have HEN := Lib.hid (And.intro hen (And.intro hone hkd))
  clear hrow hN hen hone hkd hbk
  refine callsIn_of_wp Tryz.func37 rfl trivial ?_ rfl
  simp only [Tryz.ntmps37, List.size_toArray, List.length_cons, List.length_nil, Nat.reduceAdd, Nat.reduceSub, Array.replicate_succ, Array.replicate_zero, List.push_toArray, List.append_toArray, List.nil_append, List.cons_append]
  gi_wp2
  gi_loopw [8] (fun iv wr => ∃ i : Nat, i ≤ N ∧ iv = .int .i64 i ∧ J (ofK kd k L i) wr ∧ Hid (Lst 33 en wr (.slice ao N cap) L ∧ wr.cell? ⟨Bk, 0, none⟩ = some (.int .i64 k)) ∧ Bk < wr.heap.size) (fun iv _ => N - (intOf iv).toNat)
  case atStart => exact ⟨0, Nat.zero_le _, rfl, by simpa [ofK] using hJ0, HR, hBk⟩
  case round =>
    obtain ⟨i, hi, rfl, hJk, hr, hBr⟩ := hrel
    by_cases hlt : i < N
    · have hil : i < L.length := by have := HN.out; omega
      obtain ⟨x, hx⟩ : ∃ x, L[i]? = some x := ⟨_, List.getElem?_eq_getElem hil⟩
      obtain ⟨xb, xoff, hao, hb, hcx⟩ := Lst.get hr.out.1 hil
      rw [(List.getElem?_eq_some_iff.1 hx).2] at hcx
      cases hao
      have hld : (Instr.loadAt 39 (.pointer (some ⟨xb, xoff + i * 33, none⟩))).run Tryz.prog wr = .ok (.agg ⟨en x⟩) wr :=
        run_loadAt_mid wr xb (xoff + i * 33) 39 (en x) _ (fun j v hv => by
          have hj := (List.getElem?_eq_some_iff.1 hv).1
          rw [HEN.out.1] at hj
          exact (hcx j hj).trans hv) Tryz.underlying39 rfl (by rw [HEN.out.1]; kernel_rfl)
      obtain ⟨V, hV⟩ : ∃ V, V = Value.agg ⟨en x⟩ := ⟨_, rfl⟩
      obtain ⟨W2, hW2⟩ : ∃ W2, W2 = wr.alloc (.cells ⟨en x⟩ 39) := ⟨_, rfl⟩
      have hst : (Instr.storeAt 39 (.pointer (some ⟨wr.heap.size, 0, none⟩)) V).run Tryz.prog (wr.alloc (.cells #[.int .i64 0, .int .i64 0, .int .i64 0, .int .i64 0, .int .i64 0, .int .i64 0, .string ⟨#[]⟩, .string ⟨#[]⟩, .string ⟨#[]⟩, .int .i64 0, .int .i64 0, .int .i64 0, .int .i64 0, .slice none 0 0, .slice none 0 0, .slice none 0 0, .slice none 0 0, .int .i64 0, .int .i64 0, .int .i64 0, .int .i64 0, .int .i64 0, .int .i64 0, .bool false, .int .i64 0, .slice none 0 0, .slice none 0 0, .int .i64 0, .int .i64 0, .string ⟨#[]⟩, .string ⟨#[]⟩, .slice none 0 0, .slice none 0 0] 39)) = .ok () W2 := by
        rw [hV, hW2]
        exact run_storeAt_new wr 39 #[.int .i64 0, .int .i64 0, .int .i64 0, .int .i64 0, .int .i64 0, .int .i64 0, .string ⟨#[]⟩, .string ⟨#[]⟩, .string ⟨#[]⟩, .int .i64 0, .int .i64 0, .int .i64 0, .int .i64 0, .slice none 0 0, .slice none 0 0, .slice none 0 0, .slice none 0 0, .int .i64 0, .int .i64 0, .int .i64 0, .int .i64 0, .int .i64 0, .int .i64 0, .bool false, .int .i64 0, .slice none 0 0, .slice none 0 0, .int .i64 0, .int .i64 0, .string ⟨#[]⟩, .string ⟨#[]⟩, .slice none 0 0, .slice none 0 0] ⟨en x⟩ (by rw [List.size_toArray, HEN.out.1]; kernel_rfl) (HEN.out.1 x).symm (by
          have := HEN.out.2.1 x (List.mem_of_getElem? hx)
          rw [Array.all_eq_true_iff_forall_mem]
          intro v hv
          exact List.all_eq_true.1 this v (by simpa using hv))
      rw [← hV] at hld
      obtain ⟨W2, hW2⟩ : ∃ W2, W2 = wr.alloc (.cells ⟨en x⟩ 39) := ⟨_, rfl⟩
      have hst : (Instr.storeAt 39 (.pointer (some ⟨wr.heap.size, 0, none⟩)) V).run Tryz.prog (wr.alloc (.cells #[.int .i64 0, .int .i64 0, .int .i64 0, .int .i64 0, .int .i64 0, .int .i64 0, .string ⟨#[]⟩, .string ⟨#[]⟩, .string ⟨#[]⟩, .int .i64 0, .int .i64 0, .int .i64 0, .int .i64 0, .slice none 0 0, .slice none 0 0, .slice none 0 0, .slice none 0 0, .int .i64 0, .int .i64 0, .int .i64 0, .int .i64 0, .int .i64 0, .int .i64 0, .bool false, .int .i64 0, .slice none 0 0, .slice none 0 0, .int .i64 0, .int .i64 0, .string ⟨#[]⟩, .string ⟨#[]⟩, .slice none 0 0, .slice none 0 0] 39)) = .ok () W2 := by
        rw [hV, hW2]
        exact run_storeAt_new wr 39 #[.int .i64 0, .int .i64 0, .int .i64 0, .int .i64 0, .int .i64 0, .int .i64 0, .string ⟨#[]⟩, .string ⟨#[]⟩, .string ⟨#[]⟩, .int .i64 0, .int .i64 0, .int .i64 0, .int .i64 0, .slice none 0 0, .slice none 0 0, .slice none 0 0, .slice none 0 0, .int .i64 0, .int .i64 0, .int .i64 0, .int .i64 0, .int .i64 0, .int .i64 0, .bool false, .int .i64 0, .slice none 0 0, .slice none 0 0, .int .i64 0, .int .i64 0, .string ⟨#[]⟩, .string ⟨#[]⟩, .slice none 0 0, .slice none 0 0] ⟨en x⟩ (by rw [List.size_toArray, HEN.out.1]; kernel_rfl) (HEN.out.1 x).symm (by
          have := HEN.out.2.1 x (List.mem_of_getElem? hx)
          rw [Array.all_eq_true_iff_forall_mem]
          intro v hv
          exact List.all_eq_true.1 this v (by simpa using hv))
      have hlc : (loadCellsFrom ⟨xb, xoff + i * 33, none⟩ 0 33 #[]).run Tryz.prog wr = .ok ⟨en x⟩ wr := by
        have := run_loadCells_list (P := Tryz.prog) wr ⟨xb, xoff + i * 33, none⟩ (en x) (fun j v hv => by
          have hj := (List.getElem?_eq_some_iff.1 hv).1
          rw [HEN.out.1] at hj
          rw [Addr.add_mid]
          exact (hcx j hj).trans hv)
        rw [HEN.out.1] at this
        exact this
      have hb2 : Below wr.heap.size wr W2 := by rw [hW2]; exact (Below.refl _ _).alloc (Nat.le_refl _) _
      have hc2 : ∀ j v, (en x)[j]? = some v → W2.cell? ⟨wr.heap.size, 0 + j, none⟩ = some v := fun j v hv => by
        rw [hW2]
        have h := new_cells wr (en x) 39 j v hv
        rw [Addr.add_mid] at h
        exact h
      have hld2 : (Instr.loadAt 39 (.pointer (some ⟨wr.heap.size, 0, none⟩))).run Tryz.prog W2 = .ok V W2 := by
        rw [hV]
        exact run_loadAt_mid W2 wr.heap.size 0 39 (en x) _ hc2 Tryz.underlying39 rfl (by rw [HEN.out.1]; kernel_rfl)
      have c0 : W2.cell? ⟨wr.heap.size, 0, none⟩ = some (.int .i64 (kd x)) := hc2 0 _ (HEN.out.2.2 x)
      have ck : W2.cell? ⟨Bk, 0, none⟩ = some (.int .i64 k) := (hb2.cell (p := ⟨Bk, 0, none⟩) hBr).trans hr.out.2
      have hJ2 : J (ofK kd k L i) W2 := abides_below hJab hJk hb2
      have hr2 : Lst 33 en W2 (.slice (some ⟨xb, xoff, none⟩) N cap) L := Lst.below hr.out.1 hb2
      have hsz2 := hb2.size
      have hst2 := ofK_step kd (k := k) hx
      have hln := ofK_len kd (k := k) hx
      have HC := Lib.hid hc2
      have HR2 := Lib.hid (And.intro hr2 ck)
      have HV := Lib.hid hV
      have HB2 := Lib.hid hb2
      clear hW2 hV hcx hx hc2 hr2 hb2 hJk hil
      cases hq : (kd x == k)
      · have hne : kd x ≠ k := by rw [beq_eq_false_iff_ne] at hq; exact hq
        rw [if_neg hne, List.append_nil] at hst2
        have HJ := Lib.hid (show J (ofK kd k L (i + 1)) W2 by rw [hst2]; exact hJ2)
        have HQ := Lib.hid hq
        clear hst2 hln hne hJ2
        have HLD := Lib.hid hld
        have HST := Lib.hid hst
        have HLD2 := Lib.hid hld2
        clear hld hst hld2
        gi_wp2_with (first | (refine wpListIn_load_run rfl 39 _ rfl (.pointer (some ⟨xb, xoff + i * 33, none⟩)) V rfl HLD.out ?_) | (refine wpListIn_store_run rfl 39 _ _ rfl (.pointer (some ⟨wr.heap.size, 0, none⟩)) V rfl rfl HST.out ?_))
        refine ⟨fun f h => (by cases h), ?_⟩
        gi_wp2
        go_roundw
        case rel => exact ⟨i + 1, by omega, by go_num, HJ.out, HR2, by omega⟩
        case measure => simp [intOf]; omega
      · have he : kd x = k := by simpa using hq
        rw [if_pos he] at hst2
        have hlen := hln he
        obtain ⟨fn, tmps, assign, body, hy, hRR⟩ := hY _ (x, i) W2 hJ2 hlen
        dsimp only at hy
        rw [← HV.out] at hy
        have HST2 := Lib.hid hst2
        have HQ := Lib.hid hq
        have HLD := Lib.hid hld
        have HST := Lib.hid hst
        have HLD2 := Lib.hid hld2
        clear hld hst hld2 he hln hst2 hlen hJ2
        gi_wp2_with (first | (refine wpListIn_load_run rfl 39 _ rfl (.pointer (some ⟨xb, xoff + i * 33, none⟩)) V rfl HLD.out ?_) | (refine wpListIn_store_run rfl 39 _ _ rfl (.pointer (some ⟨wr.heap.size, 0, none⟩)) V rfl rfl HST.out ?_) | (refine wpListIn_loadG_run rfl 39 _ rfl (.pointer (some ⟨wr.heap.size, 0, none⟩)) V rfl HLD2.out ?_))
        refine hRR.mono ?_
        rintro e W3 (⟨rfl, hJ3, hk3⟩ | ⟨rfl, hJx3⟩)
        · have HK := Lib.hid (And.intro (hk3.2 HR2.out.1) ((hk3.1.2 0).trans HR2.out.2))
          have hbr3 : Bk < W3.heap.size := Nat.lt_of_lt_of_le (by omega) hk3.1.1
          gi_wp2
          go_roundw
          case rel => exact ⟨i + 1, by omega, by go_num, by rw [HST2.out]; exact hJ3, HK, hbr3⟩
          case measure => simp [intOf]; omega
        · gi_wp2
          refine bodyPost_ret (results_none rfl _ _ _) rfl ?_
          refine ⟨⟨_, rfl⟩, .inr ⟨_, ?_, hJx3⟩⟩
          rw [← HST2.out]
          exact ofK_pre kd
    · obtain rfl : i = N := by omega
      have HE := Lib.hid (show J (ofK kd k L L.length) wr by rw [← HN.out]; exact hJk)
      clear hJk
      gi_wp2
      go_end0
      exact ⟨⟨_, rfl⟩, .inl ⟨_, rfl, HE.out⟩⟩

theorem of_stops (hen : ∀ x, (en x).length = 33) (hkd : ∀ x, (en x)[0]? = some (.int .i64 (kd x)))
    (n : Nat) (hn : 1 ≤ n) (Bl Bk : Nat) (ao : Option Addr) (cap : Nat) (k : Int) (L : List α) (N : Nat) (hN : N = L.length) (hL : N ≤ 100000) (hone : ∀ x ∈ L, (en x).all (·.oneCell') = true) (w : World) (hBl : Bl < w.heap.size) (hBk : Bk < w.heap.size)
    (hbl : w.cell? ⟨Bl, 0, none⟩ = some (.slice ao N cap)) (hbk : w.cell? ⟨Bk, 0, none⟩ = some (.int .i64 k)) (hrow : Lst 33 en w (.slice ao N cap) L) :
    SeqStopsK Fence.wide n Tryz.prog 37 #[.pointer (some ⟨Bl, 0, none⟩), .pointer (some ⟨Bk, 0, none⟩)] (fun x : α × Nat => #[.int .i64 (x.2 : Int), .agg ⟨en x.1⟩]) (KeepE en Bk (.slice ao N cap) L)
      (fun ys => ys = ofK kd k L L.length) (fun pre => ∃ j, j ≤ (ofK kd k L L.length).length ∧ pre = (ofK kd k L L.length).take j) (ofK kd k L L.length).length w := fun l J Jx W hW hJ _ hY hJ0 =>
  of1_in kd en hen hkd n hn l Bl Bk ao cap k L N hN hL hone J Jx hY W hJ ((hW.cell (p := ⟨Bl, 0, none⟩) hBl).trans hbl) ((hW.cell (p := ⟨Bk, 0, none⟩) hBk).trans hbk) (Nat.lt_of_lt_of_le hBk hW.size) (Lst.below hrow hW) hJ0

/-- A book-keeping object that is put keeps it. -/
theorem KeepE.put (hkd : ∀ x, (en x)[0]? = some (.int .i64 (kd x))) {Bk : Nat} {v : Value} {L : List α} (W : World) (b : Nat) (o o' : Obj) (hBk : Bk < b) (hb : W.heap[b]? = some o) (ho : o.isCells = false) : KeepE en Bk v L W (W.putObj b o') := by
  refine ⟨⟨by simp, fun x => World.cell?_of_block (w := W) ((grownBy_putObj' W b o').block Bk (by have := (Array.getElem?_eq_some_iff.1 hb).1; omega) (by simp; omega))⟩, fun r => ?_⟩
  obtain ⟨ao, cap, rfl, h1, h2, h3⟩ := r
  refine ⟨ao, cap, rfl, h1, h2, ?_⟩
  by_cases h0 : L.length = 0
  · exact Or.inl h0
  rcases h3 with h3 | ⟨b', off, rfl, hlt, hc⟩
  · exact Or.inl h3
  by_cases hbb : b' = b
  · subst hbb
    exfalso
    have h00 := hc 0 L[0] (List.getElem?_eq_getElem (by omega)) 0 (by decide)
    rw [hkd] at h00
    unfold World.cell? at h00
    simp only [hb] at h00
    cases o <;> simp_all [Obj.isCells]
  · exact Or.inr ⟨b', off, rfl, by simpa using hlt, fun i x hi j hj => (World.cell?_of_block (w := W) ((grownBy_putObj' W b o').block b' hlt (by simp; omega))).trans (hc i x hi j hj)⟩

theorem keepE_of {w0 W W' : World} {Bk : Nat} {v : Value} {L : List α} {B : Nat} (h0 : Lst 33 en w0 v L) (hBk : Bk < w0.heap.size) (hkB : Bk ≠ B) (hrB : ∀ a n c, v = .slice (some a) n c → L.length = 0 ∨ a.block ≠ B) (hsz : W.heap.size ≤ W'.heap.size) (hk : ∀ b, b < w0.heap.size → b ≠ B → Keep b W W') : KeepE en Bk v L W W' := by
  refine ⟨hk Bk hBk hkB, fun r => ?_⟩
  obtain ⟨ao, cap, rfl, h1, h2, h3⟩ := r
  refine ⟨ao, cap, rfl, h1, h2, ?_⟩
  by_cases hl : L.length = 0
  · exact Or.inl hl
  rcases h3 with h3 | ⟨b, off, rfl, hlt, hc⟩
  · exact Or.inl h3
  obtain ⟨ao', cap', hv, _, _, h4⟩ := h0
  cases hv
  rcases h4 with h4 | ⟨b', off', e, hlt', _⟩
  · omega
  cases e
  exact Or.inr ⟨b, off, rfl, Nat.lt_of_lt_of_le hlt hsz, fun i x hi j hj => ((hk b hlt' ((hrB _ _ _ rfl).resolve_left hl)).2 _).trans (hc i x hi j hj)⟩

/-- What has been collected: a row, in a box. -/
def ColP (β B : Nat) (pre : List (α × Nat)) (W : World) : Prop := ∃ v, Boxed W B 24 v ∧ W.ownsRow β 3 1 v pre.length ((pre.map fun p => (p.2 : Int)).flatMap enI)
theorem colP_own (β B : Nat) : Own (ColP (α := α) β B) := by
  rintro s X Y row ⟨v, h1, h2⟩ hg hr
  exact ⟨v, own_box h1 hg hr, own_row h2 hg hr⟩
def PlP (w : World) (l : List Int) (e : Ending) (w' : World) : Prop := ∃ v, e = .returned v ∧ IRow w' v l ∧ Below w.heap.size w w'

set_option maxRecDepth 100000 in
set_option maxHeartbeats 4000000 in
theorem places_any (hen : ∀ x, (en x).length = 33) (hkd : ∀ x, (en x)[0]? = some (.int .i64 (kd x)))
    (ao : Option Addr) (cap : Nat) (k : Int) (L : List α) (w : World) (hone : ∀ x ∈ L, (en x).all (·.oneCell') = true) (ha : Lst 33 en w (.slice ao L.length cap) L) (hl : L.length ≤ 1000) :
    Calls Tryz.prog 10 #[.int .i64 k, .slice ao L.length cap] w (PlP w ((ofK kd k L L.length).map fun p => (p.2 : Int))) := by
  have hol : (ofK kd k L L.length).length ≤ 1000 := Nat.le_trans (ofK_le kd k L) hl
  obtain ⟨i0, hi, hz0, hz1, hz2⟩ : ∃ i : TypeInfo, Tryz.prog.info? 3 = some i ∧ i.zero = some (.int .i64 0) ∧ i.size = 1 ∧ i.bytes = 8 := by
    have h := info_I
    cases hq : Tryz.prog.info? 3 with
    | none => simp [hq] at h
    | some i => simp [hq] at h; exact ⟨i, rfl, h.1, h.2.1, h.2.2⟩
  have HI := Lib.hid hi
  have HZ0 := Lib.hid hz0
  have HZ1 := Lib.hid hz1
  have HZ2 := Lib.hid hz2
  have hnil := fun g lb w => eq_nilFunc Tryz.underlying59 g lb w
  have hrB : ∀ a n c, (Value.slice ao L.length cap) = .slice (some a) n c → L.length = 0 ∨ a.block ≠ w.heap.size := fun a n c e => by
    cases e
    obtain ⟨ao', cap', hv, _, _, h4⟩ := ha
    cases hv
    rcases h4 with h4 | ⟨b', off', e, hlt', _⟩
    · exact Or.inl h4
    · cases e; exact Or.inr (by simp; omega)
  obtain ⟨N, hN⟩ : ∃ N, N = L.length := ⟨_, rfl⟩
  obtain ⟨T, hT⟩ : ∃ T, T = ofK kd k L L.length := ⟨_, rfl⟩
  rw [← hT] at hol ⊢
  have HTT := Lib.hid hT
  rw [← hN] at ha hl ⊢
  have HA := Lib.hid ha
  have HN := Lib.hid hN
  have HRB := Lib.hid hrB
  clear hi hz0 hz1 hz2 ha hN hrB hT
  refine (callsIn_wide (n := 3)).1 ?_
  refine callsIn_of_wp_marks Tryz.func10 rfl trivial ?_ rfl
  simp only [Tryz.ntmps10, List.size_toArray, List.length_cons, List.length_nil, Nat.reduceAdd, Nat.reduceSub, Array.replicate_succ, Array.replicate_zero, List.push_toArray, List.append_toArray, List.nil_append, List.cons_append]
  gi_wp2_with (refine ⟨trivial, ?_⟩; gi_at_call 19; refine (of_any 2 k ao N cap _).mono ?_; rintro e w' ⟨rfl, h1, h2, h3, h4⟩; rw [World.size_alloc] at h1 h2 h3 h4 ⊢)
  have b0 : Boxed w' w.heap.size 24 (.slice none 0 0) := (h3.block _ (by simp)).trans (Boxed.new w 24 (.slice none 0 0))
  have hb : Below w.heap.size w w' := below_then ((Below.refl _ _).alloc (Nat.le_refl _) _) (Nat.le_refl _) (by rw [World.size_alloc]; exact h3)
  have ha' : Lst 33 en w' (.slice ao N cap) L := Lst.below HA.out hb
  have hstops := of_stops kd en hen hkd 2 (by omega) (w.heap.size + 1 + 1) (w.heap.size + 1) ao cap k L N HN.out (by omega) hone w' h2.lt h1.lt h2.cell h1.cell ha'
  rw [← HTT.out] at hstops
  refine wpIn_rangeFunc_ownG rfl (by omega) (gf := 37) (lb := #[.pointer (some ⟨w.heap.size + 1 + 1, 0, none⟩), .pointer (some ⟨w.heap.size + 1, 0, none⟩)]) rfl trivial (enters_of Tryz.func37 (by kernel_rfl) rfl)
    hstops (KeepE.trans en) (fun W b o o' hh hb ho _ => KeepE.put kd en hkd W b o o' (by omega) hb ho) (Below.refl _ _) (fun _ => rfl)
    (fun pre W => ColP w'.heap.size w.heap.size pre W ∧ Below w.heap.size w' W)
    (fun _ _ _ => False)
    (OwnFrom.and (Own.from (colP_own _ _) _) (ownFrom_below (by omega) (by omega)))
    (fun _ _ _ _ _ hs _ _ => hs)
    ⟨⟨_, b0, World.ownsRow_nil _ _ _ _⟩, Below.refl _ _⟩
    (fun x => { tmps := #[.int .i64 k, .slice ao N cap, undef, undef, .slice none 0 0, .pointer (some ⟨w.heap.size, 0, none⟩), .func (.func 37) #[] #[.pointer (some ⟨w.heap.size + 1 + 1, 0, none⟩), .pointer (some ⟨w.heap.size + 1, 0, none⟩)], .int .i64 x.2, .int .i64 k, .slice ao N cap, .func (.func 37) #[] #[.pointer (some ⟨w.heap.size + 1 + 1, 0, none⟩), .pointer (some ⟨w.heap.size + 1, 0, none⟩)], .func (.func 37) #[] #[.pointer (some ⟨w.heap.size + 1 + 1, 0, none⟩), .pointer (some ⟨w.heap.size + 1, 0, none⟩)], .bool false, .func (.func 37) #[] #[.pointer (some ⟨w.heap.size + 1 + 1, 0, none⟩), .pointer (some ⟨w.heap.size + 1, 0, none⟩)], .int .i64 x.2, .agg ⟨en x.1⟩, undef, undef, undef, undef, undef], defers := [] }) ?assign ?body ?done ?stop
  case assign =>
    intro l x W K hK
    gi_wp2
    simpa using hK
  case body =>
    rintro lp pre x W ⟨⟨vo, hv, hr⟩, hB⟩ hlt
    have hsz := hB.size
    obtain ⟨oo, oc, rfl⟩ := row_form hr
    have g0 := hv.cell
    obtain ⟨q, hq⟩ : ∃ q : Nat, q = pre.length := ⟨_, rfl⟩
    rw [← hq] at hr hv g0 hlt
    have HR := Lib.hid hr
    have HV := Lib.hid hv
    have HQ := Lib.hid hq
    clear hr hv hq
    gi_wp2_with (gi_at_builtin; refine wpListIn_append_lies _ rfl (.tmp 16) (.tmp 18) 24 rfl w'.heap.size 3 i0 (.int .i64 0) 1 8 Tryz.underlying24 HI.out HZ0.out HZ1.out HZ2.out rfl (by decide) (.slice oo q oc) _ _ rfl (HR.out.alloc _) ⟨_, 0, none⟩ 1 1 [.int .i64 x.2] rfl rfl (cell_one_at _ _ _ _ (by simp)) (by simp [Value.oneCell']) (by decide) (by unfold maxLen; omega) (by omega) (by simp; omega) (W.heap.size + 1) (by simp) ?_; intro p1 c1' w1 hown1 hgrow1 hat1 hlt1; obtain ⟨a1, a2, a3, a4, a5, a6⟩ := appended (n₀ := w.heap.size) HV.out (by decide) HR.out (by omega) (by omega) (by omega) hown1 hgrow1; have k1 := a1.cell; have k2 := a1.frozen; have A := Lib.hid (And.intro a2 (And.intro a3 (And.intro a4 (And.intro a5 a6)))); clear a1 a2 a3 a4 a5 a6 hown1 hgrow1 hat1)
    have hlen : (pre ++ [x]).length = q + 1 := by rw [HQ.out]; simp
    exact ⟨A.out.2.2.1.from _, keepE_of en ha' (by omega) (by omega) (fun a n c e => HRB.out a n c (by rw [← HN.out]; exact e)) A.out.2.2.2.1.size A.out.2.2.2.2, ⟨_, A.out.1, by rw [hlen, List.map_append, List.flatMap_append]; exact A.out.2.1⟩, hB.trans A.out.2.2.2.1⟩
  case done =>
    rintro D ys W hD rfl ⟨⟨vo, hv, hr⟩, hB⟩ hK
    have g0 := hv.cell
    have hend : PlP w (ys.map fun p => (p.2 : Int)) (.returned vo) (W.putObj D (.deferred none)) :=
      ⟨vo, rfl, Lst.owned enI_len (by decide) (by simp) (ownsRow_putObj hr (.deferred none) hK rfl), (hb.trans hB).trans (belowK_b (w := w) (Nat.le_refl _) W D _ _ (by omega) hK rfl rfl)⟩
    have HE := Lib.hid hend
    clear hend
    gi_wp2
    refine ⟨by simp, .inl ⟨_, _, rfl, run_takeDeferred hK, ?_⟩⟩
    exact ⟨vo, by simp [results, Tryz.f10, go_sem], HE.out⟩
  case stop =>
    rintro D c pre W _ _ h _
    exact h.elim
end
end Go.Proofs.YtljlbkichcjlfaaGreatDoor.Trc

namespace Go.Proofs.YtljlbkichcjlfaaGreatDoor.Mut
open Go.RowKit Go.Sort Go.Proofs.YtljlbkichcjlfaaGreatDoor.Ord
set_option linter.unusedSectionVars false
variable [Inhabited Lim]

structure Oks (c : Con) (n : Nat) : Prop where
  small : ∀ m ∈ c.all, Small m
  len : c.all.length ≤ n
set_option maxHeartbeats 4000000 in
set_option maxRecDepth 100000 in
theorem all_raw (a b d : Value) (c : Con) (n : Nat) (w : World) (hc : Lies w a b d c) (hO : Oks c n) (hn : n ≤ 100000) :
    Calls Tryz.prog 45 #[.agg #[a, b, d]] w (AllP w c) := by
  obtain ⟨ao, na, ac, rfl⟩ := hc.cells.slice
  obtain ⟨bo, nb, bc, rfl⟩ := hc.wipes.slice
  obtain ⟨dd, nd, dc, rfl⟩ := hc.sibs.slice
  obtain ⟨A, eA, hA⟩ := hc.cells
  obtain ⟨B, eB, hBr⟩ := hc.wipes
  obtain ⟨D, eD, hD⟩ := hc.sibs
  have eall : (A ++ (B ++ D)).map (·.1) = c.all := by rw [List.map_append, List.map_append, eA, eB, eD]; rfl
  have hlen : (A ++ (B ++ D)).length = c.all.length := by rw [← eall, List.length_map]
  have hsm : ∀ x ∈ A ++ (B ++ D), Small x.1 := fun x hx => hO.small _ (by rw [← eall]; exact List.mem_map.2 ⟨x, hx, rfl⟩)
  have hlen2 := hO.len
  obtain ⟨L, hL⟩ : ∃ L, L = A ++ (B ++ D) := ⟨_, rfl⟩
  have HCat := Lib.hid (fun (z : World) (h : Cat3 (w.heap.size + 1) (.slice ao na ac) (.slice bo nb bc) (.slice dd nd dc) A B D z) => concat_any (w.heap.size + 1) _ _ _ A B D z h (by omega))
  rw [← hL] at eall hlen hsm HCat
  have HMR := Lib.hid (fun x (hx : x ∈ L) => show Over w x from by
    rw [hL] at hx
    rcases List.mem_append.1 hx with h | h
    · exact hA.over x h
    · rcases List.mem_append.1 h with h | h
      · exact hBr.over x h
      · exact hD.over x h)
  have HR := Lib.hid (And.intro hA (And.intro hBr hD))
  have HE := Lib.hid eall
  have HLEN := Lib.hid hlen
  have HSM := Lib.hid hsm
  have hln : L.length ≤ 100000 := by omega
  obtain ⟨N, hN⟩ : ∃ N, N = L.length := ⟨_, rfl⟩
  have HN := Lib.hid hN
  unfold AllP
  rw [← hlen, ← hN]
  rw [← hN] at hln
  clear hA hBr hD eall hlen hsm hc hO hL eA eB eD hlen2 hN
  go_enter Tryz.func45, Tryz.ntmps45
  go_wp2_with fail
  have hC3 := (C3.new (w.alloc (.cells #[.slice ao na ac, .slice bo nb bc, .slice dd nd dc] 35)) (.slice ao na ac) (.slice bo nb bc) (.slice dd nd dc))
  have hb0 := ((Below.refl _ w).alloc (Nat.le_refl _) (.cells #[.slice ao na ac, .slice bo nb bc, .slice dd nd dc] 35)).alloc (by simp) (.cells #[.slice ao na ac, .slice bo nb bc, .slice dd nd dc] 33)
  have h3 : Cat3 (w.heap.size + 1) (.slice ao na ac) (.slice bo nb bc) (.slice dd nd dc) A B D ((w.alloc (.cells #[.slice ao na ac, .slice bo nb bc, .slice dd nd dc] 35)).alloc (.cells #[.slice ao na ac, .slice bo nb bc, .slice dd nd dc] 33)) :=
    ⟨by simp, by go_simp, by go_simp, by go_simp, HR.out.1.below hb0, HR.out.2.1.below hb0, HR.out.2.2.below hb0⟩
  have HB0 := Lib.hid hb0
  refine (HCat.out _ h3).mono ?_
  rintro e w1 ⟨v1, rfl, hown1, hb1⟩
  have HB1 := Lib.hid (below_then HB0.out (Nat.le_refl _) hb1)
  have hm1 : MRow w1 v1 L := ⟨Lst.owned enM_len (by decide) rfl hown1, fun x hx => (HMR.out x hx).below HB1.out⟩
  have HM1 := Lib.hid hm1
  clear hC3 hb0 h3 hown1 hb1 hm1
  go_wp2_with fail
  refine (copies_any v1 L w1 HM1.out (fun x hx => (HSM.out x hx).over) (by have := HN.out; omega)).mono ?_
  rintro e w2 ⟨v2, R2, rfl, ⟨g, cap, rfl⟩, hmap, hcop, hb2⟩
  have HB2 := Lib.hid (below_then HB1.out (Nat.le_refl _) hb2)
  have hl2 : R2.length = L.length := by have := congrArg List.length hmap; simpa using this
  have hcop := hcop.base HB1.out.size
  have hs2 : ∀ x ∈ R2, Small x.1 := fun x hx => by
    have h1 : x.1 ∈ L.map (·.1) := by rw [← hmap]; exact List.mem_map.2 ⟨x, hx, rfl⟩
    obtain ⟨y, hy, e⟩ := List.mem_map.1 h1
    rw [← e]; exact HSM.out y hy
  rw [← hl2] at hcop
  have hsrt := sort_copied w.heap.size g cap R2 w2 hcop hs2 (by have := HN.out; omega)
  rw [hl2, ← HN.out] at hsrt
  have HSRT := Lib.hid hsrt
  have HMP := Lib.hid hmap
  have hgb := (hcop.row.lt g rfl).1
  rw [← HN.out]
  clear hsrt hmap hcop hl2 hs2 hb2
  go_wp2_with fail
  refine HSRT.out.mono ?_
  rintro e w3 ⟨rfl, R3, hp, hs, hcop, hg⟩
  have HB3 := Lib.hid (HB2.out.grown hg HB2.out.size (fun k hk => by have e2 : g = k := (by injection hk); omega))
  have HF := Lib.hid (And.intro hp (And.intro hs hcop))
  clear hp hs hcop hg
  go_wp2_with fail
  go_ret
  refine ⟨g, cap, R3, rfl, HF.out.2.2, ?_, List.pairwise_map.2 HF.out.2.1, HB3.out⟩
  have h1 := HF.out.1.map (·.1)
  rw [HMP.out, HE.out] at h1
  exact h1

def JoinR (FC : Nat → Prop) (w : World) (n : Nat) (e : Ending) (w' : World) : Prop := ∃ S, ∃ a b d c, e = .returned (.agg #[a, b, d]) ∧ Lies w' a b d c ∧ Reps S c ∧ Okc c n ∧ RowKit.Below w.heap.size w w' ∧ ∀ base, FC base → Fresh base w' a b d
set_option maxHeartbeats 4000000 in
set_option maxRecDepth 100000 in
theorem join_raw (a b d a' b' d' : Value) (c c' : Con) (S : Mu → Prop) (n n' : Nat) (w : World) (hT : Tabs w) (hc : Lies w a b d c) (hR : Reps S c) (hO : Okc c n) (hc' : Lies w a' b' d' c') (hO' : Oks c' n') (hn : n + n' ≤ 90000) :
    Calls Tryz.prog 28 #[.agg #[a, b, d], .agg #[a', b', d']] w (JoinR (fun base => base ≤ w.heap.size ∧ Fresh base w a b d) w (n + n')) := by
  obtain ⟨ao, na, ac, rfl⟩ := hc.cells.slice
  obtain ⟨bo, nb, bc, rfl⟩ := hc.wipes.slice
  obtain ⟨dd, nd, dc, rfl⟩ := hc.sibs.slice
  obtain ⟨ao', na', ac', rfl⟩ := hc'.cells.slice
  obtain ⟨bo', nb', bc', rfl⟩ := hc'.wipes.slice
  obtain ⟨dd', nd', dc', rfl⟩ := hc'.sibs.slice
  have HAL := Lib.hid (fun (z : World) (h : RowKit.Below w.heap.size w z) => all_raw _ _ _ c' n' z (hc'.below h) hO' (by omega))
  have HT := Lib.hid hT
  have HC := Lib.hid hc
  have HR := Lib.hid hR
  have HO := Lib.hid hO
  have HO' := Lib.hid hO'
  have hC0 := ((C3.new w (.slice ao na ac) (.slice bo nb bc) (.slice dd nd dc)).below ((Below.refl _ _).alloc (Nat.le_refl _) (.cells #[.slice ao' na' ac', .slice bo' nb' bc', .slice dd' nd' dc'] 35))).below ((Below.refl _ _).alloc (by simp) (.cells #[.slice none 0 0, .slice none 0 0, .slice none 0 0] 35))
  have hC1 := C3.new ((w.alloc (.cells #[.slice ao na ac, .slice bo nb bc, .slice dd nd dc] 35)).alloc (.cells #[.slice ao' na' ac', .slice bo' nb' bc', .slice dd' nd' dc'] 35)) (.slice none 0 0) (.slice none 0 0) (.slice none 0 0)
  rw [World.size_alloc, World.size_alloc] at hC1
  have hB := (((Below.refl _ w).alloc (Nat.le_refl _) (.cells #[.slice ao na ac, .slice bo nb bc, .slice dd nd dc] 35)).alloc (by simp) (.cells #[.slice ao' na' ac', .slice bo' nb' bc', .slice dd' nd' dc'] 35)).alloc (by simp; omega) (.cells #[.slice none 0 0, .slice none 0 0, .slice none 0 0] 35)
  have HC0 := Lib.hid hC0
  have HC1 := Lib.hid hC1
  have HB0 := Lib.hid hB
  clear hT hc hR hO hc' hO' hC0 hC1 hB
  go_enter Tryz.func28, Tryz.ntmps28
  go_wp2_with fail
  refine (HAL.out _ HB0.out).mono ?_
  rintro e w1 ⟨g, cap, R, rfl, hcop, hperm, -, hb1⟩
  have HB1 := Lib.hid (below_then HB0.out (Nat.le_refl _) hb1)
  have HC01 := Lib.hid (HC0.out.below hb1)
  have HC11 := Lib.hid (HC1.out.below hb1)
  obtain ⟨N, hN⟩ : ∃ N, N = c'.all.length := ⟨_, rfl⟩
  have hNR : N = R.length := by have := hperm.length_eq; rw [List.length_map] at this; rw [hN, this]
  rw [← hN] at hcop ⊢
  have HV := Lib.hid hcop.mrow
  have HN := Lib.hid hNR
  have HP := Lib.hid hperm
  have hNn : N ≤ n' := by rw [hN]; exact HO'.out.len
  have HS := Lib.hid (show ∀ x ∈ R, Small x.1 from fun x hx => HO'.out.small _ (hperm.mem_iff.1 (List.mem_map.2 ⟨x, hx, rfl⟩)))
  clear hcop hperm hb1 hN hNR
  go_wp2_with fail
  go_loopw [10] (fun iv wr => ∃ (k : Nat), k ≤ N ∧ iv = .int .i64 k ∧ Hid (C3 wr (w.heap.size + 1 + 1) (.slice none 0 0) (.slice none 0 0) (.slice none 0 0)) ∧ Hid (HoldsF (fun base => base ≤ w.heap.size ∧ Fresh base w (.slice ao na ac) (.slice bo nb bc) (.slice dd nd dc)) w w.heap.size (Two S ((R.map (·.1)).take k)) (n + k) wr) ∧ Hid (MRow wr (.slice (some ⟨g, 0, none⟩) N cap) R)) (fun iv _ => N - (intOf iv).toNat)
  case atStart => exact ⟨0, by omega, rfl, HC11, Lib.hid ⟨_, _, _, _, _, _, _, _, _, c, HC01.out, HC.out.below HB1.out, HR.out.same (two_nil S), HO.out, HB1.out, fun base h => h.2.below HB1.out⟩, HV⟩
  case round =>
    obtain ⟨k, hk, rfl, hC, hH, hV⟩ := hrel
    obtain ⟨o1, m1, k1, o2, m2, k2, o3, m3, k3, cc, h3, hl, hr, ho, hb, hfr⟩ := hH.out
    have HFR := Lib.hid hfr
    have HB := Lib.hid hb
    have H3 := Lib.hid h3
    have HL := Lib.hid hl
    have HR := Lib.hid hr
    have HO := Lib.hid ho
    clear h3 hl hr ho hb hfr hH
    obtain ⟨hl3, p0, p1, p2, q0, q1, q2⟩ := H3.out
    by_cases hlt : k < N
    · have hkr : k < R.length := by have := HN.out; omega
      have hget : R[k]? = some R[k] := List.getElem?_eq_getElem hkr
      have hxs := HS.out _ (List.getElem_mem hkr)
      have hxo := hV.out.over _ (List.getElem_mem hkr)
      obtain ⟨b, off, e1, hat⟩ := hV.out.at_ hget
      have htk : (R.map (·.1)).take (k + 1) = (R.map (·.1)).take k ++ [R[k].1] := by rw [List.take_add_one, List.getElem?_map, hget]; rfl
      cases e1
      rw [Nat.zero_add] at hat
      obtain ⟨x, hx⟩ : ∃ x, x = R[k] := ⟨_, rfl⟩
      rw [← hx] at hxs hxo hat htk
      clear hx hget
      have HTK := Lib.hid htk
      have HAD := Lib.hid (fun (W : World) (hW : RowKit.Below wr.heap.size wr W) => add_anyF _ _ _ cc _ (n + k) x W ((HT.out.below HB.out).below hW) (HL.out.below hW) HR.out HO.out (by omega) (hxo.below hW) hxs)
      obtain ⟨xo, xc, ex, -, -⟩ := Over.form hxo
      obtain ⟨⟨at1, ak1, akey1, afin1, aval1, aex1, ⟨ap1, al1, aw1⟩, aov1⟩, av1⟩ := x
      simp only [] at ex
      obtain ⟨xn, hxn⟩ : ∃ k, k = aov1.length := ⟨_, rfl⟩
      rw [← hxn] at ex
      subst ex
      obtain ⟨hbl, z0, z1, z2, z3, z4, z5, z6, z7, z8, z9⟩ := hat
      clear hxn htk hxs hxo
      unfold vM at HAD
      simp only [] at HAD z0 z1 z2 z3 z4 z5 z6 z7 z8 z9
      go_wp2_with fail
      have hbm := (Below.refl wr.heap.size wr).alloc (Nat.le_refl _) (.cells #[.int .i64 at1, .int .i64 ak1, .string akey1, .string afin1, .string aval1, .int .i64 aex1, .int .i64 ap1, .int .i64 al1, .int .i64 aw1, .slice xo xn xc] 32)
      refine (HAD.out _ hbm).mono ?_
      rintro e w3 ⟨va, vb, vd, c', rfl, hl, hr, ho, hb3, hf3⟩
      have HF3 := Lib.hid (fun base (h : base ≤ w.heap.size ∧ Fresh base w (.slice ao na ac) (.slice bo nb bc) (.slice dd nd dc)) => hf3 base (Nat.le_trans h.1 (Nat.le_trans HB.out.size hbm.size)) ((HFR.out base h).below hbm))
      obtain ⟨o4, m4, k4, hv1⟩ := hl.cells.slice
      obtain ⟨o5, m5, k5, hv2⟩ := hl.wipes.slice
      obtain ⟨o6, m6, k6, hv3⟩ := hl.sibs.slice
      subst hv1 hv2 hv3
      have hb4 := below_then hbm (Nat.le_refl _) hb3
      have H34 := Lib.hid (H3.out.below hb4)
      have HC4 := Lib.hid (hC.out.below hb4)
      have HV4 := Lib.hid (hV.out.below hb4)
      have HB4 := Lib.hid (below_then HB.out (Nat.le_refl _) hb4)
      have HX := Lib.hid (And.intro hl (And.intro hr ho))
      clear hl hr ho hb3 hf3 hb4 p0 p1 p2 q0 q1 q2 z0 z1 z2 z3 z4 z5 z6 z7 z8 z9
      obtain ⟨-, p0, p1, p2, q0, q1, q2⟩ := H34.out
      go_wp2_with fail
      go_roundw
      case rel =>
        refine ⟨k + 1, by omega, by go_num, Lib.hid ?_, Lib.hid ⟨o4, m4, k4, o5, m5, k5, o6, m6, k6, c', c3_put H34.out _ _ _, HX.out.1.plain3 (plain3 H34.out _ _ _), HX.out.2.1.same (fun y => ?_), HX.out.2.2, c3_put_below HB4.out (by omega) _ _ _, fun base h => (HF3.out base h).put H34.out⟩, Lib.hid (HV4.out.plain3 (plain3 H34.out _ _ _))⟩
        · exact ((HC4.out.other (by omega)).other (by omega)).other (by omega)
        · rw [HTK.out]; exact (two_snoc _ _ _ _).symm
      case measure => simp [intOf]; omega
    · obtain rfl : k = N := by omega
      obtain ⟨-, t0, t1, t2, f0, f1, f2⟩ := hC.out
      go_wp2_with fail
      obtain ⟨-, e0, e1, e2, -⟩ := c3_put hC.out (.slice o1 m1 k1) (.slice o2 m2 k2) (.slice o3 m3 k3)
      refine bodyPost_ret (v := .agg #[.slice o1 m1 k1, .slice o2 m2 k2, .slice o3 m3 k3]) (by simp [results, Tryz.f28, go_sem, e0, e1, e2]) rfl ?_
      have hh := HR.out
      rw [HN.out, show (R.map (·.1)).take R.length = R.map (·.1) from by rw [List.take_of_length_le (by simp)]] at hh
      exact ⟨_, _, _, _, cc, rfl, HL.out.plain3 (plain3 hC.out _ _ _), hh, HO.out.more (by omega), c3_put_below HB.out (by omega) _ _ _, fun base h => (HFR.out base h).put hC.out⟩
end Go.Proofs.YtljlbkichcjlfaaGreatDoor.Mut

namespace Go.Proofs.YtljlbkichcjlfaaGreatDoor.Trc
open Go.RowKit Go.Shelf Go.Proofs.YtljlbkichcjlfaaGreatDoor.RegInv Go.Proofs.YtljlbkichcjlfaaGreatDoor.Mut Go.Proofs.YtljlbkichcjlfaaGreatDoor.Ints
set_option linter.unusedSectionVars false
variable [Inhabited Lim]
attribute [local go_sem] Oper.semAt_some

/-- What lies behind an event that came with a call. -/
structure EvAt (w : World) (e : Ev) (Q NN : List Int) (R : List Rw) (X : List Stp) (c : Con) : Prop where
  over : Over w e.m
  q : IRow w e.qv Q
  n : IRow w e.nv NN
  r : WRow w e.rv R
  x : SRow w e.cv X
  con : Lies w e.ca e.cb e.cd c
theorem EvAt.below {w w' : World} {e : Ev} {Q NN : List Int} {R : List Rw} {X : List Stp} {c : Con} (h : EvAt w e Q NN R X c) (hb : Below w.heap.size w w') : EvAt w' e Q NN R X c :=
  ⟨h.over.below hb, Lst.below h.q hb, Lst.below h.n hb, Lst.below h.r hb, Lst.below h.x hb, h.con.below hb⟩
/-- .. and that it is as small as the law asks. -/
structure EvSm (e : Ev) (Q NN : List Int) (R : List Rw) (X : List Stp) (c : Con) : Prop where
  small : Small e.m.1
  ql : Q.length ≤ 20
  nl : NN.length ≤ 17592186043904
  rl : R.length ≤ 20
  rs : ∀ r ∈ R, r.key.size ≤ 300 ∧ r.val.size ≤ 300
  xl : X.length ≤ 50
  con : Oks c 15
/-- An event tells this line. -/
def Same1 (e e' : Ev) : Prop := e'.m.1 = e.m.1 ∧ ∀ Q R, lineF e' Q R = lineF e Q R
/-- A load, whole. -/
theorem loadVar_all {P : Program} {w : World} {g : Nat} {t : TypeId} {l : List Value} (h : VarAt w g t l) (ty : TypeId) (n : Nat) (hl : l.length = n) (d : TypeDesc) (hu : P.underlying ty = some d) (hd : d.isRow = true) (hi : (P.info? ty).map (·.size) = some n) :
    (loadVar ty ⟨g, 0, none⟩).run P w = .ok (.agg ⟨l⟩) w := by
  have := h.loadAll (P := P) ty n hl d hu hd hi
  simpa only [Instr.loadAt, Instr.sureAddr, Sem.run_bind, Sem.run_pure, Result.andThen_ok] using this
theorem results_cell_cell {P : Program} {fn : Func} {p q : Tmp} {ty tb : TypeId} (h : fn.results = #[.cell p ty, .cell q tb]) (tmps : Array Value) (w : World) (ga gb : Addr) (va vb : Value)
    (hp : tmps.getD p undef = .pointer (some ga)) (hq : tmps.getD q undef = .pointer (some gb)) (hla : (loadVar ty ga).run P w = .ok va w) (hlb : (loadVar tb gb).run P w = .ok vb w) :
    (results fn tmps).run P w = .ok (.tuple #[va, vb]) w := by
  have hp' : tmps[p]?.getD undef = .pointer (some ga) := by simpa using hp
  have hq' : tmps[q]?.getD undef = .pointer (some gb) := by simpa using hq
  simp [results, h, hp', hq', asAddr, hla, hlb, Sem.run_bind, Result.andThen]
theorem load_bool {w : World} {g : Nat} {b : Bool} (h : Boxed w g 4 (.bool b)) : (loadVar 4 ⟨g, 0, none⟩).run Tryz.prog w = .ok (.bool b) w := by
  have hc := h.cell
  go_simp
theorem join_raw0 {a b d : Value} {c : Con} {n : Nat} {w : World} (hT : Tabs w) (hl : Lies w a b d c) (h : Oks c n) (hn : n ≤ 80000) : Calls Tryz.prog 28 #[.agg #[.slice none 0 0, .slice none 0 0, .slice none 0 0], .agg #[a, b, d]] w (JoinP (fun _ a b d => a.oneCell' = true ∧ b.oneCell' = true ∧ d.oneCell' = true) w) := by
  refine (join_raw _ _ _ a b d conZ c _ 0 n w hT (Lies.none w) repsZ okcZ hl h (by omega)).mono ?_
  rintro e w' ⟨S, a, b, d, c2, rfl, hl2, -, -, hb, -⟩
  obtain ⟨a1, a2, a3, ea⟩ := hl2.cells.slice
  obtain ⟨b1, b2, b3, eb⟩ := hl2.wipes.slice
  obtain ⟨d1, d2, d3, ed⟩ := hl2.sibs.slice
  subst ea eb ed
  exact ⟨a1, a2, a3, b1, b2, b3, d1, d2, d3, rfl, ⟨rfl, rfl, rfl⟩, hb⟩
theorem enE_one_of (e : Ev) (h1 : e.m.2.oneCell' = true) (h2 : e.ca.oneCell' = true) (h3 : e.cb.oneCell' = true) (h4 : e.cd.oneCell' = true) (h5 : e.qv.oneCell' = true) (h6 : e.nv.oneCell' = true) (h7 : e.rv.oneCell' = true) (h8 : e.cv.oneCell' = true) : (enE e).all (·.oneCell') = true := by
  simp [enE, Value.oneCell', h1, h2, h3, h4, h5, h6, h7, h8]
  simp [Value.oneCell'] at h1 h2 h3 h4 h5 h6 h7 h8 ⊢
  simp [h1, h2, h3, h4, h5, h6, h7, h8]
theorem own_var {W W' : World} {row : Option Nat} {B : Nat} {t : TypeId} {l : List Value} (h : VarAt W B t l) (hg : W.grownBy W' row) (hr : ∀ r, row = some r → ∃ o : Obj, W.heap[r]? = some o ∧ o.isCells = false) : VarAt W' B t l :=
  (hg.block B h.lt (fun e' => by
    obtain ⟨o, ho, hc⟩ := hr B e'.symm
    rw [show W.heap[B]? = _ from h] at ho; cases ho; cases hc)).trans h
theorem EvAt.one {w : World} {e : Ev} {Q NN : List Int} {R : List Rw} {X : List Stp} {c : Con} (h : EvAt w e Q NN R X c) : (enE e).all (·.oneCell') = true := by
  obtain ⟨_, _, e1, _⟩ := h.over.form
  obtain ⟨_, _, e2, _⟩ := Lst.form h.q
  obtain ⟨_, _, e3, _⟩ := Lst.form h.n
  obtain ⟨_, _, e4, _⟩ := Lst.form h.r
  obtain ⟨_, _, e5, _⟩ := Lst.form h.x
  obtain ⟨_, _, _, e6⟩ := h.con.cells.slice
  obtain ⟨_, _, _, e7⟩ := h.con.wipes.slice
  obtain ⟨_, _, _, e8⟩ := h.con.sibs.slice
  exact enE_one_of e (by rw [e1]; rfl) (by rw [e6]; rfl) (by rw [e7]; rfl) (by rw [e8]; rfl) (by rw [e2]; rfl) (by rw [e3]; rfl) (by rw [e4]; rfl) (by rw [e5]; rfl)

/-- What Answer hands back, if there is one: a copy of it. -/
def Hit (w : World) (x : Ev) (w' : World) (e' : Ev) : Prop := Same1 x e' ∧ Small e'.m.1 ∧ ∃ Q R, IRow w x.qv Q ∧ WRow w x.rv R ∧ Q.length ≤ 20 ∧ R.length ≤ 20 ∧ (∀ r ∈ R, r.key.size ≤ 300 ∧ r.val.size ≤ 300) ∧
  w'.ownsRow w.heap.size 3 1 e'.qv Q.length (Q.flatMap enI) ∧ w'.ownsRow w.heap.size 49 5 e'.rv R.length (R.flatMap enRw)
theorem hit_own {w X Y : World} {x e' : Ev} {row : Option Nat} (h : Hit w x X e') (hg : X.grownBy Y row) (hr : ∀ r, row = some r → ∃ o : Obj, X.heap[r]? = some o ∧ o.isCells = false) : Hit w x Y e' := by
  obtain ⟨h1, h2, Q, R, h3, h4, h5, h6, h7, h8, h9⟩ := h
  exact ⟨h1, h2, Q, R, h3, h4, h5, h6, h7, own_row h8 hg hr, own_row h9 hg hr⟩
def zE : Ev := ⟨0, 0, 0, 0, (⟨0, 0, ⟨#[]⟩, ⟨#[]⟩, ⟨#[]⟩, 0, ⟨0, 0, 0⟩, []⟩, .slice none 0 0), .slice none 0 0, .slice none 0 0, .slice none 0 0, ⟨0, 0, 0⟩, ⟨0, 0, 0⟩, false, 0, .slice none 0 0, .slice none 0 0, 0, 0, ⟨#[]⟩, ⟨#[]⟩, .slice none 0 0, .slice none 0 0⟩
def firstE (op : Int) (T : List (Ev × Nat)) : Option (Ev × Nat) := T.find? fun p => decide (p.1.op = op)
def AnsP (w : World) (op : Int) (T : List (Ev × Nat)) (e : Ending) (w' : World) : Prop := Below w.heap.size w w' ∧
  match firstE op T with
  | none => e = .returned (.tuple #[vE zE, .bool false])
  | some p => ∃ e', e = .returned (.tuple #[vE e', .bool true]) ∧ (enE e').all (·.oneCell') = true ∧ Hit w p.1 w' e'

abbrev Sb (L : List Ev) := {e : Ev // e ∈ L}
theorem lst_attach {w : World} {v : Value} {L : List Ev} (h : Lst 33 enE w v L) : Lst 33 (fun e : Sb L => enE e.1) w v L.attach := by
  obtain ⟨ao, cap, hv, h1, h2, h3⟩ := h
  refine ⟨ao, cap, by rw [List.length_attach]; exact hv, by rw [List.length_attach]; exact h1, h2, ?_⟩
  rw [List.length_attach]
  rcases h3 with h3 | ⟨b, off, ha, hlt, hc⟩
  · exact Or.inl h3
  · refine Or.inr ⟨b, off, ha, hlt, fun i x hi j hj => hc i x.1 ?_ j hj⟩
    have := congrArg (Option.map Subtype.val) hi
    rwa [← List.getElem?_map, List.attach_map_subtype_val] at this
theorem ofK_attach (k : Int) (L : List Ev) : (ofK (fun e : Sb L => e.1.kind) k L.attach L.length).map (fun p => (p.1.1, p.2)) = ofK Ev.kind k L L.length := by
  unfold ofK
  rw [List.take_length, show L.attach.take L.length = L.attach from List.take_of_length_le (by simp)]
  conv => rhs; rw [← List.attach_map_subtype_val L]
  rw [List.zipIdx_map, List.filter_map]
  rfl
/-- What a copy comes to here. -/
def CopH (W : World) (x : Ev) (Q : List Int) (R : List Rw) (r : Ending) (w' : World) : Prop := ∃ e', r = .returned (.agg ⟨enE e'⟩) ∧ (enE e').all (·.oneCell') = true ∧ Same1 x e' ∧
  w'.ownsRow W.heap.size 3 1 e'.qv Q.length (Q.flatMap enI) ∧ w'.ownsRow W.heap.size 49 5 e'.rv R.length (R.flatMap enRw) ∧ Below W.heap.size W w'
theorem copH_of {x : Ev} {Q NN : List Int} {R : List Rw} {X : List Stp} {W w' : World} {r : Ending} (h : CopE (fun _ a b d => a.oneCell' = true ∧ b.oneCell' = true ∧ d.oneCell' = true) W x Q NN R X r w') : CopH W x Q R r w' := by
  obtain ⟨mv, ca, cb, cd, qv, nv, rv, cv, rfl, hb2, hov, hkc, o1, o2, o3, o4⟩ := h
  obtain ⟨_, _, e1, _⟩ := hov.form
  simp only [] at e1
  obtain ⟨_, _, e2⟩ := row_form o1
  obtain ⟨_, _, e3⟩ := row_form o2
  obtain ⟨_, _, e4⟩ := row_form o3
  obtain ⟨_, _, e5⟩ := row_form o4
  exact ⟨_, rfl, enE_one_of _ (by rw [e1]; rfl) hkc.1 hkc.2.1 hkc.2.2 (by rw [e2]; rfl) (by rw [e3]; rfl) (by rw [e4]; rfl) (by rw [e5]; rfl), ⟨rfl, fun Q R => rfl⟩, o1, o3, hb2⟩
/-- What is known in a round: none was hit yet. -/
def AnsI {L : List Ev} (w : World) (B : Nat) (op : Int) (pre : List (Sb L × Nat)) (W : World) : Prop := (∀ p ∈ pre, p.1.1.op ≠ op) ∧ VarAt W (B + 1) 39 (enE zE) ∧ Boxed W (B + 2) 4 (.bool false) ∧ Boxed W B 3 (.int .i64 op)
theorem ansI_own {L : List Ev} (w : World) (B : Nat) (op : Int) : Own (AnsI (L := L) w B op) := by
  rintro s X Y row ⟨h0, h1, h2, h3⟩ hg hr
  exact ⟨h0, own_var h1 hg hr, own_box h2 hg hr, own_box h3 hg hr⟩
def AnsX {L : List Ev} (w : World) (B : Nat) (op : Int) (pre : List (Sb L × Nat)) (W : World) : Prop := ∃ q x e', pre = q ++ [x] ∧ x.1.1.op = op ∧ (∀ p ∈ q, p.1.1.op ≠ op) ∧ VarAt W (B + 1) 39 (enE e') ∧ Boxed W (B + 2) 4 (.bool true) ∧ (enE e').all (·.oneCell') = true ∧ Hit w x.1.1 W e'
theorem ansX_own {L : List Ev} (w : World) (B : Nat) (op : Int) : Own (AnsX (L := L) w B op) := by
  rintro s X Y row ⟨q, x, e', h0, h1, h2, h3, h4, h5, h6⟩ hg hr
  exact ⟨q, x, e', h0, h1, h2, own_var h3 hg hr, own_box h4 hg hr, h5, hit_own h6 hg hr⟩

/-- Behind the two stores of a hit. -/
theorem ans_stored {w W w' w2 : World} {B : Nat} {Q : List Int} {R : List Rw} {qv rv : Value} (hbW : Below w.heap.size w W) (hB : w.heap.size ≤ B) (hs : w'.heap.size ≤ W.heap.size) (hb2 : Below W.heap.size W w2) (v2 : VarAt w2 (B + 1) 39 (enE zE)) (c3 : Boxed w2 (B + 2) 4 (.bool false))
    (o1 : w2.ownsRow W.heap.size 3 1 qv Q.length (Q.flatMap enI)) (o2 : w2.ownsRow W.heap.size 49 5 rv R.length (R.flatMap enRw)) (l : List Value) (W3 : World) (hW3 : W3 = w2.setRow (B + 1) ⟨l⟩) (hBw : B + 2 < w'.heap.size) :
    Boxed W3 (B + 2) 4 (.bool false) ∧ KeepsFrom w'.heap.size W (W3.setCell ⟨B + 2, 0, none⟩ (.bool true)) ∧ VarAt (W3.setCell ⟨B + 2, 0, none⟩ (.bool true)) (B + 1) 39 l ∧ Boxed (W3.setCell ⟨B + 2, 0, none⟩ (.bool true)) (B + 2) 4 (.bool true) ∧
      (W3.setCell ⟨B + 2, 0, none⟩ (.bool true)).ownsRow w.heap.size 3 1 qv Q.length (Q.flatMap enI) ∧ (W3.setCell ⟨B + 2, 0, none⟩ (.bool true)).ownsRow w.heap.size 49 5 rv R.length (R.flatMap enRw) ∧ (Below w.heap.size w' W → Below w.heap.size w' (W3.setCell ⟨B + 2, 0, none⟩ (.bool true))) := by
  have hv3 : VarAt W3 (B + 1) 39 l := by rw [hW3]; exact v2.row l
  have hb3 : VarAt W3 (B + 2) 4 [.bool false] := by rw [hW3]; exact VarAt.row_other (show VarAt w2 (B + 2) 4 [.bool false] from c3) _ (by omega)
  have hk3 : KeepT 39 w2 W3 := by rw [hW3]; exact KeepT.row v2 _
  have hk4 := KeepT.set hb3 0 (.bool true)
  have hKF : KeepsFrom w'.heap.size w2 W3 := KeepsFrom.of_grownBy (row := some (B + 1)) (by rw [hW3]; exact ⟨rfl, rfl, rfl, by simp, fun k _ hk => setRow_other w2 (B + 1) k _ (fun e => hk (by rw [e]))⟩) (fun j hj => by cases hj; omega)
  have hK2 : KeepsFrom w'.heap.size W w2 := ⟨hb2.size, fun k o _ hk _ => (hb2.block k (Array.getElem?_eq_some_iff.1 hk).1).trans hk⟩
  refine ⟨hb3, (hK2.trans hKF).trans ((KeepsOthers.setCell W3 _ _).from _), hv3.set_other 0 _ (by omega), VarAt.set hb3 0 _, own_base (hk4.own (hk3.own o1 (by decide)) (by decide)) hbW.size, own_base (hk4.own (hk3.own o2 (by decide)) (by decide)) hbW.size, fun h => ?_⟩
  have h1 : Below w.heap.size w' W3 := by rw [hW3]; exact setRow_below (h.trans (hb2.mono hbW.size)) _ (by omega) _
  exact h1.setCell (p := ⟨B + 2, 0, none⟩) (by show w.heap.size ≤ B + 2; omega) _

set_option maxRecDepth 100000 in
set_option maxHeartbeats 4000000 in
theorem answer_any (op : Int) (ao : Option Addr) (cap : Nat) (L : List Ev) (w : World) (hT : Tabs w) (ha : Lst 33 enE w (.slice ao L.length cap) L) (hl : L.length ≤ 1000) (hk : ∀ e ∈ L, ∃ Q NN R X c, EvAt w e Q NN R X c ∧ EvSm e Q NN R X c) :
    Calls Tryz.prog 7 #[.int .i64 op, .slice ao L.length cap] w (AnsP w op (ofK Ev.kind 5 L L.length)) := by
  have hone : ∀ x ∈ L, (enE x).all (·.oneCell') = true := fun x hx => by
    obtain ⟨Q, NN, R, X, c, h1, h2⟩ := hk x hx
    exact h1.one
  obtain ⟨T, hTT⟩ : ∃ T, T = ofK (fun e : Sb L => e.1.kind) 5 L.attach L.attach.length := ⟨_, rfl⟩
  have hTm : ofK Ev.kind 5 L L.length = T.map fun p => (p.1.1, p.2) := by rw [hTT, ← ofK_attach, List.length_attach]
  have hol : T.length ≤ 1000 := by rw [hTT]; exact Nat.le_trans (ofK_le _ 5 _) (by rw [List.length_attach]; exact hl)
  have haA := lst_attach ha
  obtain ⟨N, hN⟩ : ∃ N, N = L.length := ⟨_, rfl⟩
  obtain ⟨B, hB⟩ : ∃ B, B = w.heap.size := ⟨_, rfl⟩
  rw [hTm, ← hN]
  rw [← hN] at ha hl haA
  obtain ⟨W0, hW0⟩ : ∃ W0, W0 = ((w.alloc (.cells #[.int .i64 op] 3)).alloc (.cells #[.int .i64 0, .int .i64 0, .int .i64 0, .int .i64 0, .int .i64 0, .int .i64 0, .string ⟨#[]⟩, .string ⟨#[]⟩, .string ⟨#[]⟩, .int .i64 0, .int .i64 0, .int .i64 0, .int .i64 0, .slice none 0 0, .slice none 0 0, .slice none 0 0, .slice none 0 0, .int .i64 0, .int .i64 0, .int .i64 0, .int .i64 0, .int .i64 0, .int .i64 0, .bool false, .int .i64 0, .slice none 0 0, .slice none 0 0, .int .i64 0, .int .i64 0, .string ⟨#[]⟩, .string ⟨#[]⟩, .slice none 0 0, .slice none 0 0] 39)).alloc (.cells #[.bool false] 4) := ⟨_, rfl⟩
  have hb0 : Below w.heap.size w W0 := by rw [hW0]; exact (((Below.refl _ w).alloc (Nat.le_refl _) _).alloc (by simp) _).alloc (by simp; omega) _
  have hs0 : W0.heap.size = B + 3 := by rw [hW0, hB]; simp
  have b0 : Boxed W0 B 3 (.int .i64 op) := by rw [hW0, hB]; exact ((Boxed.new w 3 (.int .i64 op)).alloc _).alloc _
  have v0 : VarAt W0 (B + 1) 39 (enE zE) := by
    rw [hW0, hB]
    have h := VarAt.new (w.alloc (.cells #[.int .i64 op] 3)) 39 [.int .i64 0, .int .i64 0, .int .i64 0, .int .i64 0, .int .i64 0, .int .i64 0, .string ⟨#[]⟩, .string ⟨#[]⟩, .string ⟨#[]⟩, .int .i64 0, .int .i64 0, .int .i64 0, .int .i64 0, .slice none 0 0, .slice none 0 0, .slice none 0 0, .slice none 0 0, .int .i64 0, .int .i64 0, .int .i64 0, .int .i64 0, .int .i64 0, .int .i64 0, .bool false, .int .i64 0, .slice none 0 0, .slice none 0 0, .int .i64 0, .int .i64 0, .string ⟨#[]⟩, .string ⟨#[]⟩, .slice none 0 0, .slice none 0 0]
    rw [World.size_alloc] at h
    exact h.below ((Below.refl _ _).alloc (Nat.le_refl _) _)
  have c0 : Boxed W0 (B + 2) 4 (.bool false) := by
    rw [hW0, hB]
    have h := Boxed.new ((w.alloc (.cells #[.int .i64 op] 3)).alloc (.cells #[.int .i64 0, .int .i64 0, .int .i64 0, .int .i64 0, .int .i64 0, .int .i64 0, .string ⟨#[]⟩, .string ⟨#[]⟩, .string ⟨#[]⟩, .int .i64 0, .int .i64 0, .int .i64 0, .int .i64 0, .slice none 0 0, .slice none 0 0, .slice none 0 0, .slice none 0 0, .int .i64 0, .int .i64 0, .int .i64 0, .int .i64 0, .int .i64 0, .int .i64 0, .bool false, .int .i64 0, .slice none 0 0, .slice none 0 0, .int .i64 0, .int .i64 0, .string ⟨#[]⟩, .string ⟨#[]⟩, .slice none 0 0, .slice none 0 0] 39)) 4 (.bool false)
    rw [World.size_alloc, World.size_alloc] at h
    exact h
  have HA := Lib.hid haA
  clear haA
  have HN := Lib.hid hN
  have HB := Lib.hid hB
  have HTT := Lib.hid hTT
  have HT := Lib.hid hT
  have HK := Lib.hid (And.intro hk hone)
  have HB0 := Lib.hid hb0
  have HI0 := Lib.hid (And.intro b0 (And.intro v0 c0))
  have HW0 := Lib.hid hW0
  clear ha hT hN hB hTT hTm hk hone hb0 b0 v0 c0 hW0
  refine (callsIn_wide (n := 3)).1 ?_
  refine callsIn_of_wp_marks Tryz.func7 rfl trivial ?_ rfl
  simp only [Tryz.ntmps7, List.size_toArray, List.length_cons, List.length_nil, Nat.reduceAdd, Nat.reduceSub, Array.replicate_succ, Array.replicate_zero, List.push_toArray, List.append_toArray, List.nil_append, List.cons_append]
  gi_wp2_with (refine ⟨trivial, ?_⟩; rw [← HW0.out, ← HB.out]; gi_at_call 19; refine (of_any 2 5 ao N cap _).mono ?_; rintro e w' ⟨rfl, h1, h2, h3, h4⟩; rw [hs0] at h1 h2 h3 h4 ⊢)
  have hb : Below w.heap.size w w' := below_then HB0.out (Nat.le_refl _) (by rw [hs0]; exact h3)
  have ha' := Lst.below HA.out hb
  have hI1 : AnsI (L := L) w B op [] w' := ⟨fun p hp => (by cases hp), HI0.out.2.1.below (by rw [hs0]; exact h3), box_below HI0.out.2.2 (by rw [hs0]; exact h3), box_below HI0.out.1 (by rw [hs0]; exact h3)⟩
  have hstops := of_stops (fun e : Sb L => e.1.kind) (fun e : Sb L => enE e.1) (fun e => enE_len e.1) (fun e => rfl) 2 (by omega) (B + 3 + 1) (B + 3) ao cap 5 L.attach N (by rw [HN.out, List.length_attach]) (by omega) (fun e _ => HK.out.2 e.1 e.2) w' h2.lt h1.lt h2.cell h1.cell ha'
  rw [← HTT.out] at hstops
  have hBle : w.heap.size ≤ B := Nat.le_of_eq HB.out.symm
  have HH := Lib.hid (And.intro h1 (And.intro h2 h3))
  clear h1 h2 h3
  refine wpIn_rangeFunc_ownH rfl (by omega) (gf := 37) (lb := #[.pointer (some ⟨B + 3 + 1, 0, none⟩), .pointer (some ⟨B + 3, 0, none⟩)]) rfl trivial (enters_of Tryz.func37 (by kernel_rfl) rfl)
    hstops (KeepE.trans _) (fun W b o o' hh hb ho _ => KeepE.put (fun e : Sb L => e.1.kind) _ (fun e => rfl) W b o o' (by omega) hb ho) (Below.refl _ _) (fun _ => rfl)
    (fun pre W => AnsI w B op pre W ∧ Below w.heap.size w' W)
    (fun c pre W => (c = .ret ∧ AnsX w B op pre W) ∧ Below w.heap.size w' W)
    (OwnFrom.and (Own.from (ansI_own _ _ _) _) (ownFrom_below (by omega) (by omega)))
    (fun c => OwnFrom.and (Own.from (fun s X Y row hs hg hr => ⟨hs.1, ansX_own _ _ _ _ _ _ _ hs.2 hg hr⟩) _) (ownFrom_below (by omega) (by omega)))
    ⟨hI1, Below.refl _ _⟩
    (fun x a' W => ∃ q, (VarAt W q 39 (enE x.1.1) ∧ w'.heap.size ≤ q) ∧ a' = { tmps := #[.int .i64 op, .slice ao N cap, .pointer (some ⟨B, 0, none⟩), undef, .pointer (some ⟨B + 1, 0, none⟩), .pointer (some ⟨B + 1 + 1, 0, none⟩), undef, .pointer (some ⟨q, 0, none⟩), .slice ao N cap, .func (.func 37) #[] #[.pointer (some ⟨B + 3 + 1, 0, none⟩), .pointer (some ⟨B + 3, 0, none⟩)], .int .i64 x.2, .agg ⟨enE x.1.1⟩, undef, undef, undef, undef, undef, undef, undef], defers := [] })
    (fun x a' X Y row _ hs hgr hr => by obtain ⟨q, ⟨e1, e3⟩, e2⟩ := hs; exact ⟨q, ⟨own_var e1 hgr (fun r e => (hr r e).2), e3⟩, e2⟩)
    ?assign ?body ?done ?stop
  case assign =>
    rintro l pre x W K ⟨⟨h0, v1, c1, c2⟩, hB1⟩ hK
    have hs := hB1.size
    obtain ⟨W1, hW1⟩ : ∃ W1, W1 = W.alloc (.cells ⟨enE x.1.1⟩ 39) := ⟨_, rfl⟩
    have HST := Lib.hid (show (Instr.storeAt 39 (.pointer (some ⟨W.heap.size, 0, none⟩)) (.agg ⟨enE x.1.1⟩)).run Tryz.prog (W.alloc (.cells #[.int .i64 0, .int .i64 0, .int .i64 0, .int .i64 0, .int .i64 0, .int .i64 0, .string ⟨#[]⟩, .string ⟨#[]⟩, .string ⟨#[]⟩, .int .i64 0, .int .i64 0, .int .i64 0, .int .i64 0, .slice none 0 0, .slice none 0 0, .slice none 0 0, .slice none 0 0, .int .i64 0, .int .i64 0, .int .i64 0, .int .i64 0, .int .i64 0, .int .i64 0, .bool false, .int .i64 0, .slice none 0 0, .slice none 0 0, .int .i64 0, .int .i64 0, .string ⟨#[]⟩, .string ⟨#[]⟩, .slice none 0 0, .slice none 0 0] 39)) = .ok () W1 by
      rw [hW1, ← World.setRow_alloc_new W #[.int .i64 0, .int .i64 0, .int .i64 0, .int .i64 0, .int .i64 0, .int .i64 0, .string ⟨#[]⟩, .string ⟨#[]⟩, .string ⟨#[]⟩, .int .i64 0, .int .i64 0, .int .i64 0, .int .i64 0, .slice none 0 0, .slice none 0 0, .slice none 0 0, .slice none 0 0, .int .i64 0, .int .i64 0, .int .i64 0, .int .i64 0, .int .i64 0, .int .i64 0, .bool false, .int .i64 0, .slice none 0 0, .slice none 0 0, .int .i64 0, .int .i64 0, .string ⟨#[]⟩, .string ⟨#[]⟩, .slice none 0 0, .slice none 0 0] ⟨enE x.1.1⟩ 39]
      exact (VarAt.new W 39 [.int .i64 0, .int .i64 0, .int .i64 0, .int .i64 0, .int .i64 0, .int .i64 0, .string ⟨#[]⟩, .string ⟨#[]⟩, .string ⟨#[]⟩, .int .i64 0, .int .i64 0, .int .i64 0, .int .i64 0, .slice none 0 0, .slice none 0 0, .slice none 0 0, .slice none 0 0, .int .i64 0, .int .i64 0, .int .i64 0, .int .i64 0, .int .i64 0, .int .i64 0, .bool false, .int .i64 0, .slice none 0 0, .slice none 0 0, .int .i64 0, .int .i64 0, .string ⟨#[]⟩, .string ⟨#[]⟩, .slice none 0 0, .slice none 0 0]).storeAll 39 33 (enE x.1.1) rfl rfl size_Ev (HK.out.2 x.1.1 x.1.2))
    have hbw : Below W.heap.size W W1 := by rw [hW1]; exact (Below.refl _ _).alloc (Nat.le_refl _) _
    have hbn : Below w.heap.size W W1 := hbw.mono (by omega)
    have hko : KeepsOthers W W1 := by rw [hW1]; exact KeepsOthers.alloc _ _
    have hv : VarAt W1 W.heap.size 39 (enE x.1.1) := by rw [hW1]; exact VarAt.new W _ _
    have hKE : KeepE (fun e : Sb L => enE e.1) (B + 3) (.slice ao N cap) L.attach W W1 := ⟨Keep.below hbw (by omega), fun r => Lst.below r hbw⟩
    have hII : AnsI w B op pre W1 ∧ Below w.heap.size w' W1 := ⟨⟨h0, v1.below hbw, box_below c1 hbw, box_below c2 hbw⟩, hB1.trans hbn⟩
    have HFIN := Lib.hid (hK _ W1 (hko.from _) hKE hII ⟨W.heap.size, ⟨hv, hs⟩, rfl⟩)
    clear hK hW1 hbw hbn hko hv hKE hII
    obtain ⟨V, hV⟩ : ∃ V, V = Value.agg ⟨enE x.1.1⟩ := ⟨_, rfl⟩
    rw [← hV] at HST HFIN ⊢
    clear hV
    gi_wp2_with (refine wpListIn_store_run rfl 39 _ _ rfl (.pointer (some ⟨W.heap.size, 0, none⟩)) V rfl rfl HST.out ?_)
    exact HFIN.out
  case body =>
    rintro l pre x a' W hlw _ ⟨⟨h0, v1, c1, c2⟩, hB1⟩ ⟨q, ⟨hv, hq⟩, rfl⟩ hlt
    have hs := hB1.size
    obtain ⟨V, hV⟩ : ∃ V, V = Value.agg ⟨enE x.1.1⟩ := ⟨_, rfl⟩
    have e3 : W.cell? ⟨q, 3, none⟩ = some (.int .i64 x.1.1.op) := hv.get (k := 3) rfl
    have g2 := c2.cell
    obtain ⟨xop, hxop⟩ : ∃ o, o = x.1.1.op := ⟨_, rfl⟩
    rw [← hxop] at e3
    rw [← hV]
    cases hqq : (xop == op)
    · have hne : x.1.1.op ≠ op := by rw [← hxop]; rw [beq_eq_false_iff_ne] at hqq; exact hqq
      have HI := Lib.hid (show AnsI w B op (pre ++ [x]) W ∧ Below w.heap.size w' W from ⟨⟨fun p hp => by
        rcases List.mem_append.1 hp with g | g
        · exact h0 p g
        · rw [List.mem_singleton.1 g]; exact hne, v1, c1, c2⟩, hB1⟩)
      have HQ := Lib.hid hqq
      clear h0 v1 c1 c2 hV hv hxop hne
      gi_wp2
      exact ⟨KeepsFrom.refl _ _, ⟨Keep.refl _ _, fun r => r⟩, HI.out⟩
    · have heq : x.1.1.op = op := by rw [← hxop]; simpa using hqq
      obtain ⟨Q, NN, R, X, c, hat, hsm⟩ := HK.out.1 x.1.1 x.1.2
      have hbW : Below w.heap.size w W := hb.trans hB1
      have hatW := hat.below hbW
      have hTW := HT.out.below hbW
      have hcp := copyE_any (fun _ a b d => a.oneCell' = true ∧ b.oneCell' = true ∧ d.oneCell' = true) (fun _ _ _ _ _ h _ => h) x.1.1 Q NN R X W hatW.over hsm.small.over hatW.q (by have := hsm.ql; omega) hatW.n hsm.nl hatW.r (by have := hsm.rl; omega) hatW.x (by have := hsm.xl; omega)
        (fun W' h => join_raw0 (hTW.below h) (hatW.con.below h) hsm.con (by omega))
      unfold vE at hcp
      rw [← hV] at hcp
      have HCP := Lib.hid (hcp.mono fun r w' h => copH_of h)
      have HLD := Lib.hid (show (Instr.loadAt 39 (.pointer (some ⟨q, 0, none⟩))).run Tryz.prog W = .ok V W by rw [hV]; exact hv.loadAll 39 33 rfl _ Tryz.underlying39 rfl size_Ev)
      have HAS := Lib.hid (And.intro hat hsm)
      have HC := Lib.hid (And.intro h0 (And.intro v1 (And.intro c1 heq)))
      have HBW := Lib.hid hbW
      have HQ := Lib.hid hqq
      clear hV hv h0 v1 c1 c2 heq hat hsm hbW hatW hTW hcp hxop
      gi_wp2_with (first | (refine wpListIn_load_run rfl 39 _ rfl (.pointer (some ⟨q, 0, none⟩)) V rfl HLD.out ?_) | (refine ⟨trivial, ?_⟩; gi_at_call 13; refine (callsIn_wide.2 HCP.out).mono ?_; rintro e w2 ⟨e', rfl, ho, hsa, o1, o2, hb2⟩; obtain ⟨V2, hV2⟩ : ∃ V2, V2 = Value.agg ⟨enE e'⟩ := ⟨_, rfl⟩; rw [← hV2]; have v2 := HC.out.2.1.below hb2; have c3 := box_below HC.out.2.2.1 hb2; obtain ⟨W3, hW3⟩ : ∃ W3, W3 = w2.setRow (B + 1) ⟨enE e'⟩ := ⟨_, rfl⟩; have HST := Lib.hid (show (Instr.storeAt 39 (.pointer (some ⟨B + 1, 0, none⟩)) V2).run Tryz.prog w2 = .ok () W3 from by rw [hV2, hW3]; exact v2.storeAll 39 33 (enE e') rfl rfl size_Ev ho); have HR := Lib.hid (ans_stored HBW.out hBle hs hb2 v2 c3 o1 o2 (enE e') W3 hW3 (by omega)); have k1 := HR.out.1.cell; have k2 := HR.out.1.frozen; have HE := Lib.hid (And.intro ho hsa); clear hV2 v2 c3 hW3 ho hsa o1 o2) | (refine wpListIn_store_run rfl 39 _ _ rfl (.pointer (some ⟨B + 1, 0, none⟩)) V2 rfl rfl HST.out ?_))
      exact ⟨HR.out.2.1, ⟨rfl, pre, x, e', rfl, HC.out.2.2.2, HC.out.1, HR.out.2.2.1, HR.out.2.2.2.1, HE.out.1, HE.out.2, by rw [HE.out.2.1]; exact HAS.out.2.small, Q, R, HAS.out.1.q, HAS.out.1.r, HAS.out.2.ql, HAS.out.2.rl, HAS.out.2.rs, HR.out.2.2.2.2.1, HR.out.2.2.2.2.2.1⟩, HR.out.2.2.2.2.2.2 hB1⟩
  case done =>
    rintro D ys W hD rfl ⟨⟨h0, v1, c1, c2⟩, hB1⟩ hK
    have hs := hB1.size
    obtain ⟨W3, hW3⟩ : ∃ W3, W3 = W.setRow (B + 1) ⟨enE zE⟩ := ⟨_, rfl⟩
    have HST := Lib.hid (show (Instr.storeAt 39 (.pointer (some ⟨B + 1, 0, none⟩)) (.agg ⟨enE zE⟩)).run Tryz.prog W = .ok () W3 from by rw [hW3]; exact v1.storeAll 39 33 (enE zE) rfl rfl size_Ev rfl)
    have hv3 : VarAt W3 (B + 1) 39 (enE zE) := by rw [hW3]; exact v1.row _
    have hb3 : Boxed W3 (B + 2) 4 (.bool false) := by rw [hW3]; exact VarAt.row_other (show VarAt W (B + 2) 4 [.bool false] from c1) _ (by omega)
    have k1 := hb3.cell
    have k2 := hb3.frozen
    have hK3 : W3.heap[D]? = some (.deferred (some [])) := by rw [hW3]; exact (setRow_other W (B + 1) D _ (by omega)).trans hK
    have hK4 : (W3.setCell ⟨B + 2, 0, none⟩ (.bool false)).heap[D]? = some (.deferred (some [])) := (KeepsOthers.setCell W3 ⟨B + 2, 0, none⟩ (.bool false)).same D _ hK3 rfl
    have hv4 : VarAt (W3.setCell ⟨B + 2, 0, none⟩ (.bool false)) (B + 1) 39 (enE zE) := hv3.set_other 0 _ (by omega)
    have hb4 : Boxed (W3.setCell ⟨B + 2, 0, none⟩ (.bool false)) (B + 2) 4 (.bool false) := VarAt.set (l := [.bool false]) hb3 0 _
    have hB4 : Below w.heap.size w (W3.setCell ⟨B + 2, 0, none⟩ (.bool false)) := by
      have h1 : Below w.heap.size w W3 := by rw [hW3]; exact setRow_below (hb.trans hB1) _ (by omega) _
      exact h1.setCell (p := ⟨B + 2, 0, none⟩) (by show w.heap.size ≤ B + 2; omega) _
    have hgr := grownBy_putObj' (W3.setCell ⟨B + 2, 0, none⟩ (.bool false)) D (.deferred none)
    have hrr : ∀ r, some D = some r → ∃ o : Obj, (W3.setCell ⟨B + 2, 0, none⟩ (.bool false)).heap[r]? = some o ∧ o.isCells = false := fun r e => by cases e; exact ⟨_, hK4, rfl⟩
    have hv5 := own_var hv4 hgr hrr
    have hb5 := own_box hb4 hgr hrr
    have hfin : AnsP w op (ys.map fun p => (p.1.1, p.2)) (.returned (.tuple #[.agg ⟨enE zE⟩, .bool false])) ((W3.setCell ⟨B + 2, 0, none⟩ (.bool false)).putObj D (.deferred none)) := by
      refine ⟨hB4.trans (belowK_b (w := w) (Nat.le_refl _) _ D _ _ (by omega) hK4 rfl rfl), ?_⟩
      have hf : firstE op (ys.map fun p => (p.1.1, p.2)) = none := by
        unfold firstE
        rw [List.find?_eq_none]
        intro p hp
        obtain ⟨y, hy, rfl⟩ := List.mem_map.1 hp
        simpa using h0 y hy
      rw [hf]
      rfl
    have HF := Lib.hid (And.intro hfin (And.intro hv5 hb5))
    have HK4 := Lib.hid hK4
    clear hW3 hv3 hb3 hK3 hK4 hv4 hb4 hB4 hgr hrr hv5 hb5 hfin h0 v1 c1 c2 hK
    gi_wp2_with (refine wpListIn_store_run rfl 39 _ _ rfl (.pointer (some ⟨B + 1, 0, none⟩)) (.agg ⟨enE zE⟩) rfl (by kernel_rfl) HST.out ?_)
    refine ⟨by simp, .inl ⟨_, _, rfl, run_takeDeferred HK4.out, ?_⟩⟩
    exact ⟨.tuple #[.agg ⟨enE zE⟩, .bool false], results_cell_cell rfl _ _ ⟨B + 1, 0, none⟩ ⟨B + 2, 0, none⟩ _ _ rfl rfl (loadVar_all HF.out.2.1 39 33 rfl _ Tryz.underlying39 rfl size_Ev) (load_bool HF.out.2.2), HF.out.1⟩
  case stop =>
    rintro D c pre W hD ⟨j, hj, hpre⟩ ⟨⟨rfl, q, x, e', e1, hop, hq0, v1, c1, ho, hh⟩, hB1⟩ hK
    have hs := hB1.size
    have hgr := grownBy_putObj' W D (.deferred none)
    have hrr : ∀ r, some D = some r → ∃ o : Obj, W.heap[r]? = some o ∧ o.isCells = false := fun r e => by cases e; exact ⟨_, hK, rfl⟩
    have hv5 := own_var v1 hgr hrr
    have hb5 := own_box c1 hgr hrr
    have hfin : AnsP w op (T.map fun p => (p.1.1, p.2)) (.returned (.tuple #[.agg ⟨enE e'⟩, .bool true])) (W.putObj D (.deferred none)) := by
      refine ⟨(hb.trans hB1).trans (belowK_b (w := w) (Nat.le_refl _) W D _ _ (by omega) hK rfl rfl), ?_⟩
      have hf : firstE op (T.map fun p => (p.1.1, p.2)) = some (x.1.1, x.2) := by
        have hT2 : T = (q ++ [x]) ++ T.drop j := by rw [← e1, hpre, List.take_append_drop]
        unfold firstE
        rw [hT2, List.map_append, List.map_append, List.find?_append, List.find?_append]
        have h1 : (q.map fun p => (p.1.1, p.2)).find? (fun p => decide (p.1.op = op)) = none := by
          rw [List.find?_eq_none]
          intro p hp
          obtain ⟨y, hy, rfl⟩ := List.mem_map.1 hp
          simpa using hq0 y hy
        rw [h1]
        simp [hop]
      rw [hf]
      exact ⟨e', rfl, ho, hit_own hh hgr hrr⟩
    have HF := Lib.hid (And.intro hfin (And.intro hv5 hb5))
    have HK4 := Lib.hid hK
    clear hgr hrr hv5 hb5 hfin e1 hop hq0 v1 c1 ho hh hK hpre
    gi_wp2
    refine ⟨by simp, .inl ⟨_, _, rfl, run_takeDeferred HK4.out, ?_⟩⟩
    exact ⟨.tuple #[.agg ⟨enE e'⟩, .bool true], results_cell_cell rfl _ _ ⟨B + 1, 0, none⟩ ⟨B + 2, 0, none⟩ _ _ rfl rfl (loadVar_all HF.out.2.1 39 33 rfl _ Tryz.underlying39 rfl size_Ev) (load_bool HF.out.2.2), HF.out.1⟩
end Go.Proofs.YtljlbkichcjlfaaGreatDoor.Trc
