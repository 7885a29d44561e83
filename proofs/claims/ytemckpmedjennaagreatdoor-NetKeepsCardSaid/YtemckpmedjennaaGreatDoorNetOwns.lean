/- net.own at what is written and at what is answered (layer 22). PRINTED by wip/gennetcopy2.py. -/
import Derived.Test.YtemckpmedjennaaGreatDoorNetCopy
set_option linter.unusedSimpArgs false
set_option linter.unusedVariables false
namespace Go.Proofs.YtemckpmedjennaaGreatDoor.NetG
open Go.RowKit Go.Proofs.YtemckpmedjennaaGreatDoor.Mut Go.Proofs.YtemckpmedjennaaGreatDoor.NetW
set_option linter.unusedSectionVars false
variable [Inhabited Lim]

/-- What is written: an operation's number, a mutation. -/
def vW (op : Int) (x : Ro) : Value := .agg #[.int .i64 op, .int .i64 x.1.table, .int .i64 x.1.kind, .string x.1.key, .string x.1.fin, .string x.1.val, .int .i64 x.1.expiry, .int .i64 x.1.at_.p, .int .i64 x.1.at_.l, .int .i64 x.1.at_.w, x.2]
/-- What is answered: an operation's number, a content. -/
def vA (op : Int) (a b d : Value) : Value := .agg #[.int .i64 op, .int .i64 0, .int .i64 0, a, b, d, .int .i64 0, .int .i64 0, .int .i64 0, .int .i64 0]
theorem hit_Write (V : Value) (w : World) : (Instr.typeAssert (.iface 37 V) 43 37 true).run Tryz.prog w = .ok (.tuple #[V, .bool true]) w := by kernel_rfl
theorem hit_Answer (V : Value) (w : World) : (Instr.typeAssert (.iface 51 V) 43 51 true).run Tryz.prog w = .ok (.tuple #[V, .bool true]) w := by kernel_rfl
theorem miss_Write (V : Value) (w : World) : (Instr.typeAssert (.iface 51 V) 43 37 true).run Tryz.prog w = .ok (.tuple #[zWrite, .bool false]) w := by kernel_rfl
/-- What is written, its stamps in memory made since. -/
def QW (op : Int) (m : Mu) (base : Nat) (V : Value) (w : World) : Prop := ∃ ov, V = vW op (m, ov) ∧ w.ownsRow base 25 3 ov m.over.length (m.over.flatMap enS)
def QA (op : Int) (c : Con) (base : Nat) (V : Value) (w : World) : Prop := ∃ a b d, V = vA op a b d ∧ CpC base c w a b d
theorem QW.keep {op : Int} {m : Mu} {base : Nat} {V : Value} {w w' : World} (h : QW op m base V w) (hk : KeepR w w') : QW op m base V w' := by
  obtain ⟨ov, h1, h2⟩ := h
  exact ⟨ov, h1, hk.own h2 (by decide) (by decide)⟩
theorem QA.keep {op : Int} {c : Con} {base : Nat} {V : Value} {w w' : World} (h : QA op c base V w) (hk : KeepR w w') : QA op c base V w' := by
  obtain ⟨a, b, d, h1, h2⟩ := h
  exact ⟨a, b, d, h1, h2.keep hk⟩
theorem QW.base {op : Int} {m : Mu} {base b0 : Nat} {V : Value} {w : World} (h : QW op m base V w) (hb : b0 ≤ base) : QW op m b0 V w := by
  obtain ⟨ov, h1, h2⟩ := h
  exact ⟨ov, h1, own_base h2 hb⟩
theorem QA.base {op : Int} {c : Con} {base b0 : Nat} {V : Value} {w : World} (h : QA op c base V w) (hb : b0 ≤ base) : QA op c b0 V w := by
  obtain ⟨a, b, d, h1, h2⟩ := h
  exact ⟨a, b, d, h1, h2.1, ⟨h2.2.1.imp fun _ h => h.base hb, h2.2.2.1.imp fun _ h => h.base hb, h2.2.2.2.imp fun _ h => h.base hb⟩⟩
/-- A body of its own comes back. -/
def OwnBP (T : TypeId) (Q : Value → World → Prop) (w : World) (e : Ending) (w' : World) : Prop := ∃ V', e = .returned (.iface T V') ∧ Q V' w' ∧ RowKit.Below w.heap.size w w'

set_option maxHeartbeats 4000000 in
set_option maxRecDepth 100000 in
theorem own_write (op : Int) (x : Ro) (w : World) (hx : Over w x) (hl : x.1.over.length ≤ 1000000) :
    Calls Tryz.prog 38 #[.iface 37 (vW op x)] w (OwnBP 37 (QW op x.1 w.heap.size) w) := by
  obtain ⟨xo, xc, ex, -, -⟩ := Over.form hx
  obtain ⟨⟨tb, kd, ky, fi, va, ex1, ⟨sp, sl, sw⟩, O⟩, xv⟩ := x
  simp only [] at ex hl
  obtain ⟨xn, hxn⟩ : ∃ k, k = O.length := ⟨_, rfl⟩
  rw [← hxn] at ex
  subst ex
  obtain ⟨ex, hex⟩ : ∃ y, y = ex1 := ⟨_, rfl⟩
  subst hex
  have HCO := Lib.hid (fun (W : World) (h : RowKit.Below w.heap.size w W) => copy_any _ W (hx.below h) hl)
  have HN := Lib.hid hxn
  have h1 := fun w => hit_Write (.agg #[.int .i64 op, .int .i64 tb, .int .i64 kd, .string ky, .string fi, .string va, .int .i64 ex, .int .i64 sp, .int .i64 sl, .int .i64 sw, .slice xo xn xc]) w
  obtain ⟨W, hW⟩ : ∃ W, W = w.alloc (.cells #[.int .i64 op, .int .i64 tb, .int .i64 kd, .string ky, .string fi, .string va, .int .i64 ex, .int .i64 sp, .int .i64 sl, .int .i64 sw, .slice xo xn xc] 37) := ⟨_, rfl⟩
  have hb : RowKit.Below w.heap.size w W := by rw [hW]; exact (Below.refl _ _).alloc (Nat.le_refl _) _
  have hbx : W.heap[w.heap.size]? = some (.cells #[.int .i64 op, .int .i64 tb, .int .i64 kd, .string ky, .string fi, .string va, .int .i64 ex, .int .i64 sp, .int .i64 sl, .int .i64 sw, .slice xo xn xc] 37 (0, 0)) := by rw [hW]; exact heap_alloc_new w _
  have HW := Lib.hid hW
  have HB := Lib.hid hb
  have HX := Lib.hid hbx
  clear hx hl hxn hW hb hbx
  unfold vW
  unfold vM at HCO
  simp only [] at HCO ⊢
  go_enter Tryz.func38, Tryz.ntmps38
  go_wp2_with fail
  rw [← HW.out]
  refine (HCO.out W HB.out).mono ?_
  rintro e w1 ⟨v, he, ⟨vo, vc, rfl⟩, hown, hb1⟩
  simp only [] at he hown
  unfold vM at he
  simp only [] at he
  subst he
  rw [← HN.out]
  have hx1 := (hb1.block w.heap.size (Array.getElem?_eq_some_iff.1 HX.out).1).trans HX.out
  have HO := Lib.hid hown
  have HB1 := Lib.hid (below_then HB.out (Nat.le_refl _) hb1)
  have HX1 := Lib.hid hx1
  have a0 : w1.cell? ⟨w.heap.size, 0, none⟩ = some (.int .i64 op) := by rw [cell_of_row w1 w.heap.size 0 _ _ (0, 0) hx1]; rfl
  have f0 : w1.frozen? ⟨w.heap.size, 0, none⟩ = false := frozen_of_row w1 w.heap.size 0 _ _ hx1
  have a1 : w1.cell? ⟨w.heap.size, 1, none⟩ = some (.int .i64 tb) := by rw [cell_of_row w1 w.heap.size 1 _ _ (0, 0) hx1]; rfl
  have f1 : w1.frozen? ⟨w.heap.size, 1, none⟩ = false := frozen_of_row w1 w.heap.size 1 _ _ hx1
  have a2 : w1.cell? ⟨w.heap.size, 2, none⟩ = some (.int .i64 kd) := by rw [cell_of_row w1 w.heap.size 2 _ _ (0, 0) hx1]; rfl
  have f2 : w1.frozen? ⟨w.heap.size, 2, none⟩ = false := frozen_of_row w1 w.heap.size 2 _ _ hx1
  have a3 : w1.cell? ⟨w.heap.size, 3, none⟩ = some (.string ky) := by rw [cell_of_row w1 w.heap.size 3 _ _ (0, 0) hx1]; rfl
  have f3 : w1.frozen? ⟨w.heap.size, 3, none⟩ = false := frozen_of_row w1 w.heap.size 3 _ _ hx1
  have a4 : w1.cell? ⟨w.heap.size, 4, none⟩ = some (.string fi) := by rw [cell_of_row w1 w.heap.size 4 _ _ (0, 0) hx1]; rfl
  have f4 : w1.frozen? ⟨w.heap.size, 4, none⟩ = false := frozen_of_row w1 w.heap.size 4 _ _ hx1
  have a5 : w1.cell? ⟨w.heap.size, 5, none⟩ = some (.string va) := by rw [cell_of_row w1 w.heap.size 5 _ _ (0, 0) hx1]; rfl
  have f5 : w1.frozen? ⟨w.heap.size, 5, none⟩ = false := frozen_of_row w1 w.heap.size 5 _ _ hx1
  have a6 : w1.cell? ⟨w.heap.size, 6, none⟩ = some (.int .i64 ex) := by rw [cell_of_row w1 w.heap.size 6 _ _ (0, 0) hx1]; rfl
  have f6 : w1.frozen? ⟨w.heap.size, 6, none⟩ = false := frozen_of_row w1 w.heap.size 6 _ _ hx1
  have a7 : w1.cell? ⟨w.heap.size, 7, none⟩ = some (.int .i64 sp) := by rw [cell_of_row w1 w.heap.size 7 _ _ (0, 0) hx1]; rfl
  have f7 : w1.frozen? ⟨w.heap.size, 7, none⟩ = false := frozen_of_row w1 w.heap.size 7 _ _ hx1
  have a8 : w1.cell? ⟨w.heap.size, 8, none⟩ = some (.int .i64 sl) := by rw [cell_of_row w1 w.heap.size 8 _ _ (0, 0) hx1]; rfl
  have f8 : w1.frozen? ⟨w.heap.size, 8, none⟩ = false := frozen_of_row w1 w.heap.size 8 _ _ hx1
  have a9 : w1.cell? ⟨w.heap.size, 9, none⟩ = some (.int .i64 sw) := by rw [cell_of_row w1 w.heap.size 9 _ _ (0, 0) hx1]; rfl
  have f9 : w1.frozen? ⟨w.heap.size, 9, none⟩ = false := frozen_of_row w1 w.heap.size 9 _ _ hx1
  have a10 : w1.cell? ⟨w.heap.size, 10, none⟩ = some (.slice xo xn xc) := by rw [cell_of_row w1 w.heap.size 10 _ _ (0, 0) hx1]; rfl
  have f10 : w1.frozen? ⟨w.heap.size, 10, none⟩ = false := frozen_of_row w1 w.heap.size 10 _ _ hx1
  have HE := Lib.hid (fun (W' : World) (hg : w1.grownBy W' (some w.heap.size)) => show QW op ⟨tb, kd, ky, fi, va, ex, ⟨sp, sl, sw⟩, O⟩ w.heap.size (.agg #[.int .i64 op, .int .i64 tb, .int .i64 kd, .string ky, .string fi, .string va, .int .i64 ex, .int .i64 sp, .int .i64 sl, .int .i64 sw, .slice vo xn vc]) W' ∧ RowKit.Below w.heap.size w W' from by
    refine ⟨⟨.slice vo xn vc, rfl, ?_⟩, HB1.out.grown hg HB1.out.size (fun j hj => by cases hj; exact Nat.le_refl _)⟩
    have h2 := HO.out
    rw [← HN.out] at h2
    have h3 : w1.ownsRow w.heap.size 25 3 (.slice vo O.length vc) O.length (O.flatMap enS) := own_base HO.out HB.out.size
    refine World.ownsRow.kept (by rw [HN.out]; exact h3) hg (Or.inr fun e => ?_)
    rcases h3.2 with ⟨e0, _⟩ | ⟨g, cap, cur, e0, _, hg0, _⟩
    · rw [← HN.out] at e0; rw [e0] at e; cases e
    · rw [← HN.out] at e0
      rw [e0] at e
      have e2 : g = w.heap.size := by simpa [Value.ownBlock] using e
      rw [e2, HX1.out] at hg0
      simp at hg0)
  clear hb1 hown hx1
  go_wp2_with fail
  go_ret
  refine ⟨.agg #[.int .i64 op, .int .i64 tb, .int .i64 kd, .string ky, .string fi, .string va, .int .i64 ex, .int .i64 sp, .int .i64 sl, .int .i64 sw, .slice vo xn vc], rfl, ?_⟩
  refine HE.out _ ?_
  iterate 10 refine grown_setCell ?_ (Or.inl rfl) _
  exact World.grownBy.refl _ _

set_option maxHeartbeats 4000000 in
set_option maxRecDepth 100000 in
theorem own_answer (op : Int) (c : Con) (n : Nat) (a b d : Value) (w : World) (hT : Tabs w) (hl : Lies w a b d c) (hg : Mut.Good c n) (hn : n ≤ 80000) :
    Calls Tryz.prog 38 #[.iface 51 (vA op a b d)] w (OwnBP 51 (QA op c w.heap.size) w) := by
  obtain ⟨o1, n1, k1, rfl⟩ := hl.cells.slice
  obtain ⟨o2, n2, k2, rfl⟩ := hl.wipes.slice
  obtain ⟨o3, n3, k3, rfl⟩ := hl.sibs.slice
  have HCO := Lib.hid (fun (W : World) (h : RowKit.Below w.heap.size w W) => copied_any (hT.below h) (hl.below h).is hg hn)
  have h1 := fun w => miss_Write (.agg #[.int .i64 op, .int .i64 0, .int .i64 0, .slice o1 n1 k1, .slice o2 n2 k2, .slice o3 n3 k3, .int .i64 0, .int .i64 0, .int .i64 0, .int .i64 0]) w
  have h2 := fun w => hit_Answer (.agg #[.int .i64 op, .int .i64 0, .int .i64 0, .slice o1 n1 k1, .slice o2 n2 k2, .slice o3 n3 k3, .int .i64 0, .int .i64 0, .int .i64 0, .int .i64 0]) w
  unfold zWrite at h1
  obtain ⟨W, hW⟩ : ∃ W, W = (w.alloc (.cells #[.int .i64 0, .int .i64 0, .int .i64 0, .string ⟨#[]⟩, .string ⟨#[]⟩, .string ⟨#[]⟩, .int .i64 0, .int .i64 0, .int .i64 0, .int .i64 0, .slice none 0 0] 37)).alloc (.cells #[.int .i64 op, .int .i64 0, .int .i64 0, .slice o1 n1 k1, .slice o2 n2 k2, .slice o3 n3 k3, .int .i64 0, .int .i64 0, .int .i64 0, .int .i64 0] 51) := ⟨_, rfl⟩
  have hb : RowKit.Below w.heap.size w W := by rw [hW]; exact ((Below.refl _ _).alloc (Nat.le_refl _) _).alloc (by simp) _
  have hbx : W.heap[w.heap.size + 1]? = some (.cells #[.int .i64 op, .int .i64 0, .int .i64 0, .slice o1 n1 k1, .slice o2 n2 k2, .slice o3 n3 k3, .int .i64 0, .int .i64 0, .int .i64 0, .int .i64 0] 51 (0, 0)) := by
    rw [hW]
    have h := heap_alloc_new (w.alloc (.cells #[.int .i64 0, .int .i64 0, .int .i64 0, .string ⟨#[]⟩, .string ⟨#[]⟩, .string ⟨#[]⟩, .int .i64 0, .int .i64 0, .int .i64 0, .int .i64 0, .slice none 0 0] 37)) (.cells #[.int .i64 op, .int .i64 0, .int .i64 0, .slice o1 n1 k1, .slice o2 n2 k2, .slice o3 n3 k3, .int .i64 0, .int .i64 0, .int .i64 0, .int .i64 0] 51)
    rwa [World.size_alloc] at h
  have HW := Lib.hid hW
  have HB := Lib.hid hb
  have HX := Lib.hid hbx
  clear hT hl hg hn hW hb hbx
  unfold vA
  go_enter Tryz.func38, Tryz.ntmps38
  go_wp2_with fail
  rw [← HW.out]
  refine (HCO.out W HB.out).mono ?_
  rintro e w1 ⟨a', b', d', rfl, hc1, hb1⟩
  obtain ⟨p1, x1, y1, ea⟩ := hc1.1.cells.slice
  obtain ⟨p2, x2, y2, eb⟩ := hc1.1.wipes.slice
  obtain ⟨p3, x3, y3, ed⟩ := hc1.1.sibs.slice
  subst ea eb ed
  have hx1 := (hb1.block (w.heap.size + 1) (Array.getElem?_eq_some_iff.1 HX.out).1).trans HX.out
  have HC1 := Lib.hid hc1
  have HB1 := Lib.hid (below_then HB.out (Nat.le_refl _) hb1)
  have HX1 := Lib.hid hx1
  have a0 : w1.cell? ⟨(w.heap.size + 1), 0, none⟩ = some (.int .i64 op) := by rw [cell_of_row w1 (w.heap.size + 1) 0 _ _ (0, 0) hx1]; rfl
  have f0 : w1.frozen? ⟨(w.heap.size + 1), 0, none⟩ = false := frozen_of_row w1 (w.heap.size + 1) 0 _ _ hx1
  have a1 : w1.cell? ⟨(w.heap.size + 1), 1, none⟩ = some (.int .i64 0) := by rw [cell_of_row w1 (w.heap.size + 1) 1 _ _ (0, 0) hx1]; rfl
  have f1 : w1.frozen? ⟨(w.heap.size + 1), 1, none⟩ = false := frozen_of_row w1 (w.heap.size + 1) 1 _ _ hx1
  have a2 : w1.cell? ⟨(w.heap.size + 1), 2, none⟩ = some (.int .i64 0) := by rw [cell_of_row w1 (w.heap.size + 1) 2 _ _ (0, 0) hx1]; rfl
  have f2 : w1.frozen? ⟨(w.heap.size + 1), 2, none⟩ = false := frozen_of_row w1 (w.heap.size + 1) 2 _ _ hx1
  have a3 : w1.cell? ⟨(w.heap.size + 1), 3, none⟩ = some (.slice o1 n1 k1) := by rw [cell_of_row w1 (w.heap.size + 1) 3 _ _ (0, 0) hx1]; rfl
  have f3 : w1.frozen? ⟨(w.heap.size + 1), 3, none⟩ = false := frozen_of_row w1 (w.heap.size + 1) 3 _ _ hx1
  have a4 : w1.cell? ⟨(w.heap.size + 1), 4, none⟩ = some (.slice o2 n2 k2) := by rw [cell_of_row w1 (w.heap.size + 1) 4 _ _ (0, 0) hx1]; rfl
  have f4 : w1.frozen? ⟨(w.heap.size + 1), 4, none⟩ = false := frozen_of_row w1 (w.heap.size + 1) 4 _ _ hx1
  have a5 : w1.cell? ⟨(w.heap.size + 1), 5, none⟩ = some (.slice o3 n3 k3) := by rw [cell_of_row w1 (w.heap.size + 1) 5 _ _ (0, 0) hx1]; rfl
  have f5 : w1.frozen? ⟨(w.heap.size + 1), 5, none⟩ = false := frozen_of_row w1 (w.heap.size + 1) 5 _ _ hx1
  have a6 : w1.cell? ⟨(w.heap.size + 1), 6, none⟩ = some (.int .i64 0) := by rw [cell_of_row w1 (w.heap.size + 1) 6 _ _ (0, 0) hx1]; rfl
  have f6 : w1.frozen? ⟨(w.heap.size + 1), 6, none⟩ = false := frozen_of_row w1 (w.heap.size + 1) 6 _ _ hx1
  have a7 : w1.cell? ⟨(w.heap.size + 1), 7, none⟩ = some (.int .i64 0) := by rw [cell_of_row w1 (w.heap.size + 1) 7 _ _ (0, 0) hx1]; rfl
  have f7 : w1.frozen? ⟨(w.heap.size + 1), 7, none⟩ = false := frozen_of_row w1 (w.heap.size + 1) 7 _ _ hx1
  have a8 : w1.cell? ⟨(w.heap.size + 1), 8, none⟩ = some (.int .i64 0) := by rw [cell_of_row w1 (w.heap.size + 1) 8 _ _ (0, 0) hx1]; rfl
  have f8 : w1.frozen? ⟨(w.heap.size + 1), 8, none⟩ = false := frozen_of_row w1 (w.heap.size + 1) 8 _ _ hx1
  have a9 : w1.cell? ⟨(w.heap.size + 1), 9, none⟩ = some (.int .i64 0) := by rw [cell_of_row w1 (w.heap.size + 1) 9 _ _ (0, 0) hx1]; rfl
  have f9 : w1.frozen? ⟨(w.heap.size + 1), 9, none⟩ = false := frozen_of_row w1 (w.heap.size + 1) 9 _ _ hx1
  have HE := Lib.hid (fun (W' : World) (hk : ∃ i0 i1 i2 : Nat, True) (hg : w1.grownBy W' (some (w.heap.size + 1))) => show QA op c w.heap.size (.agg #[.int .i64 op, .int .i64 0, .int .i64 0, .slice p1 x1 y1, .slice p2 x2 y2, .slice p3 x3 y3, .int .i64 0, .int .i64 0, .int .i64 0, .int .i64 0]) W' ∧ RowKit.Below w.heap.size w W' from by
    refine ⟨⟨.slice p1 x1 y1, .slice p2 x2 y2, .slice p3 x3 y3, rfl, ?_⟩, HB1.out.grown hg HB1.out.size (fun j hj => by cases hj; exact Nat.le_succ _)⟩
    have hW0 := HB.out.size
    have key : ∀ {v : Value} {R R' : List Ro}, MRow w1 v R → Copied w1 v R' W.heap.size → Copied W' v R w.heap.size := fun {v R R'} h k => by
      have h1 := (copied_over h k).base hW0
      have ty : ∀ {e : TypeId} {sz n : Nat} {u : Value} {xs : List Value}, 51 ≠ e → w1.ownsRow w.heap.size e sz u n xs → W'.ownsRow w.heap.size e sz u n xs := fun {e sz n u xs} he hu => World.ownsRow.kept hu hg (Or.inr fun e0 => by
        rcases hu.2 with ⟨q0, _⟩ | ⟨g, cap, cur, q0, _, hg0, _⟩
        · rw [q0] at e0; cases e0
        · rw [q0] at e0
          have e2 : g = w.heap.size + 1 := by simpa [Value.ownBlock] using e0
          rw [e2, HX1.out] at hg0
          simp at hg0
          exact he hg0.2)
      exact ⟨ty (by decide) h1.row, fun x hx => ty (by decide) (h1.over x hx)⟩
    obtain ⟨⟨⟨A, eA, hA⟩, ⟨B, eB, hB⟩, ⟨D, eD, hD⟩⟩, ⟨⟨A', hA'⟩, ⟨B', hB'⟩, ⟨D', hD'⟩⟩⟩ := HC1.out
    have kA := key hA hA'
    have kB := key hB hB'
    have kD := key hD hD'
    exact ⟨⟨⟨A, eA, kA.mrow⟩, ⟨B, eB, kB.mrow⟩, ⟨D, eD, kD.mrow⟩⟩, ⟨⟨A, kA⟩, ⟨B, kB⟩, ⟨D, kD⟩⟩⟩)
  clear hb1 hc1 hx1
  go_wp2_with fail
  go_ret
  refine ⟨.agg #[.int .i64 op, .int .i64 0, .int .i64 0, .slice p1 x1 y1, .slice p2 x2 y2, .slice p3 x3 y3, .int .i64 0, .int .i64 0, .int .i64 0, .int .i64 0], rfl, ?_⟩
  refine HE.out _ ⟨0, 0, 0, trivial⟩ ?_
  iterate 3 refine grown_setCell ?_ (Or.inl rfl) _
  exact World.grownBy.refl _ _
end Go.Proofs.YtemckpmedjennaaGreatDoor.NetG
