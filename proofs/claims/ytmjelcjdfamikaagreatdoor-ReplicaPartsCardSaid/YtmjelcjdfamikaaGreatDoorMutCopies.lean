/- MutClone, MutCopy, MutFind: in one text. -/
import Derived.Test.YtmjelcjdfamikaaGreatDoorMutRows
import Derived.Laws.Rows
import Derived.Laws.Tables
import Derived.Laws.CopyOwn
set_option linter.unusedSimpArgs false
set_option linter.unusedVariables false
/- The walks of slices.Clone at stamps and at mutations. -/
namespace Go.Proofs.YtmjelcjdfamikaaGreatDoor.Mut
open Go.RowKit Go.Sort Go.Proofs.YtmjelcjdfamikaaGreatDoor.Ord
set_option linter.unusedSectionVars false
variable [Inhabited Lim]

/-- A row comes back, which the call has made. -/
def OwnP {α : Type} (e : TypeId) (sz : Nat) (en : α → List Value) (w : World) (l : List α) (r : Ending) (w' : World) : Prop := ∃ v, r = .returned v ∧ w'.ownsRow w.heap.size e sz v l.length (l.flatMap en) ∧ Below w.heap.size w w'
theorem info_S : (Tryz.prog.info? 37).map (fun i => (i.zero, i.size, i.bytes)) = some (some (.agg #[.int .i64 0, .int .i64 0, .int .i64 0]), 3, 24) := by kernel_rfl
def zeroM : Value := .agg #[.int .i64 0, .int .i64 0, .string ByteArray.empty, .string ByteArray.empty, .string ByteArray.empty, .int .i64 0, .int .i64 0, .int .i64 0, .int .i64 0, .slice none 0 0]
theorem info_M : (Tryz.prog.info? 40).map (fun i => (i.zero, i.size, i.bytes)) = some (some zeroM, 10, 120) := by kernel_rfl
theorem flatS_one (l : List Stp) : ∀ u ∈ l.flatMap enS, u.oneCell' = true := by
  intro u hu
  obtain ⟨x, _, h⟩ := List.mem_flatMap.1 hu
  simp at h
  rcases h with rfl | rfl | rfl <;> rfl
theorem flatM_one {l : List Ro} (hl : ∀ x ∈ l, ∃ ao n cap, x.2 = .slice ao n cap) : ∀ u ∈ l.flatMap enM, u.oneCell' = true := by
  intro u hu
  obtain ⟨x, hx, h⟩ := List.mem_flatMap.1 hu
  obtain ⟨ao, n, cap, e⟩ := hl x hx
  unfold enM at h
  simp at h
  rcases h with rfl | rfl | rfl | rfl | rfl | rfl | rfl | rfl | rfl | rfl <;> first | rfl | (rw [e]; rfl)
theorem MRow.forms {w : World} {v : Value} {R : List Ro} (h : MRow w v R) : ∀ x ∈ R, ∃ ao n cap, x.2 = .slice ao n cap := fun x hx => by
  obtain ⟨ao, cap, e, -, -⟩ := (h.over x hx).form
  exact ⟨ao, _, cap, e⟩

set_option maxHeartbeats 2000000 in
set_option maxRecDepth 100000 in
theorem cloneS_any (ao : Option Addr) (ac : Nat) (l : List Stp) (w : World) (ha : Lst 3 enS w (.slice ao l.length ac) l) (h1 : ∀ u ∈ l.flatMap enS, u.oneCell' = true) (hl : l.length ≤ 1000000) :
    Calls Tryz.prog 30 #[.slice ao l.length ac] w (OwnP 37 3 enS w l) := by
  have q22 : ∀ (w : World) (a : Option Addr) (n c n' c' : Nat), (binOp .eql 38 (.slice a n c) (.slice none n' c')).run Tryz.prog w = .ok (.bool a.isNone) w := fun w a n c n' c' => Lib.run_eql_slice_nil w _ _ a n c n' c' Tryz.underlying38
  obtain ⟨i0, hi, hz0, hz1, hz2⟩ := info_parts info_S
  have HI := Lib.hid hi
  have HZ0 := Lib.hid hz0
  have HZ1 := Lib.hid hz1
  have HZ2 := Lib.hid hz2
  have H1 := Lib.hid h1
  clear hi hz0 hz1 hz2 h1
  cases ao with
  | none =>
    have h0 : l = [] := by
      cases l with
      | nil => rfl
      | cons x l => obtain ⟨b, off, e, _⟩ := Lst.get ha (show 0 < (x :: l).length by simp); cases e
    subst h0
    clear ha
    go_enter Tryz.func30, Tryz.ntmps30
    go_wp2
    go_ret
    exact ⟨_, rfl, World.ownsRow_nil _ _ _ _, Below.refl _ _⟩
  | some a =>
    have HN := Lib.hid (Lst.news enS_len (by decide) (ha.alloc (.cells #[] 37)))
    clear ha
    go_enter Tryz.func30, Tryz.ntmps30
    go_wp2_with (at_builtin; refine wpList_append_own _ rfl _ _ 38 rfl w.heap.size 37 i0 (.agg #[.int .i64 0, .int .i64 0, .int .i64 0]) 3 24 Tryz.underlying38 HI.out HZ0.out HZ1.out HZ2.out rfl (by decide) _ _ _ rfl (World.ownsRow_made w #[] 0 (Nat.le_refl _) (Nat.zero_le _) (by simp)) a l.length ac (l.flatMap enS) rfl ?qc1 ?qc2 ?qc3 ?qc4 ?qc5 ?qc6 ?_)
    case qc1 => exact flatMap_len enS_len l
    case qc2 => exact HN.out
    case qc3 => exact H1.out
    case qc4 => unfold maxLen; omega
    case qc5 => omega
    case qc6 => simp
    intro v' w1 hown hgrow _
    have HE := Lib.hid (show OwnP 37 3 enS w l (.returned v') w1 from ⟨v', rfl, by simpa using hown, ((Below.refl _ w).alloc (Nat.le_refl _) _).grown hgrow (by simp) (by intro k hk; simp [Value.ownBlock] at hk; omega)⟩)
    clear hown hgrow
    go_wp2
    go_ret
    exact HE.out

set_option maxHeartbeats 2000000 in
set_option maxRecDepth 100000 in
theorem cloneM_any (ao : Option Addr) (ac : Nat) (l : List Ro) (w : World) (ha : Lst 10 enM w (.slice ao l.length ac) l) (h1 : ∀ u ∈ l.flatMap enM, u.oneCell' = true) (hl : l.length ≤ 1000000) :
    Calls Tryz.prog 59 #[.slice ao l.length ac] w (OwnP 40 10 enM w l) := by
  have q22 : ∀ (w : World) (a : Option Addr) (n c n' c' : Nat), (binOp .eql 22 (.slice a n c) (.slice none n' c')).run Tryz.prog w = .ok (.bool a.isNone) w := fun w a n c n' c' => Lib.run_eql_slice_nil w _ _ a n c n' c' Tryz.underlying22
  obtain ⟨i0, hi, hz0, hz1, hz2⟩ := info_parts info_M
  have HI := Lib.hid hi
  have HZ0 := Lib.hid hz0
  have HZ1 := Lib.hid hz1
  have HZ2 := Lib.hid hz2
  have H1 := Lib.hid h1
  clear hi hz0 hz1 hz2 h1
  cases ao with
  | none =>
    have h0 : l = [] := by
      cases l with
      | nil => rfl
      | cons x l => obtain ⟨b, off, e, _⟩ := Lst.get ha (show 0 < (x :: l).length by simp); cases e
    subst h0
    clear ha
    go_enter Tryz.func59, Tryz.ntmps59
    go_wp2
    go_ret
    exact ⟨_, rfl, World.ownsRow_nil _ _ _ _, Below.refl _ _⟩
  | some a =>
    have HN := Lib.hid (Lst.news enM_len (by decide) (ha.alloc (.cells #[] 40)))
    clear ha
    go_enter Tryz.func59, Tryz.ntmps59
    go_wp2_with (at_builtin; refine wpList_append_own _ rfl _ _ 22 rfl w.heap.size 40 i0 zeroM 10 120 Tryz.underlying22 HI.out HZ0.out HZ1.out HZ2.out rfl (by decide) _ _ _ rfl (World.ownsRow_made w #[] 0 (Nat.le_refl _) (Nat.zero_le _) (by simp)) a l.length ac (l.flatMap enM) rfl ?qc1 ?qc2 ?qc3 ?qc4 ?qc5 ?qc6 ?_)
    case qc1 => exact flatMap_len enM_len l
    case qc2 => exact HN.out
    case qc3 => exact H1.out
    case qc4 => unfold maxLen; omega
    case qc5 => omega
    case qc6 => simp
    intro v' w1 hown hgrow _
    have HE := Lib.hid (show OwnP 40 10 enM w l (.returned v') w1 from ⟨v', rfl, by simpa using hown, ((Below.refl _ w).alloc (Nat.le_refl _) _).grown hgrow (by simp) (by intro k hk; simp [Value.ownBlock] at hk; omega)⟩)
    clear hown hgrow
    go_wp2
    go_ret
    exact HE.out
end Go.Proofs.YtmjelcjdfamikaaGreatDoor.Mut

/- The walks of mut.Copy and mut.Copies (layer 7). -/
namespace Go.Proofs.YtmjelcjdfamikaaGreatDoor.Mut
open Go.RowKit Go.Sort Go.Proofs.YtmjelcjdfamikaaGreatDoor.Ord
set_option linter.unusedSectionVars false
variable [Inhabited Lim]

theorem size_M : (Tryz.prog.info? 40).map (·.size) = some 10 := by kernel_rfl
/-- A copy: the same mutation, its stamps in a row that the call has made. -/
def CopyP (w : World) (x : Ro) (r : Ending) (w' : World) : Prop := ∃ v, r = .returned (vM (x.1, v)) ∧ (∃ ao cap, v = .slice ao x.1.over.length cap) ∧ w'.ownsRow w.heap.size 37 3 v x.1.over.length (x.1.over.flatMap enS) ∧ Below w.heap.size w w'

set_option maxHeartbeats 4000000 in
set_option maxRecDepth 100000 in
theorem copy_any (x : Ro) (w : World) (hx : Over w x) (h1 : x.1.over.length ≤ 1000000) : Calls Tryz.prog 18 #[vM x] w (CopyP w x) := by
  obtain ⟨ao1, ac1, e1, -, -⟩ := Over.form hx
  obtain ⟨m, av⟩ := x
  simp only [] at e1 h1
  subst e1
  have hcl := fun (z : World) (h : Below w.heap.size w z) => cloneS_any ao1 ac1 m.over z (hx.below h).lst (flatS_one _) h1
  obtain ⟨at1, ak1, akey1, afin1, aval1, aex1, ⟨ap1, al1, aw1⟩, aov1⟩ := m
  unfold vM CopyP
  simp only [] at hcl ⊢
  obtain ⟨n1, hn1⟩ : ∃ n, n = aov1.length := ⟨_, rfl⟩
  obtain ⟨F, hF⟩ : ∃ F, F = aov1.flatMap enS := ⟨_, rfl⟩
  rw [← hn1] at hcl
  have HC := Lib.hid hcl
  rw [← hn1, ← hF]
  have HN := Lib.hid hn1
  have HF := Lib.hid hF
  clear hcl hx hn1 hF h1
  go_enter Tryz.func18, Tryz.ntmps18
  go_wp2_with fail
  have hb0 : RowKit.Below w.heap.size w ((w.alloc (.cells #[.int .i64 at1, .int .i64 ak1, .string akey1, .string afin1, .string aval1, .int .i64 aex1, .int .i64 ap1, .int .i64 al1, .int .i64 aw1, .slice ao1 n1 ac1] 40)).alloc (.cells #[.int .i64 0, .int .i64 0, .string ⟨#[]⟩, .string ⟨#[]⟩, .string ⟨#[]⟩, .int .i64 0, .int .i64 0, .int .i64 0, .int .i64 0, .slice none 0 0] 40)) := ((Below.refl _ _).alloc (Nat.le_refl _) _).alloc (by simp) _
  have hB : ((w.alloc (.cells #[Value.int .i64 at1, .int .i64 ak1, .string akey1, .string afin1, .string aval1, .int .i64 aex1, .int .i64 ap1, .int .i64 al1, .int .i64 aw1, .slice ao1 n1 ac1] 40)).alloc (.cells #[Value.int .i64 0, .int .i64 0, .string ⟨#[]⟩, .string ⟨#[]⟩, .string ⟨#[]⟩, .int .i64 0, .int .i64 0, .int .i64 0, .int .i64 0, .slice none 0 0] 40)).heap[w.heap.size]? = some (.cells #[Value.int .i64 at1, .int .i64 ak1, .string akey1, .string afin1, .string aval1, .int .i64 aex1, .int .i64 ap1, .int .i64 al1, .int .i64 aw1, .slice ao1 n1 ac1] 40 (0, 0)) := (push2 w.heap _ _).1
  have hR : ((w.alloc (.cells #[Value.int .i64 at1, .int .i64 ak1, .string akey1, .string afin1, .string aval1, .int .i64 aex1, .int .i64 ap1, .int .i64 al1, .int .i64 aw1, .slice ao1 n1 ac1] 40)).alloc (.cells #[Value.int .i64 0, .int .i64 0, .string ⟨#[]⟩, .string ⟨#[]⟩, .string ⟨#[]⟩, .int .i64 0, .int .i64 0, .int .i64 0, .int .i64 0, .slice none 0 0] 40)).heap[w.heap.size + 1]? = some (.cells #[Value.int .i64 0, .int .i64 0, .string ⟨#[]⟩, .string ⟨#[]⟩, .string ⟨#[]⟩, .int .i64 0, .int .i64 0, .int .i64 0, .int .i64 0, .slice none 0 0] 40 (0, 0)) := (push2 w.heap _ _).2
  have hsz : w.heap.size + 1 < ((w.alloc (.cells #[Value.int .i64 at1, .int .i64 ak1, .string akey1, .string afin1, .string aval1, .int .i64 aex1, .int .i64 ap1, .int .i64 al1, .int .i64 aw1, .slice ao1 n1 ac1] 40)).alloc (.cells #[Value.int .i64 0, .int .i64 0, .string ⟨#[]⟩, .string ⟨#[]⟩, .string ⟨#[]⟩, .int .i64 0, .int .i64 0, .int .i64 0, .int .i64 0, .slice none 0 0] 40)).heap.size := by simp
  generalize ((w.alloc (.cells #[Value.int .i64 at1, .int .i64 ak1, .string akey1, .string afin1, .string aval1, .int .i64 aex1, .int .i64 ap1, .int .i64 al1, .int .i64 aw1, .slice ao1 n1 ac1] 40)).alloc (.cells #[Value.int .i64 0, .int .i64 0, .string ⟨#[]⟩, .string ⟨#[]⟩, .string ⟨#[]⟩, .int .i64 0, .int .i64 0, .int .i64 0, .int .i64 0, .slice none 0 0] 40)) = W at *
  refine (HC.out _ hb0).mono ?_
  rintro e w1 ⟨v, rfl, hown0, hb1⟩
  have hown : w1.ownsRow W.heap.size 37 3 v n1 F := by rw [HN.out, HF.out]; exact hown0
  obtain ⟨ao, cap, hv⟩ := row_form hown
  subst hv
  have hB1 := (hb1.block _ (show w.heap.size < W.heap.size by omega)).trans hB
  have hR1 := (hb1.block _ hsz).trans hR
  have c9 : w1.cell? ⟨w.heap.size, 9, none⟩ = some (.slice ao1 n1 ac1) := by rw [cell_of_row _ _ 9 _ _ _ hB1]; rfl
  have f9 : w1.frozen? ⟨w.heap.size, 9, none⟩ = false := frozen_of_row _ _ 9 _ _ hB1
  have hg2 : w1.grownBy (w1.setCell ⟨w.heap.size, 9, none⟩ (.slice ao n1 cap)) (some w.heap.size) := grown_setCell (World.grownBy.refl _ _) (Or.inl rfl) _
  have hB2 := heap_setCell_same w1 w.heap.size 9 _ _ (.slice ao n1 cap) hB1
  have hR2 := (hg2.block (w.heap.size + 1) (by have := hb1.size; omega) (by simp)).trans hR1
  have hown2 : (w1.setCell ⟨w.heap.size, 9, none⟩ (.slice ao n1 cap)).ownsRow W.heap.size 37 3 (.slice ao n1 cap) n1 F := hown.kept hg2 (by
    refine .inr fun e => ?_
    have := (World.ownsRow.lt hown _ e).1
    omega)
  have hb2 : RowKit.Below w.heap.size w (w1.setCell ⟨w.heap.size, 9, none⟩ (.slice ao n1 cap)) := below_row (hb0.trans (hb1.mono hb0.size)) (Nat.le_refl _) (Nat.le_refl _) hg2
  obtain ⟨w2, hw2⟩ : ∃ w2, w2 = w1.setCell ⟨w.heap.size, 9, none⟩ (.slice ao n1 cap) := ⟨_, rfl⟩
  rw [← hw2] at hB2 hR2 hown2 hb2
  have hX : (#[Value.int .i64 at1, .int .i64 ak1, .string akey1, .string afin1, .string aval1, .int .i64 aex1, .int .i64 ap1, .int .i64 al1, .int .i64 aw1, .slice ao1 n1 ac1]).setIfInBounds 9 (.slice ao n1 cap) = #[Value.int .i64 at1, .int .i64 ak1, .string akey1, .string afin1, .string aval1, .int .i64 aex1, .int .i64 ap1, .int .i64 al1, .int .i64 aw1, .slice ao n1 cap] := by simp
  rw [hX] at hB2
  have HW2 := Lib.hid hw2.symm
  obtain ⟨Y, hY⟩ : ∃ Y, Y = #[Value.int .i64 at1, .int .i64 ak1, .string akey1, .string afin1, .string aval1, .int .i64 aex1, .int .i64 ap1, .int .i64 al1, .int .i64 aw1, .slice ao n1 cap] := ⟨_, rfl⟩
  rw [← hY] at hB2
  have hYs : (Tryz.prog.info? 40).map (·.size) = some Y.size := by rw [hY]; exact size_M
  have hY1 : Y.all (·.oneCell') = true := by rw [hY]; simp [Value.oneCell']
  have hZY : (#[Value.int .i64 0, .int .i64 0, .string ⟨#[]⟩, .string ⟨#[]⟩, .string ⟨#[]⟩, .int .i64 0, .int .i64 0, .int .i64 0, .int .i64 0, .slice none 0 0]).size = Y.size := by rw [hY]; rfl
  have h7 := setRow_heap w2 (w.heap.size + 1) _ Y _ _ hR2
  have h8 : RowKit.Below w.heap.size w (w2.setRow (w.heap.size + 1) Y) := below_setRow hb2 (by omega) _
  have h9 : (w2.setRow (w.heap.size + 1) Y).ownsRow W.heap.size 37 3 (.slice ao n1 cap) n1 F := hown2.kept (row := some (w.heap.size + 1)) ⟨rfl, rfl, rfl, by simp, fun k _ hk => setRow_other w2 _ k _ (fun e => hk (by simp [e]))⟩ (by
    refine .inr fun e => ?_
    have := (World.ownsRow.lt hown _ e).1
    omega)
  have HB2 := Lib.hid hB2
  have HR2 := Lib.hid hR2
  have H7 := Lib.hid h7
  have H8 := Lib.hid h8
  have H9 := Lib.hid (own_base h9 hb0.size)
  have HY := Lib.hid hY
  have HYS := Lib.hid hYs
  have HY1 := Lib.hid hY1
  have HZY := Lib.hid hZY
  clear hB hR hsz hown0 hown hB1 hR1 hg2 hB2 hR2 hown2 hb2 hw2 hX hY hYs hY1 hZY h7 h8 h9
  go_upto_region 2 with fail
  rw [HW2.out]
  apply wp_region_lit
  refine wpList_load_row rfl 40 _ rfl w.heap.size rfl 40 Y (0, 0) _ HB2.out Tryz.underlying40 rfl HYS.out ?_
  refine wpList_store_row rfl 40 _ _ rfl (w.heap.size + 1) Y rfl rfl 40 _ HR2.out HYS.out HZY.out HY1.out ?_
  go_wp2_with fail
  refine bodyPost_ret (v := .agg Y) (results_cell_row rfl _ _ (w.heap.size + 1) 40 Y (0, 0) _ rfl H7.out Tryz.underlying40 rfl HYS.out) rfl ⟨.slice ao n1 cap, by rw [HY.out]; rfl, ⟨_, _, rfl⟩, H9.out, H8.out⟩

/-- A row of copies: the same mutations, in memory that the call has made: their row, and the rows of their stamps. -/
structure Copied (w : World) (v : Value) (R : List Ro) (base : Nat) : Prop where
  row : w.ownsRow base 40 10 v R.length (R.flatMap enM)
  over : ∀ x ∈ R, w.ownsRow base 37 3 x.2 x.1.over.length (x.1.over.flatMap enS)
theorem Copied.mrow {w : World} {v : Value} {R : List Ro} {base : Nat} (h : Copied w v R base) : MRow w v R :=
  ⟨Lst.owned enM_len (by decide) rfl h.row, fun x hx => Over.own (h.over x hx)⟩
theorem row_below {w w' : World} {base : Nat} {e : TypeId} {size : Nat} {v : Value} {n : Nat} {xs : List Value} (h : w.ownsRow base e size v n xs) (hb : RowKit.Below w.heap.size w w') : w'.ownsRow base e size v n xs :=
  World.ownsRow.kept h (row := none) ⟨hb.os, hb.tape, hb.output, hb.size, fun i hi _ => hb.block i hi⟩ (by cases v.ownBlock <;> simp)
theorem Copied.below {w w' : World} {v : Value} {R : List Ro} {base : Nat} (h : Copied w v R base) (hb : RowKit.Below w.heap.size w w') : Copied w' v R base :=
  ⟨row_below h.row hb, fun x hx => row_below (h.over x hx) hb⟩
theorem Copied.base {w : World} {v : Value} {R : List Ro} {base b0 : Nat} (h : Copied w v R base) (hb : b0 ≤ base) : Copied w v R b0 := ⟨own_base h.row hb, fun x hx => own_base (h.over x hx) hb⟩
def CopiesP (w : World) (R : List Ro) (r : Ending) (w' : World) : Prop := ∃ v R', r = .returned v ∧ (∃ g cap, v = .slice (some ⟨g, 0, none⟩) R.length cap) ∧ R'.map (·.1) = R.map (·.1) ∧ Copied w' v R' w.heap.size ∧ RowKit.Below w.heap.size w w'

set_option maxHeartbeats 4000000 in
set_option maxRecDepth 100000 in
theorem copies_any (v : Value) (R : List Ro) (w : World) (hv : MRow w v R) (h1 : ∀ x ∈ R, x.1.over.length ≤ 1000000) (hn : R.length ≤ 100000) : Calls Tryz.prog 16 #[v] w (CopiesP w R) := by
  obtain ⟨ao, cap, rfl, -, -⟩ := hv.form
  obtain ⟨n, hnn⟩ : ∃ n, n = R.length := ⟨_, rfl⟩
  rw [← hnn] at hv hn ⊢
  obtain ⟨i0, hi, hz0, hz1, hz2⟩ := info_parts info_M
  have HI := Lib.hid hi
  have HZ0 := Lib.hid hz0
  have HZ1 := Lib.hid hz1
  have HZ2 := Lib.hid hz2
  have HV := Lib.hid hv
  have H1 := Lib.hid h1
  have HN := Lib.hid hnn
  clear hi hz0 hz1 hz2 hv h1 hnn
  go_enter Tryz.func16, Tryz.ntmps16
  go_wp2_with (at_make; refine wpList_make_own _ rfl _ _ 22 rfl w.heap.size 40 i0 zeroM 10 Tryz.underlying22 HI.out HZ0.out HZ1.out .i64 .i64 n n rfl rfl rfl (by rw [HZ2.out]; omega) (by unfold maxLen; omega) (Nat.le_refl _) ?_; intro w0 hown0 hgrow0)
  have hb0 : RowKit.Below w.heap.size w w0 := ⟨hgrow0.os, hgrow0.tape, hgrow0.output, hgrow0.size, fun i hi => hgrow0.block i hi (by simp)⟩
  have HO0 := Lib.hid hown0
  clear hown0 hgrow0
  go_loopw [3, 11] (fun ov iv wr => ∃ (k : Nat) (R' : List Ro) (og oc : Nat), k ≤ n ∧ iv = .int .i64 k ∧ ov = .slice (some ⟨og, 0, none⟩) k oc ∧ Hid (R'.length = k ∧ R'.map (·.1) = (R.take k).map (·.1) ∧ Copied wr (.slice (some ⟨og, 0, none⟩) k oc) R' w.heap.size) ∧ RowKit.Below w.heap.size w wr) (fun _ iv _ => n - (intOf iv).toNat)
  case atStart => exact ⟨0, [], _, _, by omega, rfl, rfl, Lib.hid ⟨rfl, rfl, ⟨HO0.out, fun x hx => (by cases hx)⟩⟩, hb0⟩
  case round =>
    obtain ⟨k, R', og, oc, hk, rfl, rfl, hR, hb⟩ := hrel
    by_cases hlt : k < n
    · have hkl : k < R.length := by have := HN.out; omega
      obtain ⟨x, hx⟩ : ∃ x, R[k]? = some x := ⟨_, List.getElem?_eq_getElem hkl⟩
      have hmr := HV.out.below hb
      obtain ⟨xb, xoff, rfl, hat⟩ := hmr.at_ hx
      obtain ⟨hlt0, a0, a1, a2, a3, a4, a5, a6, a7, a8, a9⟩ := hat
      have hov := hmr.over x (List.mem_of_getElem? hx)
      obtain ⟨xo, xc, xe, -, -⟩ := hov.form
      have hxl := H1.out x (List.mem_of_getElem? hx)
      have hcp := fun (z : World) (h : RowKit.Below wr.heap.size wr z) => copy_any x z (hov.below h) hxl
      have htk : (R.take (k + 1)).map (·.1) = (R.take k).map (·.1) ++ [x.1] := by rw [List.take_add_one, hx, List.map_append]; rfl
      have HTK := Lib.hid htk
      have HCP := Lib.hid hcp
      have hsz := hb.size
      unfold vM at HCP
      rw [xe] at HCP a9
      obtain ⟨m, hm⟩ : ∃ m, m = x.1.over.length := ⟨_, rfl⟩
      rw [← hm] at HCP a9
      have HM := Lib.hid hm
      clear hmr hov hxl hcp htk hx xe hm
      go_wp2_with fail
      refine (HCP.out _ ((Below.refl _ _).alloc (Nat.le_refl _) _)).mono ?_
      rintro e w1 ⟨v, rfl, ⟨vo, vc, rfl⟩, hown, hb1⟩
      have hbw : RowKit.Below wr.heap.size wr w1 := ((Below.refl wr.heap.size wr).alloc (Nat.le_refl _) _).trans (hb1.mono (by simp))
      have hC := hR.out.2.2.below hbw
      have hCr : w1.ownsRow w.heap.size 40 10 (.slice (some ⟨og, 0, none⟩) k oc) k (R'.flatMap enM) := by have h := hC.row; rw [hR.out.1] at h; exact h
      have hbl := hb.trans (hbw.mono hb.size)
      have hownx := own_base (n₀ := w.heap.size) hown (by simp; omega)
      rw [← HM.out] at hownx ⊢
      simp only [vM]
      obtain ⟨y, hy⟩ : ∃ y : Ro, y = (x.1, .slice vo m vc) := ⟨_, rfl⟩
      have hy1 : y.1 = x.1 := by rw [hy]
      have hy2 : y.2 = .slice vo m vc := by rw [hy]
      have hey : enM y = [.int .i64 x.1.table, .int .i64 x.1.kind, .string x.1.key, .string x.1.fin, .string x.1.val, .int .i64 x.1.expiry, .int .i64 x.1.at_.p, .int .i64 x.1.at_.l, .int .i64 x.1.at_.w, .slice vo m vc] := by rw [hy]; rfl
      have hownY : w1.ownsRow w.heap.size 37 3 y.2 y.1.over.length (y.1.over.flatMap enS) := by rw [hy1, hy2, ← HM.out]; exact hownx
      have HCR := Lib.hid hCr
      have HCC := Lib.hid hC
      have HEY := Lib.hid hey
      have HY1 := Lib.hid hy1
      have HOY := Lib.hid hownY
      have hsz1 := hbl.size
      have HNEW : Hid (∀ j u, (enM y)[j]? = some u → (w1.alloc (.cells #[.int .i64 x.1.table, .int .i64 x.1.kind, .string x.1.key, .string x.1.fin, .string x.1.val, .int .i64 x.1.expiry, .int .i64 x.1.at_.p, .int .i64 x.1.at_.l, .int .i64 x.1.at_.w, .slice vo m vc] 40)).cell? ((⟨w1.heap.size, 0, none⟩ : Addr).add j) = some u) := Lib.hid (by rw [hey]; exact new_cells _ _ _)
      have HONE : Hid (∀ u ∈ enM y, u.oneCell' = true) := Lib.hid (by rw [hey]; intro u hu; simp at hu; rcases hu with rfl | rfl | rfl | rfl | rfl | rfl | rfl | rfl | rfl | rfl <;> rfl)
      clear hown hb1 hC hCr hownx hownY hy hy1 hy2 hey a0 a1 a2 a3 a4 a5 a6 a7 a8 a9
      go_wp2_with (at_builtin; refine wpList_append_own _ rfl _ _ 22 rfl w.heap.size 40 i0 zeroM 10 120 Tryz.underlying22 HI.out HZ0.out HZ1.out HZ2.out rfl (by decide) (.slice (some ⟨og, 0, none⟩) k oc) _ _ rfl (HCR.out.alloc _) ⟨_, 0, none⟩ 1 1 (enM y) rfl rfl ?c1 ?c2 ?c3 ?c4 ?c5 ?_; (case c1 => exact HNEW.out); (case c2 => exact HONE.out))
      case c3 => unfold maxLen; omega
      case c4 => omega
      case c5 => simp; omega
      intro v' w3 hown3 hgrow3 _
      have hbl3 : RowKit.Below w.heap.size w w3 := (hbl.alloc hsz1 _).grown hgrow3 (by simp; omega) (fun k hk => (World.ownsRow.lt HCR.out k hk).1)
      have hov3 : ∀ z ∈ R' ++ [y], w3.ownsRow w.heap.size 37 3 z.2 z.1.over.length (z.1.over.flatMap enS) := by
        intro z hz
        have hz1 : w1.ownsRow w.heap.size 37 3 z.2 z.1.over.length (z.1.over.flatMap enS) := by
          rcases List.mem_append.1 hz with h | h
          · exact HCC.out.over z h
          · rw [List.mem_singleton.1 h]; exact HOY.out
        exact (hz1.alloc _).kept hgrow3 (rows_apart hz1 HCR.out (by decide))
      have hlen : (R' ++ [y]).length = k + 1 := by rw [List.length_append, hR.out.1]; rfl
      obtain ⟨gg, gc, rfl⟩ := ownsRow_succ hown3
      have hC3 : Copied w3 (.slice (some ⟨gg, 0, none⟩) (k + 1) gc) (R' ++ [y]) w.heap.size := ⟨by rw [hlen, List.flatMap_append, List.flatMap_singleton]; exact hown3, hov3⟩
      have HR := Lib.hid (show (R' ++ [y]).length = k + 1 ∧ (R' ++ [y]).map (·.1) = (R.take (k + 1)).map (·.1) ∧ Copied w3 (.slice (some ⟨gg, 0, none⟩) (k + 1) gc) (R' ++ [y]) w.heap.size from ⟨hlen, by rw [HTK.out, List.map_append, hR.out.2.1, List.map_singleton, HY1.out], hC3⟩)
      clear hown3 hgrow3 hov3 hlen hC3
      go_wp2_with fail
      go_roundw
      case rel => exact ⟨k + 1, _, _, _, by omega, by go_num, rfl, HR, hbl3⟩
      case measure => simp [intOf]; omega
    · obtain rfl : k = n := by omega
      have HF := Lib.hid (show R'.map (·.1) = R.map (·.1) by have h := hR.out.2.1; rw [List.take_of_length_le (by have := HN.out; omega)] at h; exact h)
      go_wp2_with fail
      go_ret
      exact ⟨_, R', rfl, ⟨og, oc, by rw [← HN.out]; rfl⟩, HF.out, hR.out.2.2, hb⟩
end Go.Proofs.YtmjelcjdfamikaaGreatDoor.Mut

/- The walks of slices.IndexFunc, slices.ContainsFunc at mutations. -/
namespace Go.Proofs.YtmjelcjdfamikaaGreatDoor.Mut
open Go.RowKit Go.Sort Go.Proofs.YtmjelcjdfamikaaGreatDoor.Ord
set_option linter.unusedSectionVars false
variable [Inhabited Lim]

/-- A function value answers whether something is so of a mutation, in each world that came of w₀ but for one block; it leaves what is there. -/
def Asks (w₀ : World) (row : Option Nat) (g : FuncId) (cb : Array Value) (p : Mu → Bool) : Prop :=
  ∀ (x : Ro) (w : World), w₀.grownBy w row → (∃ ao n cap, x.2 = .slice ao n cap) → Calls Tryz.prog g (#[vM x] ++ cb) w fun e w' => e = .returned (.bool (p x.1)) ∧ RowKit.Below w.heap.size w w'
theorem grown_below {w w' : World} (hb : RowKit.Below w.heap.size w w') (row : Option Nat) : w.grownBy w' row := ⟨hb.os, hb.tape, hb.output, hb.size, fun i hi _ => hb.block i hi⟩
theorem grown_then {a b c : World} {row : Option Nat} (h : a.grownBy b row) (hb : RowKit.Below b.heap.size b c) : a.grownBy c row :=
  ⟨hb.os.trans h.os, hb.tape.trans h.tape, hb.output.trans h.output, Nat.le_trans h.size hb.size, fun i hi hne => (hb.block i (Nat.lt_of_lt_of_le hi h.size)).trans (h.block i hi hne)⟩
theorem Asks.later {w w' : World} {row : Option Nat} {g : FuncId} {cb : Array Value} {p : Mu → Bool} (h : Asks w row g cb p) (hg : w.grownBy w' row) : Asks w' row g cb p := fun x z hz hx =>
  h x z ⟨hz.os.trans hg.os, hz.tape.trans hg.tape, hz.output.trans hg.output, Nat.le_trans hg.size hz.size, fun i hi hne => (hz.block i (Nat.lt_of_lt_of_le hi hg.size) hne).trans (hg.block i hi hne)⟩ hx

/-- The place of the first of which something is so, counted from i; below 0: none. -/
def idxF (p : Mu → Bool) : List Mu → Nat → Int
  | [], _ => -1
  | x :: l, i => if p x then i else idxF p l (i + 1)
theorem idxF_none {p : Mu → Bool} : ∀ (l : List Mu) (i : Nat), idxF p l i = -1 ↔ ∀ x ∈ l, p x = false
  | [], i => by simp [idxF]
  | x :: l, i => by
    rw [idxF]
    cases h : p x
    · simp only [Bool.false_eq_true, if_false]
      rw [idxF_none l (i + 1)]; simp [h]
    · simp [h]
theorem idxF_some {p : Mu → Bool} : ∀ (l : List Mu) (i : Nat), ¬ idxF p l i = -1 → ∃ a x b, l = a ++ x :: b ∧ p x = true ∧ (∀ y ∈ a, p y = false) ∧ idxF p l i = (i + a.length : Nat)
  | [], i, h => absurd rfl h
  | x :: l, i, h => by
    rw [idxF] at h ⊢
    cases hp : p x
    · rw [hp] at h
      obtain ⟨a, y, b, e1, e2, e3, e4⟩ := idxF_some l (i + 1) h
      exact ⟨x :: a, y, b, by rw [e1]; rfl, e2, fun z hz => (by
        rcases List.mem_cons.1 hz with rfl | hz
        · exact hp
        · exact e3 z hz), (by simp only [Bool.false_eq_true, if_false, e4, List.length_cons]; omega)⟩
    · exact ⟨[], x, l, rfl, hp, fun _ h => (by cases h), by simp⟩
theorem idxF_any {p : Mu → Bool} (l : List Mu) : decide (0 ≤ idxF p l 0) = l.any p := by
  by_cases h : idxF p l 0 = -1
  · have h2 := (idxF_none l 0).1 h
    rw [h]
    have : l.any p = false := by rw [List.any_eq_false]; intro x hx; rw [h2 x hx]; decide
    rw [this]; rfl
  · obtain ⟨a, x, b, e1, e2, -, e4⟩ := idxF_some l 0 h
    rw [e4, e1]
    simp [e2]

set_option maxHeartbeats 2000000 in
set_option maxRecDepth 100000 in
theorem index_any (v : Value) (R : List Ro) (g : FuncId) (cb : Array Value) (p : Mu → Bool) (row : Option Nat) (w : World) (hv : Lst 10 enM w v R) (hf : ∀ x ∈ R, ∃ ao n cap, x.2 = .slice ao n cap) (hn : R.length ≤ 1000000) (hp : Asks w row g cb p)
    (he : ∀ args w, (callFunc g args).run Tryz.prog w = .ok (.enter g args) w) :
    Calls Tryz.prog 29 #[v, .func (.func g) #[] cb] w fun e w' => e = .returned (.int .i64 (idxF p (R.map (·.1)) 0)) ∧ RowKit.Below w.heap.size w w' := by
  obtain ⟨ao, cap, rfl, -, -⟩ := Lst.form hv
  obtain ⟨n, hnn⟩ : ∃ n, n = R.length := ⟨_, rfl⟩
  rw [← hnn] at hv hn ⊢
  obtain ⟨Q, hQ⟩ : ∃ Q, Q = idxF p (R.map (·.1)) 0 := ⟨_, rfl⟩
  rw [← hQ]
  have HV := Lib.hid hv
  have HF := Lib.hid hf
  have HP := Lib.hid hp
  have HN := Lib.hid hnn
  have HQ := Lib.hid hQ
  clear hv hf hp hnn hQ
  go_enter Tryz.func29, Tryz.ntmps29
  go_wp2_with fail
  go_loopw [8] (fun iv wr => ∃ k : Nat, k ≤ n ∧ iv = .int .i64 k ∧ Hid (idxF p ((R.drop k).map (·.1)) k = Q) ∧ RowKit.Below w.heap.size w wr) (fun iv _ => n - (intOf iv).toNat)
  case atStart => exact ⟨0, by omega, rfl, Lib.hid (by rw [HQ.out]; rfl), Below.refl _ _⟩
  case round =>
    obtain ⟨k, hk, rfl, hi, hb⟩ := hrel
    by_cases hlt : k < n
    · have hkl : k < R.length := by have := HN.out; omega
      obtain ⟨x, hx⟩ : ∃ x, R[k]? = some x := ⟨_, List.getElem?_eq_getElem hkl⟩
      have hxe : R[k] = x := (List.getElem?_eq_some_iff.1 hx).2
      have hmr := HV.out.below hb
      obtain ⟨xb, xoff, hao, hblt, hcell⟩ := Lst.get hmr hkl
      subst hao
      rw [hxe] at hcell
      obtain ⟨hlt0, a0, a1, a2, a3, a4, a5, a6, a7, a8, a9⟩ := At.of (x := x) hblt hcell
      have hcall := HP.out x wr (grown_below hb row) (HF.out x (List.mem_of_getElem? hx))
      have hi' : (if p x.1 then (k : Int) else idxF p ((R.drop (k + 1)).map (·.1)) (k + 1)) = Q := by rw [← hi.out, List.drop_eq_getElem_cons hkl, hxe]; rfl
      obtain ⟨q, hq⟩ : ∃ q, q = p x.1 := ⟨_, rfl⟩
      rw [← hq] at hcall hi'
      unfold vM at hcall
      have HC := Lib.hid hcall
      have HI := Lib.hid hi'
      clear hmr hcell hcall hi' hq hx hxe hi
      cases q
      · go_wp2_with fail
        refine HC.out.mono ?_
        rintro e w1 ⟨rfl, hb1⟩
        go_wp2_with fail
        go_roundw
        case rel => exact ⟨k + 1, by omega, by go_num, HI, hb.trans (hb1.mono hb.size)⟩
        case measure => simp [intOf]; omega
      · go_wp2_with fail
        refine HC.out.mono ?_
        rintro e w1 ⟨rfl, hb1⟩
        go_wp2_with fail
        go_ret
        exact ⟨ret_int HI.out, hb.trans (hb1.mono hb.size)⟩
    · obtain rfl : k = n := by omega
      have he : (-1 : Int) = Q := by rw [← hi.out, List.drop_of_length_le (by have := HN.out; omega)]; rfl
      have HE := Lib.hid he
      clear he
      go_wp2_with fail
      go_ret
      exact ⟨ret_int HE.out, hb⟩

theorem contains_any (v : Value) (R : List Ro) (g : FuncId) (cb : Array Value) (p : Mu → Bool) (row : Option Nat) (w : World) (hv : Lst 10 enM w v R) (hf : ∀ x ∈ R, ∃ ao n cap, x.2 = .slice ao n cap) (hn : R.length ≤ 1000000) (hp : Asks w row g cb p)
    (he : ∀ args w, (callFunc g args).run Tryz.prog w = .ok (.enter g args) w) :
    Calls Tryz.prog 60 #[v, .func (.func g) #[] cb] w fun e w' => e = .returned (.bool ((R.map (·.1)).any p)) ∧ RowKit.Below w.heap.size w w' := by
  have h := index_any v R g cb p row w hv hf hn hp he
  rw [← idxF_any]
  obtain ⟨Q, hQ⟩ : ∃ Q, Q = idxF p (R.map (·.1)) 0 := ⟨_, rfl⟩
  rw [← hQ] at h ⊢
  obtain ⟨ao, cap, rfl, -, -⟩ := Lst.form hv
  generalize R.length = n at *
  have H := Lib.hid h
  clear h hv hf hn hp he hQ
  go_enter Tryz.func60, Tryz.ntmps60
  go_wp2_with fail
  refine H.out.mono ?_
  rintro e w1 ⟨rfl, hb1⟩
  go_wp2_with fail
  go_ret
  exact ⟨rfl, hb1⟩
end Go.Proofs.YtmjelcjdfamikaaGreatDoor.Mut
