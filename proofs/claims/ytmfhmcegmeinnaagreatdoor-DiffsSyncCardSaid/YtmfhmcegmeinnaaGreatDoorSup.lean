/- Stamps in rows; whether one is superseded; what a key of a causal table has (layer 8). PRINTED by wip/gensup.py. -/
import Derived.Test.YtmfhmcegmeinnaaGreatDoorConKnown
set_option linter.unusedSimpArgs false
set_option linter.unusedVariables false
namespace Go.Proofs.YtmfhmcegmeinnaaGreatDoor.Mut
open Go.RowKit Go.Sort Go.Proofs.YtmfhmcegmeinnaaGreatDoor.Ord Go.Proofs.YtmfhmcegmeinnaaGreatDoor.RegInv
set_option linter.unusedSectionVars false
variable [Inhabited Lim]

/-! ## Stamps -/
def eqT (x y : Stp) : Bool := (x.p == y.p) && ((x.l == y.l) && (x.w == y.w))
theorem eqT_comm (x y : Stp) : eqT x y = eqT y x := by
  unfold eqT
  rw [Bool.beq_comm (a := x.p), Bool.beq_comm (a := x.l), Bool.beq_comm (a := x.w)]
theorem eqT_iff (x y : Stp) : eqT x y = true ↔ x = y := by
  obtain ⟨a, b, c⟩ := x
  obtain ⟨d, e, f⟩ := y
  simp [eqT]
theorem heldT : Tryz.prog.stoodInHeld 43 = false := by kernel_rfl
theorem guardT : Tryz.prog.eqGuardType Tryz.prog.depth 43 = false := by kernel_rfl
theorem fieldsT : Tryz.prog.underlying 43 = some (.struct (Tryz.prog.fieldsOf 43)) := by unfold Program.fieldsOf; rw [Tryz.underlying43]
theorem eqT_run (x y : Stp) (w : World) : (Op.equalIn 10000 43 (.agg #[.int .i64 x.p, .int .i64 x.l, .int .i64 x.w]) (.agg #[.int .i64 y.p, .int .i64 y.l, .int .i64 y.w])).run Tryz.prog w = .ok (eqT x y) w := by
  rw [run_equalIn_agg w 9999 _ _ _ fieldsT heldT]
  unfold Program.fieldsOf
  rw [Tryz.underlying43]
  unfold eqT
  go_simp
  by_cases h2 : x.p = y.p <;> by_cases h3 : x.l = y.l <;> by_cases h4 : x.w = y.w <;> simp [h2, h3, h4]
theorem eqlT_run (x y : Stp) (q : Bool) (h : eqT x y = q) (w : World) : (binOp .eql 43 (.agg #[.int .i64 x.p, .int .i64 x.l, .int .i64 x.w]) (.agg #[.int .i64 y.p, .int .i64 y.l, .int .i64 y.w])).run Tryz.prog w = .ok (.bool q) w := by
  rw [run_eql_struct, eqT_run, h]; rfl
theorem guardT_run (op : BinOp) (a b : Operand) (xs ys : Array Value) (w : World) : (eqGuard op 43 a b (.agg xs) (.agg ys)).run Tryz.prog w = .ok () w := run_eqGuard_agg w op _ a b xs ys guardT
theorem stamp_cells {w : World} {ao : Option Addr} {n cap : Nat} {l : List Stp} (h : Lst 3 enS w (.slice ao n cap) l) {k : Nat} (hk : k < l.length) :
    ∃ b off, ao = some ⟨b, off, none⟩ ∧ b < w.heap.size ∧ w.cell? ⟨b, off + k * 3, none⟩ = some (.int .i64 l[k].p) ∧ w.cell? ⟨b, off + k * 3 + 1, none⟩ = some (.int .i64 l[k].l) ∧ w.cell? ⟨b, off + k * 3 + 2, none⟩ = some (.int .i64 l[k].w) := by
  obtain ⟨b, off, e, h1, h2⟩ := Lst.get h hk
  exact ⟨b, off, e, h1, h2 0 (by omega), h2 1 (by omega), h2 2 (by omega)⟩
def hasS (l : List Stp) (s : Stp) : Bool := l.any fun y => eqT y s

set_option maxHeartbeats 2000000 in
set_option maxRecDepth 100000 in
theorem stindex_any (v : Value) (a : List Stp) (s : Stp) (w : World) (hv : Lst 3 enS w v a) (hn : a.length ≤ 1000000) :
    Calls Tryz.prog 193 #[v, vS s] w fun e w' => ∃ i : Int, e = .returned (.int .i64 i) ∧ decide (0 ≤ i) = hasS a s ∧ RowKit.Below w.heap.size w w' := by
  obtain ⟨ao, ac, rfl, -, -⟩ := Lst.form hv
  obtain ⟨sp, sl, sw⟩ := s
  unfold vS
  simp only []
  have HA := Lib.hid hv
  clear hv
  obtain ⟨W0, hW0⟩ : ∃ W0, W0 = w.alloc (.cells #[.int .i64 sp, .int .i64 sl, .int .i64 sw] 43) := ⟨_, rfl⟩
  have t0 : W0.cell? ⟨w.heap.size, 0, none⟩ = some (.int .i64 sp) := by rw [hW0]; go_simp
  have t1 : W0.cell? ⟨w.heap.size, 1, none⟩ = some (.int .i64 sl) := by rw [hW0]; go_simp
  have t2 : W0.cell? ⟨w.heap.size, 2, none⟩ = some (.int .i64 sw) := by rw [hW0]; go_simp
  have HB0 := Lib.hid (show RowKit.Below w.heap.size w W0 by rw [hW0]; exact (Below.refl _ _).alloc (Nat.le_refl _) _)
  have hs0 : w.heap.size < W0.heap.size := by rw [hW0]; simp
  have HT3 := Lib.hid (And.intro t0 (And.intro t1 t2))
  have HW0 := Lib.hid hW0
  clear t0 t1 t2 hW0
  go_enter Tryz.func193, Tryz.ntmps193
  go_wp2_with fail
  rw [← HW0.out]
  clear HW0
  go_loopw [8] (fun iv wr => ∃ k : Nat, k ≤ a.length ∧ iv = .int .i64 k ∧ Hid (hasS (a.drop k) ⟨sp, sl, sw⟩ = hasS a ⟨sp, sl, sw⟩) ∧ Hid (RowKit.Below W0.heap.size W0 wr)) (fun iv _ => a.length - (intOf iv).toNat)
  case atStart => exact ⟨0, by omega, rfl, Lib.hid (by simp), Lib.hid (Below.refl _ _)⟩
  case round =>
    obtain ⟨k, hk, rfl, hq0, hl⟩ := hrel
    by_cases hlt : k < a.length
    · obtain ⟨ab, aoff, rfl, hbl, a0, a1, a2⟩ := stamp_cells (HA.out.below (below_then HB0.out (Nat.le_refl _) hl.out)) hlt
      have hda := List.drop_eq_getElem_cons hlt
      generalize a[k] = y at *
      obtain ⟨yp, yl, yw⟩ := y
      have HDA := Lib.hid hda
      clear hda
      simp only [] at a0 a1 a2
      have t0 := (hl.out.cell (p := ⟨w.heap.size, 0, none⟩) hs0).trans HT3.out.1
      have t1 := (hl.out.cell (p := ⟨w.heap.size, 1, none⟩) hs0).trans HT3.out.2.1
      have t2 := (hl.out.cell (p := ⟨w.heap.size, 2, none⟩) hs0).trans HT3.out.2.2
      have hgr : w.heap.size < wr.heap.size := Nat.lt_of_lt_of_le hs0 hl.out.size
      cases hqq : eqT ⟨sp, sl, sw⟩ ⟨yp, yl, yw⟩
      all_goals
        have HQ := Lib.hid hqq
        have hn := eqlT_run _ _ _ hqq
        simp only [] at hn
        have hg := guardT_run .eql
        clear hqq
        go_wp2_with fail
        refine wp_region_calm (by kernel_rfl) (by kernel_rfl) ?_
        repeat (go_big_quiet_step (fail))
        refine wpQuiet_nil ?_
        rintro _ ⟨y, rfl⟩
        have HF := Lib.hid (below_then hl.out (Nat.le_refl _) y.below)
        clear a0 a1 a2 t0 t1 t2 hn hg
        go_wp2_with fail
      · go_roundw
        case rel => exact ⟨k + 1, by omega, by go_num, Lib.hid (by have h := hq0.out; rw [HDA.out] at h; unfold hasS at h ⊢; rw [List.any_cons, eqT_comm, HQ.out, Bool.false_or] at h; exact h), HF⟩
        case measure => simp [intOf]; omega
      · go_ret
        exact ⟨k, rfl, by rw [← hq0.out, HDA.out]; unfold hasS; rw [List.any_cons, eqT_comm, HQ.out]; simp, below_then HB0.out (Nat.le_refl _) HF.out⟩
    · obtain rfl : k = a.length := by omega
      go_wp2_with fail
      go_ret
      exact ⟨-1, rfl, by rw [← hq0.out, List.drop_length]; rfl, below_then HB0.out (Nat.le_refl _) hl.out⟩

set_option maxRecDepth 100000 in
theorem stcontains_any (v : Value) (a : List Stp) (s : Stp) (w : World) (hv : Lst 3 enS w v a) (hn : a.length ≤ 1000000) :
    Calls Tryz.prog 163 #[v, vS s] w (RetB (hasS a s) w) := by
  have HC := Lib.hid (fun W (h : RowKit.Below w.heap.size w W) => stindex_any v a s W (hv.below h) hn)
  obtain ⟨ao, ac, rfl, -, -⟩ := Lst.form hv
  obtain ⟨sp, sl, sw⟩ := s
  unfold vS at HC ⊢
  simp only [] at HC ⊢
  clear hv
  obtain ⟨Q, hQ⟩ : ∃ Q, Q = hasS a ⟨sp, sl, sw⟩ := ⟨_, rfl⟩
  rw [← hQ] at HC ⊢
  clear hQ
  generalize a.length = n at *
  go_enter Tryz.func163, Tryz.ntmps163
  go_wp2_with fail
  refine (HC.out _ ((Below.refl _ w).alloc (Nat.le_refl _) _)).mono ?_
  rintro e w2 ⟨i, rfl, hi, hb2⟩
  have HI := Lib.hid hi
  have HB := Lib.hid (below_then ((Below.refl _ w).alloc (Nat.le_refl _) (.cells #[.int .i64 sp, .int .i64 sl, .int .i64 sw] 43)) (Nat.le_refl _) hb2)
  clear hi hb2
  go_wp2_with fail
  go_ret
  exact ⟨ret_bool HI.out, HB.out⟩

set_option maxHeartbeats 2000000 in
set_option maxRecDepth 100000 in
theorem refstin_any (v : Value) (a : List Stp) (s : Stp) (w : World) (hv : Lst 3 enS w v a) (hn : a.length ≤ 1000000) :
    Calls Tryz.prog 158 #[v, vS s] w (RetB (hasS a s) w) := by
  obtain ⟨ao, ac, rfl, -, -⟩ := Lst.form hv
  obtain ⟨sp, sl, sw⟩ := s
  unfold vS
  simp only []
  obtain ⟨Q, hQ⟩ : ∃ Q, Q = hasS a ⟨sp, sl, sw⟩ := ⟨_, rfl⟩
  rw [← hQ]
  have HQ0 := Lib.hid hQ
  have HA := Lib.hid hv
  clear hv hQ
  obtain ⟨W0, hW0⟩ : ∃ W0, W0 = w.alloc (.cells #[.int .i64 sp, .int .i64 sl, .int .i64 sw] 43) := ⟨_, rfl⟩
  have t0 : W0.cell? ⟨w.heap.size, 0, none⟩ = some (.int .i64 sp) := by rw [hW0]; go_simp
  have t1 : W0.cell? ⟨w.heap.size, 1, none⟩ = some (.int .i64 sl) := by rw [hW0]; go_simp
  have t2 : W0.cell? ⟨w.heap.size, 2, none⟩ = some (.int .i64 sw) := by rw [hW0]; go_simp
  have HB0 := Lib.hid (show RowKit.Below w.heap.size w W0 by rw [hW0]; exact (Below.refl _ _).alloc (Nat.le_refl _) _)
  have hs0 : w.heap.size < W0.heap.size := by rw [hW0]; simp
  have HT3 := Lib.hid (And.intro t0 (And.intro t1 t2))
  have HW0 := Lib.hid hW0
  clear t0 t1 t2 hW0
  go_enter Tryz.func158, Tryz.ntmps158
  go_wp2_with fail
  rw [← HW0.out]
  clear HW0
  go_loopw [5] (fun iv wr => ∃ k : Nat, k ≤ a.length ∧ iv = .int .i64 k ∧ Hid (hasS (a.drop k) ⟨sp, sl, sw⟩ = Q) ∧ Hid (RowKit.Below W0.heap.size W0 wr)) (fun iv _ => a.length - (intOf iv).toNat)
  case atStart => exact ⟨0, by omega, rfl, Lib.hid (by rw [HQ0.out]; simp), Lib.hid (Below.refl _ _)⟩
  case round =>
    obtain ⟨k, hk, rfl, hq0, hl⟩ := hrel
    by_cases hlt : k < a.length
    · obtain ⟨ab, aoff, rfl, hbl, a0, a1, a2⟩ := stamp_cells (HA.out.below (below_then HB0.out (Nat.le_refl _) hl.out)) hlt
      have hda := List.drop_eq_getElem_cons hlt
      generalize a[k] = y at *
      obtain ⟨yp, yl, yw⟩ := y
      have HDA := Lib.hid hda
      clear hda
      simp only [] at a0 a1 a2
      have t0 := (hl.out.cell (p := ⟨w.heap.size, 0, none⟩) hs0).trans HT3.out.1
      have t1 := (hl.out.cell (p := ⟨w.heap.size, 1, none⟩) hs0).trans HT3.out.2.1
      have t2 := (hl.out.cell (p := ⟨w.heap.size, 2, none⟩) hs0).trans HT3.out.2.2
      have hgr : w.heap.size < wr.heap.size := Nat.lt_of_lt_of_le hs0 hl.out.size
      cases hqq : eqT ⟨yp, yl, yw⟩ ⟨sp, sl, sw⟩
      all_goals
        have HQ := Lib.hid hqq
        have hn := eqlT_run _ _ _ hqq
        simp only [] at hn
        have hg := guardT_run .eql
        clear hqq
        go_wp2_with fail
        refine wp_region_calm (by kernel_rfl) (by kernel_rfl) ?_
        repeat (go_big_quiet_step (fail))
        refine wpQuiet_nil ?_
        rintro _ ⟨y, rfl⟩
        have HF := Lib.hid (below_then hl.out (Nat.le_refl _) y.below)
        clear a0 a1 a2 t0 t1 t2 hn hg
        go_wp2_with fail
      · go_roundw
        case rel => exact ⟨k + 1, by omega, by go_num, Lib.hid (by have h := hq0.out; rw [HDA.out] at h; unfold hasS at h ⊢; rw [List.any_cons, HQ.out, Bool.false_or] at h; exact h), HF⟩
        case measure => simp [intOf]; omega
      · have HR := Lib.hid (show true = Q by rw [← hq0.out, HDA.out]; unfold hasS; rw [List.any_cons, HQ.out]; rfl)
        go_ret
        exact ⟨ret_bool HR.out, below_then HB0.out (Nat.le_refl _) HF.out⟩
    · obtain rfl : k = a.length := by omega
      have HR := Lib.hid (show false = Q by rw [← hq0.out, List.drop_length]; rfl)
      go_wp2_with fail
      go_ret
      exact ⟨ret_bool HR.out, below_then HB0.out (Nat.le_refl _) hl.out⟩

/-! ## Superseded -/
def supM (key : ByteArray) (s : Stp) (m : Mu) : Bool := (m.key.toList == key.toList) && hasS m.over s
def supF (c : Con) (key : ByteArray) (s : Stp) : Bool := c.sibs.any (supM key s)
/-- A question whose function looks at the superseded stamps too. -/
def AsksO (w₀ : World) (g : FuncId) (cb : Array Value) (p : Mu → Bool) : Prop :=
  ∀ (x : Ro) (w : World), RowKit.Below w₀.heap.size w₀ w → Over w x → x.1.over.length ≤ 1000000 → Calls Tryz.prog g (#[vM x] ++ cb) w fun e w' => e = .returned (.bool (p x.1)) ∧ RowKit.Below w.heap.size w w'
set_option maxHeartbeats 2000000 in
set_option maxRecDepth 100000 in
theorem indexO_any (v : Value) (R : List Ro) (g : FuncId) (cb : Array Value) (p : Mu → Bool) (w : World) (hv : MRow w v R) (hf : ∀ x ∈ R, x.1.over.length ≤ 1000000) (hn : R.length ≤ 1000000) (hp : AsksO w g cb p)
    (he : ∀ args w, (callFunc g args).run Tryz.prog w = .ok (.enter g args) w) :
    Calls Tryz.prog 107 #[v, .func (.func g) #[] cb] w fun e w' => e = .returned (.int .i64 (idxF p (R.map (·.1)) 0)) ∧ RowKit.Below w.heap.size w w' := by
  obtain ⟨ao, cap, rfl, -, -⟩ := hv.form
  obtain ⟨n, hnn⟩ : ∃ n, n = R.length := ⟨_, rfl⟩
  rw [← hnn] at hv hn ⊢
  obtain ⟨Q, hQ⟩ : ∃ Q, Q = idxF p (R.map (·.1)) 0 := ⟨_, rfl⟩
  rw [← hQ]
  have HV := Lib.hid hv
  have HF := Lib.hid hf
  have HP := Lib.hid hp
  have HN := Lib.hid hnn
  have HQ := Lib.hid hQ
  clear hv hf hp hnn hQ
  go_enter Tryz.func107, Tryz.ntmps107
  go_wp2_with fail
  go_loopw [8] (fun iv wr => ∃ k : Nat, k ≤ n ∧ iv = .int .i64 k ∧ Hid (idxF p ((R.drop k).map (·.1)) k = Q) ∧ RowKit.Below w.heap.size w wr) (fun iv _ => n - (intOf iv).toNat)
  case atStart => exact ⟨0, by omega, rfl, Lib.hid (by rw [HQ.out]; rfl), Below.refl _ _⟩
  case round =>
    obtain ⟨k, hk, rfl, hi, hb⟩ := hrel
    by_cases hlt : k < n
    · have hkl : k < R.length := by have := HN.out; omega
      obtain ⟨x, hx⟩ : ∃ x, R[k]? = some x := ⟨_, List.getElem?_eq_getElem hkl⟩
      have hxe : R[k] = x := (List.getElem?_eq_some_iff.1 hx).2
      have hmr := HV.out.below hb
      obtain ⟨xb, xoff, hao, hblt, hcell⟩ := Lst.get hmr.row hkl
      subst hao
      rw [hxe] at hcell
      obtain ⟨hlt0, a0, a1, a2, a3, a4, a5, a6, a7, a8, a9⟩ := At.of (x := x) hblt hcell
      have hcall := HP.out x wr hb (hmr.over x (List.mem_of_getElem? hx)) (HF.out x (List.mem_of_getElem? hx))
      have hi' : (if p x.1 then (k : Int) else idxF p ((R.drop (k + 1)).map (·.1)) (k + 1)) = Q := by rw [← hi.out, List.drop_eq_getElem_cons hkl, hxe]; rfl
      obtain ⟨q, hq⟩ : ∃ q, q = p x.1 := ⟨_, rfl⟩
      rw [← hq] at hcall hi'
      unfold vM at hcall
      have HC := Lib.hid hcall
      have HI := Lib.hid hi'
      clear hmr hcell hcall hi' hq hx hxe hi
      cases q
      · go_wp2_with fail
        refine HC.out.mono ?_
        rintro e w1 ⟨rfl, hb1⟩
        go_wp2_with fail
        go_roundw
        case rel => exact ⟨k + 1, by omega, by go_num, HI, hb.trans (hb1.mono hb.size)⟩
        case measure => simp [intOf]; omega
      · go_wp2_with fail
        refine HC.out.mono ?_
        rintro e w1 ⟨rfl, hb1⟩
        go_wp2_with fail
        go_ret
        exact ⟨ret_int HI.out, hb.trans (hb1.mono hb.size)⟩
    · obtain rfl : k = n := by omega
      have he : (-1 : Int) = Q := by rw [← hi.out, List.drop_of_length_le (by have := HN.out; omega)]; rfl
      have HE := Lib.hid he
      clear he
      go_wp2_with fail
      go_ret
      exact ⟨ret_int HE.out, hb⟩

theorem containsO_any (v : Value) (R : List Ro) (g : FuncId) (cb : Array Value) (p : Mu → Bool) (w : World) (hv : MRow w v R) (hf : ∀ x ∈ R, x.1.over.length ≤ 1000000) (hn : R.length ≤ 1000000) (hp : AsksO w g cb p)
    (he : ∀ args w, (callFunc g args).run Tryz.prog w = .ok (.enter g args) w) :
    Calls Tryz.prog 120 #[v, .func (.func g) #[] cb] w fun e w' => e = .returned (.bool ((R.map (·.1)).any p)) ∧ RowKit.Below w.heap.size w w' := by
  have h := indexO_any v R g cb p w hv hf hn hp he
  rw [← idxF_any]
  obtain ⟨Q, hQ⟩ : ∃ Q, Q = idxF p (R.map (·.1)) 0 := ⟨_, rfl⟩
  rw [← hQ] at h ⊢
  obtain ⟨ao, cap, rfl, -, -⟩ := hv.form
  generalize R.length = n at *
  have H := Lib.hid h
  clear h hv hf hn hp he hQ
  go_enter Tryz.func120, Tryz.ntmps120
  go_wp2_with fail
  refine H.out.mono ?_
  rintro e w1 ⟨rfl, hb1⟩
  go_wp2_with fail
  go_ret
  exact ⟨rfl, hb1⟩

set_option maxHeartbeats 2000000 in
set_option maxRecDepth 100000 in
theorem ask_sup (key : ByteArray) (s : Stp) (b c : Nat) (w : World) (hb : b < w.heap.size) (hc : c < w.heap.size) (hk : w.cell? ⟨b, 0, none⟩ = some (.string key)) (h0 : w.cell? ⟨c, 0, none⟩ = some (.int .i64 s.p)) (h1 : w.cell? ⟨c, 1, none⟩ = some (.int .i64 s.l)) (h2 : w.cell? ⟨c, 2, none⟩ = some (.int .i64 s.w)) :
    AsksO w 162 #[.pointer (some ⟨b, 0, none⟩), .pointer (some ⟨c, 0, none⟩)] (supM key s) := by
  intro x w1 hg hx hxl
  have hb1 : b < w1.heap.size := Nat.lt_of_lt_of_le hb hg.size
  have hc1 : c < w1.heap.size := Nat.lt_of_lt_of_le hc hg.size
  have k0 := (hg.cell (p := ⟨b, 0, none⟩) hb).trans hk
  have s0 := (hg.cell (p := ⟨c, 0, none⟩) hc).trans h0
  have s1 := (hg.cell (p := ⟨c, 1, none⟩) hc).trans h1
  have s2 := (hg.cell (p := ⟨c, 2, none⟩) hc).trans h2
  have HC := Lib.hid (fun W (h : RowKit.Below w1.heap.size w1 W) => stcontains_any x.2 x.1.over s W (Lst.below hx.lst h) hxl)
  have hfin : supM key s x.1 = ((x.1.key.toList == key.toList) && hasS x.1.over s) := rfl
  rw [hfin]
  obtain ⟨Q, hQ⟩ : ∃ Q, (x.1.key.toList == key.toList) = Q := ⟨_, rfl⟩
  obtain ⟨U, hU⟩ : ∃ U, U = hasS x.1.over s := ⟨_, rfl⟩
  rw [← hU] at HC ⊢
  rw [hQ]
  obtain ⟨xo, xc, ex, -, -⟩ := Over.form hx
  clear hU hg hfin hk h0 h1 h2 hx hxl
  obtain ⟨⟨at1, ak1, akey1, afin1, aval1, aex1, ⟨ap1, al1, aw1⟩, aov1⟩, av1⟩ := x
  obtain ⟨sp, sl, sw⟩ := s
  simp only [] at ex s0 s1 s2 hQ
  obtain ⟨xn, hxn⟩ : ∃ k, k = aov1.length := ⟨_, rfl⟩
  rw [← hxn] at ex
  subst ex
  clear hxn
  unfold vM
  unfold vS at HC
  simp only [] at HC ⊢
  go_enter Tryz.func162, Tryz.ntmps162
  have hB := Lib.hid (((Below.refl _ w1).alloc (Nat.le_refl _) (.cells #[.int .i64 at1, .int .i64 ak1, .string akey1, .string afin1, .string aval1, .int .i64 aex1, .int .i64 ap1, .int .i64 al1, .int .i64 aw1, .slice xo xn xc] 51)))
  cases Q
  · go_wp2_with fail
    go_ret
    exact ⟨rfl, hB.out⟩
  · go_wp2_with fail
    refine (HC.out _ hB.out).mono ?_
    rintro e w2 ⟨rfl, hb2⟩
    have HB2 := Lib.hid (below_then hB.out (Nat.le_refl _) hb2)
    clear hb2
    go_wp2_with fail
    go_ret
    exact ⟨rfl, HB2.out⟩

set_option maxHeartbeats 1000000 in
set_option maxRecDepth 100000 in
theorem c_sup {c : Con} {n : Nat} {v : Value} {w : World} (key : ByteArray) (s : Stp) (hv : IsC c v w) (h : Good c n) (hn : n ≤ 100000) :
    Calls Tryz.prog 110 #[v, .string key, vS s] w (RetB (supF c key s) w) := by
  have hln := h.okc.lens
  have hsm : ∀ m ∈ c.sibs, Small m := fun m hm => small_right (h.okc.right m (Con.mem_all.2 (Or.inr (Or.inr hm))))
  obtain ⟨a, b, d, rfl, hl⟩ := hv
  obtain ⟨R, hR, hd⟩ := hl.sibs
  obtain ⟨bo, bc, rfl, -, -⟩ := hd.form
  have hl1 : R.length ≤ 1000000 := by have h1 := congrArg List.length hR; rw [List.length_map] at h1; omega
  have hov : ∀ x ∈ R, x.1.over.length ≤ 1000000 := fun x hx => (hsm x.1 (hR ▸ List.mem_map.2 ⟨x, hx, rfl⟩)).over
  have HC := Lib.hid (fun (W : World) (hW : RowKit.Below w.heap.size w W) (hp : AsksO W 162 #[.pointer (some ⟨w.heap.size + 1, 0, none⟩), .pointer (some ⟨w.heap.size + 1 + 1, 0, none⟩)] (supM key s)) =>
    containsO_any (.slice bo R.length bc) R 162 #[.pointer (some ⟨w.heap.size + 1, 0, none⟩), .pointer (some ⟨w.heap.size + 1 + 1, 0, none⟩)] (supM key s) W (hd.below hW) hov hl1 hp (enters_of Tryz.func162 (by kernel_rfl) rfl))
  obtain ⟨o1, n1, k1, rfl⟩ := hl.cells.slice
  obtain ⟨o2, n2, k2, rfl⟩ := hl.wipes.slice
  have hq : supF c key s = (R.map (·.1)).any (supM key s) := by rw [hR]; rfl
  rw [hq]
  clear hl hd hl1 hov hln hsm hq hR
  obtain ⟨m, hN⟩ : ∃ n, n = R.length := ⟨_, rfl⟩
  obtain ⟨Q, hQ⟩ : ∃ Q, Q = (R.map (·.1)).any (supM key s) := ⟨_, rfl⟩
  rw [← hN, ← hQ] at HC
  rw [← hN, ← hQ]
  clear hN hQ
  obtain ⟨sp, sl, sw⟩ := s
  unfold vS
  simp only [] at HC ⊢
  go_enter Tryz.func110, Tryz.ntmps110
  go_wp2_with fail
  have hB := Lib.hid (((((Below.refl _ w).alloc (Nat.le_refl _) (.cells #[.slice o1 n1 k1, .slice o2 n2 k2, .slice bo m bc] 28)).alloc (by simp) (.cells #[.string key] 9))).alloc (by simp; omega) (.cells #[.int .i64 sp, .int .i64 sl, .int .i64 sw] 43))
  refine (HC.out _ hB.out (ask_sup key ⟨sp, sl, sw⟩ _ _ _ (by simp) (by simp) (by go_simp) (by go_simp) (by go_simp) (by go_simp))).mono ?_
  rintro e w2 ⟨rfl, hb⟩
  have HB := Lib.hid (below_then hB.out (Nat.le_refl _) hb)
  clear hb
  go_wp2_with fail
  go_ret
  exact ⟨rfl, HB.out⟩

end Go.Proofs.YtmfhmcegmeinnaaGreatDoor.Mut
