/- Stamps in rows; whether one is superseded; what a key of a causal table has (layer 8). PRINTED by wip/gensup.py. -/
import Derived.Test.YthdbilggnjjkhaaGreatDoorConKnown
set_option linter.unusedSimpArgs false
set_option linter.unusedVariables false
namespace Go.Proofs.YthdbilggnjjkhaaGreatDoor.Mut
open Go.RowKit Go.Sort Go.Proofs.YthdbilggnjjkhaaGreatDoor.Ord Go.Proofs.YthdbilggnjjkhaaGreatDoor.RegInv
set_option linter.unusedSectionVars false
variable [Inhabited Lim]

/-! ## Stamps -/
def eqT (x y : Stp) : Bool := (x.p == y.p) && ((x.l == y.l) && (x.w == y.w))
theorem eqT_comm (x y : Stp) : eqT x y = eqT y x := by
  unfold eqT
  rw [Bool.beq_comm (a := x.p), Bool.beq_comm (a := x.l), Bool.beq_comm (a := x.w)]
theorem eqT_iff (x y : Stp) : eqT x y = true ↔ x = y := by
  obtain ⟨a, b, c⟩ := x
  obtain ⟨d, e, f⟩ := y
  simp [eqT]
theorem heldT : Tryz.prog.stoodInHeld 23 = false := by kernel_rfl
theorem guardT : Tryz.prog.eqGuardType Tryz.prog.depth 23 = false := by kernel_rfl
theorem fieldsT : Tryz.prog.underlying 23 = some (.struct (Tryz.prog.fieldsOf 23)) := by unfold Program.fieldsOf; rw [Tryz.underlying23]
theorem eqT_run (x y : Stp) (w : World) : (Op.equalIn 10000 23 (.agg #[.int .i64 x.p, .int .i64 x.l, .int .i64 x.w]) (.agg #[.int .i64 y.p, .int .i64 y.l, .int .i64 y.w])).run Tryz.prog w = .ok (eqT x y) w := by
  rw [run_equalIn_agg w 9999 _ _ _ fieldsT heldT]
  unfold Program.fieldsOf
  rw [Tryz.underlying23]
  unfold eqT
  go_simp
  by_cases h2 : x.p = y.p <;> by_cases h3 : x.l = y.l <;> by_cases h4 : x.w = y.w <;> simp [h2, h3, h4]
theorem eqlT_run (x y : Stp) (q : Bool) (h : eqT x y = q) (w : World) : (binOp .eql 23 (.agg #[.int .i64 x.p, .int .i64 x.l, .int .i64 x.w]) (.agg #[.int .i64 y.p, .int .i64 y.l, .int .i64 y.w])).run Tryz.prog w = .ok (.bool q) w := by
  rw [run_eql_struct, eqT_run, h]; rfl
theorem guardT_run (op : BinOp) (a b : Operand) (xs ys : Array Value) (w : World) : (eqGuard op 23 a b (.agg xs) (.agg ys)).run Tryz.prog w = .ok () w := run_eqGuard_agg w op _ a b xs ys guardT
theorem stamp_cells {w : World} {ao : Option Addr} {n cap : Nat} {l : List Stp} (h : Lst 3 enS w (.slice ao n cap) l) {k : Nat} (hk : k < l.length) :
    ∃ b off, ao = some ⟨b, off, none⟩ ∧ b < w.heap.size ∧ w.cell? ⟨b, off + k * 3, none⟩ = some (.int .i64 l[k].p) ∧ w.cell? ⟨b, off + k * 3 + 1, none⟩ = some (.int .i64 l[k].l) ∧ w.cell? ⟨b, off + k * 3 + 2, none⟩ = some (.int .i64 l[k].w) := by
  obtain ⟨b, off, e, h1, h2⟩ := Lst.get h hk
  exact ⟨b, off, e, h1, h2 0 (by omega), h2 1 (by omega), h2 2 (by omega)⟩
def hasS (l : List Stp) (s : Stp) : Bool := l.any fun y => eqT y s

/-! ## Superseded -/
def supM (key : ByteArray) (s : Stp) (m : Mu) : Bool := (m.key.toList == key.toList) && hasS m.over s
def supF (c : Con) (key : ByteArray) (s : Stp) : Bool := c.sibs.any (supM key s)
/-- A question whose function looks at the superseded stamps too. -/
def AsksO (w₀ : World) (g : FuncId) (cb : Array Value) (p : Mu → Bool) : Prop :=
  ∀ (x : Ro) (w : World), RowKit.Below w₀.heap.size w₀ w → Over w x → x.1.over.length ≤ 1000000 → Calls Tryz.prog g (#[vM x] ++ cb) w fun e w' => e = .returned (.bool (p x.1)) ∧ RowKit.Below w.heap.size w w'
set_option maxHeartbeats 2000000 in
set_option maxRecDepth 100000 in
theorem indexO_any (v : Value) (R : List Ro) (g : FuncId) (cb : Array Value) (p : Mu → Bool) (w : World) (hv : MRow w v R) (hf : ∀ x ∈ R, x.1.over.length ≤ 1000000) (hn : R.length ≤ 1000000) (hp : AsksO w g cb p)
    (he : ∀ args w, (callFunc g args).run Tryz.prog w = .ok (.enter g args) w) :
    Calls Tryz.prog 127 #[v, .func (.func g) #[] cb] w fun e w' => e = .returned (.int .i64 (idxF p (R.map (·.1)) 0)) ∧ RowKit.Below w.heap.size w w' := by
  obtain ⟨ao, cap, rfl, -, -⟩ := hv.form
  obtain ⟨n, hnn⟩ : ∃ n, n = R.length := ⟨_, rfl⟩
  rw [← hnn] at hv hn ⊢
  obtain ⟨Q, hQ⟩ : ∃ Q, Q = idxF p (R.map (·.1)) 0 := ⟨_, rfl⟩
  rw [← hQ]
  have HV := Lib.hid hv
  have HF := Lib.hid hf
  have HP := Lib.hid hp
  have HN := Lib.hid hnn
  have HQ := Lib.hid hQ
  clear hv hf hp hnn hQ
  go_enter Tryz.func127, Tryz.ntmps127
  go_wp2_with fail
  go_loopw [8] (fun iv wr => ∃ k : Nat, k ≤ n ∧ iv = .int .i64 k ∧ Hid (idxF p ((R.drop k).map (·.1)) k = Q) ∧ RowKit.Below w.heap.size w wr) (fun iv _ => n - (intOf iv).toNat)
  case atStart => exact ⟨0, by omega, rfl, Lib.hid (by rw [HQ.out]; rfl), Below.refl _ _⟩
  case round =>
    obtain ⟨k, hk, rfl, hi, hb⟩ := hrel
    by_cases hlt : k < n
    · have hkl : k < R.length := by have := HN.out; omega
      obtain ⟨x, hx⟩ : ∃ x, R[k]? = some x := ⟨_, List.getElem?_eq_getElem hkl⟩
      have hxe : R[k] = x := (List.getElem?_eq_some_iff.1 hx).2
      have hmr := HV.out.below hb
      obtain ⟨xb, xoff, hao, hblt, hcell⟩ := Lst.get hmr.row hkl
      subst hao
      rw [hxe] at hcell
      obtain ⟨hlt0, a0, a1, a2, a3, a4, a5, a6, a7, a8, a9⟩ := At.of (x := x) hblt hcell
      have hcall := HP.out x wr hb (hmr.over x (List.mem_of_getElem? hx)) (HF.out x (List.mem_of_getElem? hx))
      have hi' : (if p x.1 then (k : Int) else idxF p ((R.drop (k + 1)).map (·.1)) (k + 1)) = Q := by rw [← hi.out, List.drop_eq_getElem_cons hkl, hxe]; rfl
      obtain ⟨q, hq⟩ : ∃ q, q = p x.1 := ⟨_, rfl⟩
      rw [← hq] at hcall hi'
      unfold vM at hcall
      have HC := Lib.hid hcall
      have HI := Lib.hid hi'
      clear hmr hcell hcall hi' hq hx hxe hi
      cases q
      · go_wp2_with fail
        refine HC.out.mono ?_
        rintro e w1 ⟨rfl, hb1⟩
        go_wp2_with fail
        go_roundw
        case rel => exact ⟨k + 1, by omega, by go_num, HI, hb.trans (hb1.mono hb.size)⟩
        case measure => simp [intOf]; omega
      · go_wp2_with fail
        refine HC.out.mono ?_
        rintro e w1 ⟨rfl, hb1⟩
        go_wp2_with fail
        go_ret
        exact ⟨ret_int HI.out, hb.trans (hb1.mono hb.size)⟩
    · obtain rfl : k = n := by omega
      have he : (-1 : Int) = Q := by rw [← hi.out, List.drop_of_length_le (by have := HN.out; omega)]; rfl
      have HE := Lib.hid he
      clear he
      go_wp2_with fail
      go_ret
      exact ⟨ret_int HE.out, hb⟩

theorem containsO_any (v : Value) (R : List Ro) (g : FuncId) (cb : Array Value) (p : Mu → Bool) (w : World) (hv : MRow w v R) (hf : ∀ x ∈ R, x.1.over.length ≤ 1000000) (hn : R.length ≤ 1000000) (hp : AsksO w g cb p)
    (he : ∀ args w, (callFunc g args).run Tryz.prog w = .ok (.enter g args) w) :
    Calls Tryz.prog 88 #[v, .func (.func g) #[] cb] w fun e w' => e = .returned (.bool ((R.map (·.1)).any p)) ∧ RowKit.Below w.heap.size w w' := by
  have h := indexO_any v R g cb p w hv hf hn hp he
  rw [← idxF_any]
  obtain ⟨Q, hQ⟩ : ∃ Q, Q = idxF p (R.map (·.1)) 0 := ⟨_, rfl⟩
  rw [← hQ] at h ⊢
  obtain ⟨ao, cap, rfl, -, -⟩ := hv.form
  generalize R.length = n at *
  have H := Lib.hid h
  clear h hv hf hn hp he hQ
  go_enter Tryz.func88, Tryz.ntmps88
  go_wp2_with fail
  refine H.out.mono ?_
  rintro e w1 ⟨rfl, hb1⟩
  go_wp2_with fail
  go_ret
  exact ⟨rfl, hb1⟩

end Go.Proofs.YthdbilggnjjkhaaGreatDoor.Mut
