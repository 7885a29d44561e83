/- MutWord, MutPart, MutDec: in one text. -/
import Derived.Test.YtmjelcjdfamikaaGreatDoorMutRows
import Derived.Test.YtmjelcjdfamikaaGreatDoorTexts
import Derived.Shelf.Unicode.DecodeAny
import Derived.Laws.Cover4
import Derived.Ground.Names2Prog
set_option linter.unusedSimpArgs false
set_option linter.unusedVariables false
/- The walks of stamp.Right, and of keys and values as texts: part, bad, Key, Val (layers 1, 4). -/
namespace Go.Proofs.YtmjelcjdfamikaaGreatDoor.Mut
open Go.RowKit Go.Sort Go.Proofs.YtmjelcjdfamikaaGreatDoor.Ord
set_option linter.unusedSectionVars false
variable [Inhabited Lim]

/-! Stamps that may be. -/
def stR (s : Stp) : Bool := decide (0 ≤ s.p) && decide (0 ≤ s.l) && decide (0 ≤ s.w) && decide (s.p ≤ 1099511627776) && decide (s.l ≤ 1099511627776) && decide (s.w ≤ 1099511627776) && !(decide (s.p = 0) && decide (s.l = 0) && decide (s.w = 0))
def eqS (x y : Stp) : Bool := (x.p == y.p) && ((x.l == y.l) && (x.w == y.w))
theorem held_S : Tryz.prog.stoodInHeld 37 = false := by kernel_rfl
theorem guard_S : Tryz.prog.eqGuardType Tryz.prog.depth 37 = false := by kernel_rfl
theorem fields_S : Tryz.prog.underlying 37 = some (.struct (Tryz.prog.fieldsOf 37)) := by unfold Program.fieldsOf; rw [Tryz.underlying37]
theorem eqS_run (x y : Stp) (w : World) : (Op.equalIn 10000 37 (vS x) (vS y)).run Tryz.prog w = .ok (eqS x y) w := by
  unfold vS
  rw [run_equalIn_agg w 9999 _ _ _ fields_S held_S]
  unfold Program.fieldsOf
  rw [Tryz.underlying37]
  unfold eqS
  go_simp
  by_cases h2 : x.p = y.p <;> by_cases h3 : x.l = y.l <;> by_cases h4 : x.w = y.w <;> simp [h2, h3, h4]
theorem neqS_run (x y : Stp) (w : World) : (binOp .neq 37 (vS x) (vS y)).run Tryz.prog w = .ok (.bool (!eqS x y)) w := by
  unfold vS
  rw [run_neq_struct]
  have := eqS_run x y w
  unfold vS at this
  rw [this]; rfl
theorem guardS_run (op : BinOp) (a b : Operand) (xs ys : Array Value) (w : World) : (eqGuard op 37 a b (.agg xs) (.agg ys)).run Tryz.prog w = .ok () w := run_eqGuard_agg w op _ a b xs ys guard_S

set_option maxHeartbeats 2000000 in
set_option maxRecDepth 100000 in
theorem stright_any (s : Stp) (w : World) : Calls Tryz.prog 52 #[vS s] w fun e w' => e = .returned (.bool (stR s)) ∧ Lays w w' := by
  obtain ⟨p, l, h⟩ := s
  have hn := neqS_run ⟨p, l, h⟩ ⟨0, 0, 0⟩
  have hg := guardS_run .neq
  unfold vS at hn ⊢
  simp only [] at hn ⊢
  obtain ⟨q, hq⟩ : ∃ q, q = eqS ⟨p, l, h⟩ ⟨0, 0, 0⟩ := ⟨_, rfl⟩
  rw [← hq] at hn
  have hq2 : q = (decide (p = 0) && decide (l = 0) && decide (h = 0)) := by
    rw [hq]; unfold eqS
    by_cases h2 : p = 0 <;> by_cases h3 : l = 0 <;> by_cases h4 : h = 0 <;> simp [h2, h3, h4]
  have HQ := Lib.hid hq2
  clear hq hq2
  have hfin : stR ⟨p, l, h⟩ = (decide (0 ≤ p) && (decide (0 ≤ l) && (decide (0 ≤ h) && (decide (p ≤ 1099511627776) && (decide (l ≤ 1099511627776) && (decide (h ≤ 1099511627776) && !q)))))) := by
    rw [HQ.out]; unfold stR; simp only [Bool.and_assoc]
  rw [hfin]
  clear hfin
  by_cases h1 : 0 ≤ p
  · by_cases h2 : 0 ≤ l
    · by_cases h3 : 0 ≤ h
      · by_cases h4 : p ≤ 1099511627776
        · by_cases h5 : l ≤ 1099511627776
          · by_cases h6 : h ≤ 1099511627776
            all_goals
              simp only [h1, h2, h3, h4, h5, h6, decide_true, decide_false, Bool.true_and, Bool.false_and]
              go_enter Tryz.func52, Tryz.ntmps52
              go_wp2_with fail
              go_ret
              exact ⟨rfl, (Lays.refl _).alloc _⟩
          · simp only [h1, h2, h3, h4, h5, decide_true, decide_false, Bool.true_and, Bool.false_and]
            go_enter Tryz.func52, Tryz.ntmps52
            go_wp2_with fail
            go_ret
            exact ⟨rfl, (Lays.refl _).alloc _⟩
        · simp only [h1, h2, h3, h4, decide_true, decide_false, Bool.true_and, Bool.false_and]
          go_enter Tryz.func52, Tryz.ntmps52
          go_wp2_with fail
          go_ret
          exact ⟨rfl, (Lays.refl _).alloc _⟩
      · simp only [h1, h2, h3, decide_true, decide_false, Bool.true_and, Bool.false_and]
        go_enter Tryz.func52, Tryz.ntmps52
        go_wp2_with fail
        go_ret
        exact ⟨rfl, (Lays.refl _).alloc _⟩
    · simp only [h1, h2, decide_true, decide_false, Bool.true_and, Bool.false_and]
      go_enter Tryz.func52, Tryz.ntmps52
      go_wp2_with fail
      go_ret
      exact ⟨rfl, (Lays.refl _).alloc _⟩
  · simp only [h1, decide_true, decide_false, Bool.true_and, Bool.false_and]
    go_enter Tryz.func52, Tryz.ntmps52
    go_wp2_with fail
    go_ret
    exact ⟨rfl, (Lays.refl _).alloc _⟩
end Go.Proofs.YtmjelcjdfamikaaGreatDoor.Mut

/- The walk of runes.part (layer 1). PRINTED by wip/genmutpart.py. -/
namespace Go.Proofs.YtmjelcjdfamikaaGreatDoor.Mut
open Go.RowKit Go.Sort Go.Proofs.YtmjelcjdfamikaaGreatDoor.Ord
set_option linter.unusedSectionVars false
variable [Inhabited Lim]

/-- May a rune be part of a key? -/
def partF (r : Int) (first : Bool) : Bool := (decide (97 ≤ r) && decide (r ≤ 122)) || ((decide (65 ≤ r) && decide (r ≤ 90)) || (decide (128 ≤ r) || (!first && ((decide (48 ≤ r) && decide (r ≤ 57)) || (r == 45 || r == 95)))))
set_option maxHeartbeats 8000000 in
set_option maxRecDepth 100000 in
theorem part_any (r : Int) (first : Bool) (w : World) : Calls Tryz.prog 97 #[.int .i32 r, .bool first] w fun e w' => e = .returned (.bool (partF r first)) ∧ w = w' := by
  unfold partF
  have hc : r ≤ 44 ∨ r = 45 ∨ (46 ≤ r ∧ r ≤ 47) ∨ (48 ≤ r ∧ r ≤ 57) ∨ (58 ≤ r ∧ r ≤ 64) ∨ (65 ≤ r ∧ r ≤ 90) ∨ (91 ≤ r ∧ r ≤ 94) ∨ r = 95 ∨ r = 96 ∨ (97 ≤ r ∧ r ≤ 122) ∨ (123 ≤ r ∧ r ≤ 127) ∨ 128 ≤ r := by omega
  rcases hc with hc | hc | hc | hc | hc | hc | hc | hc | hc | hc | hc | hc
  · have e0 : decide (97 ≤ r) = false := decide_eq_false (by omega)
    have e1 : decide (r ≤ 122) = true := decide_eq_true (by omega)
    have e2 : decide (65 ≤ r) = false := decide_eq_false (by omega)
    have e3 : decide (r ≤ 90) = true := decide_eq_true (by omega)
    have e4 : decide (128 ≤ r) = false := decide_eq_false (by omega)
    have e5 : decide (48 ≤ r) = false := decide_eq_false (by omega)
    have e6 : decide (r ≤ 57) = true := decide_eq_true (by omega)
    have q45 : (r == 45) = false := by simp; omega
    have q95 : (r == 95) = false := by simp; omega
    clear hc
    simp only [e0, e1, e2, e3, e4, e5, e6, q45, q95]
    cases first
    all_goals
      go_enter Tryz.func97, Tryz.ntmps97
      go_wp2_with fail
      go_ret
      exact ⟨rfl, rfl⟩
  · subst hc
    skip
    cases first
    all_goals
      go_enter Tryz.func97, Tryz.ntmps97
      go_wp2_with fail
      go_ret
      exact ⟨rfl, rfl⟩
  · have e0 : decide (97 ≤ r) = false := decide_eq_false (by omega)
    have e1 : decide (r ≤ 122) = true := decide_eq_true (by omega)
    have e2 : decide (65 ≤ r) = false := decide_eq_false (by omega)
    have e3 : decide (r ≤ 90) = true := decide_eq_true (by omega)
    have e4 : decide (128 ≤ r) = false := decide_eq_false (by omega)
    have e5 : decide (48 ≤ r) = false := decide_eq_false (by omega)
    have e6 : decide (r ≤ 57) = true := decide_eq_true (by omega)
    have q45 : (r == 45) = false := by simp; omega
    have q95 : (r == 95) = false := by simp; omega
    clear hc
    simp only [e0, e1, e2, e3, e4, e5, e6, q45, q95]
    cases first
    all_goals
      go_enter Tryz.func97, Tryz.ntmps97
      go_wp2_with fail
      go_ret
      exact ⟨rfl, rfl⟩
  · have e0 : decide (97 ≤ r) = false := decide_eq_false (by omega)
    have e1 : decide (r ≤ 122) = true := decide_eq_true (by omega)
    have e2 : decide (65 ≤ r) = false := decide_eq_false (by omega)
    have e3 : decide (r ≤ 90) = true := decide_eq_true (by omega)
    have e4 : decide (128 ≤ r) = false := decide_eq_false (by omega)
    have e5 : decide (48 ≤ r) = true := decide_eq_true (by omega)
    have e6 : decide (r ≤ 57) = true := decide_eq_true (by omega)
    have q45 : (r == 45) = false := by simp; omega
    have q95 : (r == 95) = false := by simp; omega
    clear hc
    simp only [e0, e1, e2, e3, e4, e5, e6, q45, q95]
    cases first
    all_goals
      go_enter Tryz.func97, Tryz.ntmps97
      go_wp2_with fail
      go_ret
      exact ⟨rfl, rfl⟩
  · have e0 : decide (97 ≤ r) = false := decide_eq_false (by omega)
    have e1 : decide (r ≤ 122) = true := decide_eq_true (by omega)
    have e2 : decide (65 ≤ r) = false := decide_eq_false (by omega)
    have e3 : decide (r ≤ 90) = true := decide_eq_true (by omega)
    have e4 : decide (128 ≤ r) = false := decide_eq_false (by omega)
    have e5 : decide (48 ≤ r) = true := decide_eq_true (by omega)
    have e6 : decide (r ≤ 57) = false := decide_eq_false (by omega)
    have q45 : (r == 45) = false := by simp; omega
    have q95 : (r == 95) = false := by simp; omega
    clear hc
    simp only [e0, e1, e2, e3, e4, e5, e6, q45, q95]
    cases first
    all_goals
      go_enter Tryz.func97, Tryz.ntmps97
      go_wp2_with fail
      go_ret
      exact ⟨rfl, rfl⟩
  · have e0 : decide (97 ≤ r) = false := decide_eq_false (by omega)
    have e1 : decide (r ≤ 122) = true := decide_eq_true (by omega)
    have e2 : decide (65 ≤ r) = true := decide_eq_true (by omega)
    have e3 : decide (r ≤ 90) = true := decide_eq_true (by omega)
    have e4 : decide (128 ≤ r) = false := decide_eq_false (by omega)
    have e5 : decide (48 ≤ r) = true := decide_eq_true (by omega)
    have e6 : decide (r ≤ 57) = false := decide_eq_false (by omega)
    have q45 : (r == 45) = false := by simp; omega
    have q95 : (r == 95) = false := by simp; omega
    clear hc
    simp only [e0, e1, e2, e3, e4, e5, e6, q45, q95]
    cases first
    all_goals
      go_enter Tryz.func97, Tryz.ntmps97
      go_wp2_with fail
      go_ret
      exact ⟨rfl, rfl⟩
  · have e0 : decide (97 ≤ r) = false := decide_eq_false (by omega)
    have e1 : decide (r ≤ 122) = true := decide_eq_true (by omega)
    have e2 : decide (65 ≤ r) = true := decide_eq_true (by omega)
    have e3 : decide (r ≤ 90) = false := decide_eq_false (by omega)
    have e4 : decide (128 ≤ r) = false := decide_eq_false (by omega)
    have e5 : decide (48 ≤ r) = true := decide_eq_true (by omega)
    have e6 : decide (r ≤ 57) = false := decide_eq_false (by omega)
    have q45 : (r == 45) = false := by simp; omega
    have q95 : (r == 95) = false := by simp; omega
    clear hc
    simp only [e0, e1, e2, e3, e4, e5, e6, q45, q95]
    cases first
    all_goals
      go_enter Tryz.func97, Tryz.ntmps97
      go_wp2_with fail
      go_ret
      exact ⟨rfl, rfl⟩
  · subst hc
    skip
    cases first
    all_goals
      go_enter Tryz.func97, Tryz.ntmps97
      go_wp2_with fail
      go_ret
      exact ⟨rfl, rfl⟩
  · subst hc
    skip
    cases first
    all_goals
      go_enter Tryz.func97, Tryz.ntmps97
      go_wp2_with fail
      go_ret
      exact ⟨rfl, rfl⟩
  · have e0 : decide (97 ≤ r) = true := decide_eq_true (by omega)
    have e1 : decide (r ≤ 122) = true := decide_eq_true (by omega)
    have e2 : decide (65 ≤ r) = true := decide_eq_true (by omega)
    have e3 : decide (r ≤ 90) = false := decide_eq_false (by omega)
    have e4 : decide (128 ≤ r) = false := decide_eq_false (by omega)
    have e5 : decide (48 ≤ r) = true := decide_eq_true (by omega)
    have e6 : decide (r ≤ 57) = false := decide_eq_false (by omega)
    have q45 : (r == 45) = false := by simp; omega
    have q95 : (r == 95) = false := by simp; omega
    clear hc
    simp only [e0, e1, e2, e3, e4, e5, e6, q45, q95]
    cases first
    all_goals
      go_enter Tryz.func97, Tryz.ntmps97
      go_wp2_with fail
      go_ret
      exact ⟨rfl, rfl⟩
  · have e0 : decide (97 ≤ r) = true := decide_eq_true (by omega)
    have e1 : decide (r ≤ 122) = false := decide_eq_false (by omega)
    have e2 : decide (65 ≤ r) = true := decide_eq_true (by omega)
    have e3 : decide (r ≤ 90) = false := decide_eq_false (by omega)
    have e4 : decide (128 ≤ r) = false := decide_eq_false (by omega)
    have e5 : decide (48 ≤ r) = true := decide_eq_true (by omega)
    have e6 : decide (r ≤ 57) = false := decide_eq_false (by omega)
    have q45 : (r == 45) = false := by simp; omega
    have q95 : (r == 95) = false := by simp; omega
    clear hc
    simp only [e0, e1, e2, e3, e4, e5, e6, q45, q95]
    cases first
    all_goals
      go_enter Tryz.func97, Tryz.ntmps97
      go_wp2_with fail
      go_ret
      exact ⟨rfl, rfl⟩
  · have e0 : decide (97 ≤ r) = true := decide_eq_true (by omega)
    have e1 : decide (r ≤ 122) = false := decide_eq_false (by omega)
    have e2 : decide (65 ≤ r) = true := decide_eq_true (by omega)
    have e3 : decide (r ≤ 90) = false := decide_eq_false (by omega)
    have e4 : decide (128 ≤ r) = true := decide_eq_true (by omega)
    have e5 : decide (48 ≤ r) = true := decide_eq_true (by omega)
    have e6 : decide (r ≤ 57) = false := decide_eq_false (by omega)
    have q45 : (r == 45) = false := by simp; omega
    have q95 : (r == 95) = false := by simp; omega
    clear hc
    simp only [e0, e1, e2, e3, e4, e5, e6, q45, q95]
    cases first
    all_goals
      go_enter Tryz.func97, Tryz.ntmps97
      go_wp2_with fail
      go_ret
      exact ⟨rfl, rfl⟩
end Go.Proofs.YtmjelcjdfamikaaGreatDoor.Mut

/- utf8.DecodeRuneInString at every string, by the library's contract (its laying: lay-plain.mjs's print, turned). -/
namespace Go.Proofs.YtmjelcjdfamikaaGreatDoor.Mut
open Go.RowKit Go.Shelf
set_option linter.unusedSectionVars false
variable [Inhabited Lim]

def layDec_ren : Go.Shelf.Ren := ⟨fun | 197 => 141 | 260 => 188 | n => n, fun | 9 => 9 | 21 => 21 | 3 => 3 | 4 => 4 | 5 => 5 | 105 => 159 | 119 => 230 | 0 => 0 | 46 => 119 | 139 => 233 | 138 => 232 | n => n, fun | 3 => 0 | 4 => 1 | n => n⟩
theorem layDec : Go.Proofs.Lays.n197 Tryz.prog layDec_ren := {
  mixed := by kernel_rfl
  f197 := Tryz.func141.trans (congrArg some (by kernel_rfl))
  f260 := Tryz.func188.trans (congrArg some (by kernel_rfl))
  t0 := Tryz.underlying0
  a0 := Tryz.isAgg0
  z0 := Tryz.sizeOf0
  v0 := Tryz.zeroValue0
  t3 := Tryz.underlying3
  a3 := Tryz.isAgg3
  z3 := Tryz.sizeOf3
  v3 := Tryz.zeroValue3
  t4 := Tryz.underlying4
  a4 := Tryz.isAgg4
  z4 := Tryz.sizeOf4
  v4 := Tryz.zeroValue4
  t5 := Tryz.underlying5
  a5 := Tryz.isAgg5
  z5 := Tryz.sizeOf5
  v5 := Tryz.zeroValue5
  t9 := Tryz.underlying9
  a9 := Tryz.isAgg9
  z9 := Tryz.sizeOf9
  v9 := Tryz.zeroValue9
  t21 := Tryz.underlying21
  a21 := Tryz.isAgg21
  z21 := Tryz.sizeOf21
  v21 := Tryz.zeroValue21
  t46 := Tryz.underlying119
  a46 := Tryz.isAgg119
  z46 := Tryz.sizeOf119
  v46 := Tryz.zeroValue119
  t105 := Tryz.underlying159
  a105 := Tryz.isAgg159
  z105 := Tryz.sizeOf159
  v105 := Tryz.zeroValue159
  t119 := Tryz.underlying230
  a119 := Tryz.isAgg230
  z119 := Tryz.sizeOf230
  t138 := Tryz.underlying232
  a138 := Tryz.isAgg232
  z138 := Tryz.sizeOf232
  v138 := Tryz.zeroValue232
  t139 := Tryz.underlying233
  a139 := Tryz.isAgg233
  z139 := Tryz.sizeOf233
  v139 := Tryz.zeroValue233
  g3 := by kernel_rfl
  g4 := by kernel_rfl }

/-- The tables of the decoder lie where the program has laid them. -/
def Tabs (w : World) : Prop := Lib.Utf8Tabs 0 1 w
theorem Tabs.below {w w' : World} (h : Tabs w) (hb : RowKit.Below w.heap.size w w') : Tabs w' := Utf8Tabs_below h hb
theorem decode_any (s : ByteArray) (w : World) (hT : Tabs w) : Calls Tryz.prog 141 #[.string s] w fun e w' => e = .returned (.tuple #[.int .i32 (Lib.decodeGo s).1, .int .i64 (Lib.decodeGo s).2]) ∧ RowKit.Below w.heap.size w w' :=
  Any.utf8_DecodeRuneInString layDec s w hT
end Go.Proofs.YtmjelcjdfamikaaGreatDoor.Mut
