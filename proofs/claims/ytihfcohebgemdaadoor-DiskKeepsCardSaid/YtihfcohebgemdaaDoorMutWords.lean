/- MutWord, MutPart, MutDec: in one text. -/
import Derived.Test.YtihfcohebgemdaaDoorMutRows
import Derived.Test.YtihfcohebgemdaaDoorTexts
import Derived.Shelf.Unicode.DecodeAny
import Derived.Laws.Cover4
import Derived.Ground.Names2Prog
set_option linter.unusedSimpArgs false
set_option linter.unusedVariables false
/- The walks of stamp.Right, and of keys and values as texts: part, bad, Key, Val (layers 1, 4). -/
namespace Go.Proofs.YtihfcohebgemdaaDoor.Mut
open Go.RowKit Go.Sort Go.Proofs.YtihfcohebgemdaaDoor.Ord
set_option linter.unusedSectionVars false
variable [Inhabited Lim]

/-! Stamps that may be. -/
def stR (s : Stp) : Bool := decide (0 ≤ s.p) && decide (0 ≤ s.l) && decide (0 ≤ s.w) && decide (s.p ≤ 1099511627776) && decide (s.l ≤ 1099511627776) && decide (s.w ≤ 1099511627776) && !(decide (s.p = 0) && decide (s.l = 0) && decide (s.w = 0))
def eqS (x y : Stp) : Bool := (x.p == y.p) && ((x.l == y.l) && (x.w == y.w))
end Go.Proofs.YtihfcohebgemdaaDoor.Mut

/- The walk of runes.part (layer 1). PRINTED by wip/genmutpart.py. -/
namespace Go.Proofs.YtihfcohebgemdaaDoor.Mut
open Go.RowKit Go.Sort Go.Proofs.YtihfcohebgemdaaDoor.Ord
set_option linter.unusedSectionVars false
variable [Inhabited Lim]

/-- May a rune be part of a key? -/
def partF (r : Int) (first : Bool) : Bool := (decide (97 ≤ r) && decide (r ≤ 122)) || ((decide (65 ≤ r) && decide (r ≤ 90)) || (decide (128 ≤ r) || (!first && ((decide (48 ≤ r) && decide (r ≤ 57)) || (r == 45 || r == 95)))))
set_option maxHeartbeats 8000000 in
set_option maxRecDepth 100000 in
theorem part_any (r : Int) (first : Bool) (w : World) : Calls Tryd.prog 21 #[.int .i32 r, .bool first] w fun e w' => e = .returned (.bool (partF r first)) ∧ w = w' := by
  unfold partF
  have hc : r ≤ 44 ∨ r = 45 ∨ (46 ≤ r ∧ r ≤ 47) ∨ (48 ≤ r ∧ r ≤ 57) ∨ (58 ≤ r ∧ r ≤ 64) ∨ (65 ≤ r ∧ r ≤ 90) ∨ (91 ≤ r ∧ r ≤ 94) ∨ r = 95 ∨ r = 96 ∨ (97 ≤ r ∧ r ≤ 122) ∨ (123 ≤ r ∧ r ≤ 127) ∨ 128 ≤ r := by omega
  rcases hc with hc | hc | hc | hc | hc | hc | hc | hc | hc | hc | hc | hc
  · have e0 : decide (97 ≤ r) = false := decide_eq_false (by omega)
    have e1 : decide (r ≤ 122) = true := decide_eq_true (by omega)
    have e2 : decide (65 ≤ r) = false := decide_eq_false (by omega)
    have e3 : decide (r ≤ 90) = true := decide_eq_true (by omega)
    have e4 : decide (128 ≤ r) = false := decide_eq_false (by omega)
    have e5 : decide (48 ≤ r) = false := decide_eq_false (by omega)
    have e6 : decide (r ≤ 57) = true := decide_eq_true (by omega)
    have q45 : (r == 45) = false := by simp; omega
    have q95 : (r == 95) = false := by simp; omega
    clear hc
    simp only [e0, e1, e2, e3, e4, e5, e6, q45, q95]
    cases first
    all_goals
      go_enter Tryd.func21, Tryd.ntmps21
      go_wp2_with fail
      go_ret
      exact ⟨rfl, rfl⟩
  · subst hc
    skip
    cases first
    all_goals
      go_enter Tryd.func21, Tryd.ntmps21
      go_wp2_with fail
      go_ret
      exact ⟨rfl, rfl⟩
  · have e0 : decide (97 ≤ r) = false := decide_eq_false (by omega)
    have e1 : decide (r ≤ 122) = true := decide_eq_true (by omega)
    have e2 : decide (65 ≤ r) = false := decide_eq_false (by omega)
    have e3 : decide (r ≤ 90) = true := decide_eq_true (by omega)
    have e4 : decide (128 ≤ r) = false := decide_eq_false (by omega)
    have e5 : decide (48 ≤ r) = false := decide_eq_false (by omega)
    have e6 : decide (r ≤ 57) = true := decide_eq_true (by omega)
    have q45 : (r == 45) = false := by simp; omega
    have q95 : (r == 95) = false := by simp; omega
    clear hc
    simp only [e0, e1, e2, e3, e4, e5, e6, q45, q95]
    cases first
    all_goals
      go_enter Tryd.func21, Tryd.ntmps21
      go_wp2_with fail
      go_ret
      exact ⟨rfl, rfl⟩
  · have e0 : decide (97 ≤ r) = false := decide_eq_false (by omega)
    have e1 : decide (r ≤ 122) = true := decide_eq_true (by omega)
    have e2 : decide (65 ≤ r) = false := decide_eq_false (by omega)
    have e3 : decide (r ≤ 90) = true := decide_eq_true (by omega)
    have e4 : decide (128 ≤ r) = false := decide_eq_false (by omega)
    have e5 : decide (48 ≤ r) = true := decide_eq_true (by omega)
    have e6 : decide (r ≤ 57) = true := decide_eq_true (by omega)
    have q45 : (r == 45) = false := by simp; omega
    have q95 : (r == 95) = false := by simp; omega
    clear hc
    simp only [e0, e1, e2, e3, e4, e5, e6, q45, q95]
    cases first
    all_goals
      go_enter Tryd.func21, Tryd.ntmps21
      go_wp2_with fail
      go_ret
      exact ⟨rfl, rfl⟩
  · have e0 : decide (97 ≤ r) = false := decide_eq_false (by omega)
    have e1 : decide (r ≤ 122) = true := decide_eq_true (by omega)
    have e2 : decide (65 ≤ r) = false := decide_eq_false (by omega)
    have e3 : decide (r ≤ 90) = true := decide_eq_true (by omega)
    have e4 : decide (128 ≤ r) = false := decide_eq_false (by omega)
    have e5 : decide (48 ≤ r) = true := decide_eq_true (by omega)
    have e6 : decide (r ≤ 57) = false := decide_eq_false (by omega)
    have q45 : (r == 45) = false := by simp; omega
    have q95 : (r == 95) = false := by simp; omega
    clear hc
    simp only [e0, e1, e2, e3, e4, e5, e6, q45, q95]
    cases first
    all_goals
      go_enter Tryd.func21, Tryd.ntmps21
      go_wp2_with fail
      go_ret
      exact ⟨rfl, rfl⟩
  · have e0 : decide (97 ≤ r) = false := decide_eq_false (by omega)
    have e1 : decide (r ≤ 122) = true := decide_eq_true (by omega)
    have e2 : decide (65 ≤ r) = true := decide_eq_true (by omega)
    have e3 : decide (r ≤ 90) = true := decide_eq_true (by omega)
    have e4 : decide (128 ≤ r) = false := decide_eq_false (by omega)
    have e5 : decide (48 ≤ r) = true := decide_eq_true (by omega)
    have e6 : decide (r ≤ 57) = false := decide_eq_false (by omega)
    have q45 : (r == 45) = false := by simp; omega
    have q95 : (r == 95) = false := by simp; omega
    clear hc
    simp only [e0, e1, e2, e3, e4, e5, e6, q45, q95]
    cases first
    all_goals
      go_enter Tryd.func21, Tryd.ntmps21
      go_wp2_with fail
      go_ret
      exact ⟨rfl, rfl⟩
  · have e0 : decide (97 ≤ r) = false := decide_eq_false (by omega)
    have e1 : decide (r ≤ 122) = true := decide_eq_true (by omega)
    have e2 : decide (65 ≤ r) = true := decide_eq_true (by omega)
    have e3 : decide (r ≤ 90) = false := decide_eq_false (by omega)
    have e4 : decide (128 ≤ r) = false := decide_eq_false (by omega)
    have e5 : decide (48 ≤ r) = true := decide_eq_true (by omega)
    have e6 : decide (r ≤ 57) = false := decide_eq_false (by omega)
    have q45 : (r == 45) = false := by simp; omega
    have q95 : (r == 95) = false := by simp; omega
    clear hc
    simp only [e0, e1, e2, e3, e4, e5, e6, q45, q95]
    cases first
    all_goals
      go_enter Tryd.func21, Tryd.ntmps21
      go_wp2_with fail
      go_ret
      exact ⟨rfl, rfl⟩
  · subst hc
    skip
    cases first
    all_goals
      go_enter Tryd.func21, Tryd.ntmps21
      go_wp2_with fail
      go_ret
      exact ⟨rfl, rfl⟩
  · subst hc
    skip
    cases first
    all_goals
      go_enter Tryd.func21, Tryd.ntmps21
      go_wp2_with fail
      go_ret
      exact ⟨rfl, rfl⟩
  · have e0 : decide (97 ≤ r) = true := decide_eq_true (by omega)
    have e1 : decide (r ≤ 122) = true := decide_eq_true (by omega)
    have e2 : decide (65 ≤ r) = true := decide_eq_true (by omega)
    have e3 : decide (r ≤ 90) = false := decide_eq_false (by omega)
    have e4 : decide (128 ≤ r) = false := decide_eq_false (by omega)
    have e5 : decide (48 ≤ r) = true := decide_eq_true (by omega)
    have e6 : decide (r ≤ 57) = false := decide_eq_false (by omega)
    have q45 : (r == 45) = false := by simp; omega
    have q95 : (r == 95) = false := by simp; omega
    clear hc
    simp only [e0, e1, e2, e3, e4, e5, e6, q45, q95]
    cases first
    all_goals
      go_enter Tryd.func21, Tryd.ntmps21
      go_wp2_with fail
      go_ret
      exact ⟨rfl, rfl⟩
  · have e0 : decide (97 ≤ r) = true := decide_eq_true (by omega)
    have e1 : decide (r ≤ 122) = false := decide_eq_false (by omega)
    have e2 : decide (65 ≤ r) = true := decide_eq_true (by omega)
    have e3 : decide (r ≤ 90) = false := decide_eq_false (by omega)
    have e4 : decide (128 ≤ r) = false := decide_eq_false (by omega)
    have e5 : decide (48 ≤ r) = true := decide_eq_true (by omega)
    have e6 : decide (r ≤ 57) = false := decide_eq_false (by omega)
    have q45 : (r == 45) = false := by simp; omega
    have q95 : (r == 95) = false := by simp; omega
    clear hc
    simp only [e0, e1, e2, e3, e4, e5, e6, q45, q95]
    cases first
    all_goals
      go_enter Tryd.func21, Tryd.ntmps21
      go_wp2_with fail
      go_ret
      exact ⟨rfl, rfl⟩
  · have e0 : decide (97 ≤ r) = true := decide_eq_true (by omega)
    have e1 : decide (r ≤ 122) = false := decide_eq_false (by omega)
    have e2 : decide (65 ≤ r) = true := decide_eq_true (by omega)
    have e3 : decide (r ≤ 90) = false := decide_eq_false (by omega)
    have e4 : decide (128 ≤ r) = true := decide_eq_true (by omega)
    have e5 : decide (48 ≤ r) = true := decide_eq_true (by omega)
    have e6 : decide (r ≤ 57) = false := decide_eq_false (by omega)
    have q45 : (r == 45) = false := by simp; omega
    have q95 : (r == 95) = false := by simp; omega
    clear hc
    simp only [e0, e1, e2, e3, e4, e5, e6, q45, q95]
    cases first
    all_goals
      go_enter Tryd.func21, Tryd.ntmps21
      go_wp2_with fail
      go_ret
      exact ⟨rfl, rfl⟩
end Go.Proofs.YtihfcohebgemdaaDoor.Mut

/- utf8.DecodeRuneInString at every string, by the library's contract (its laying: lay-plain.mjs's print, turned). -/
namespace Go.Proofs.YtihfcohebgemdaaDoor.Mut
open Go.RowKit Go.Shelf
set_option linter.unusedSectionVars false
variable [Inhabited Lim]

def layDec_ren : Go.Shelf.Ren := ⟨fun | 197 => 26 | 260 => 29 | n => n, fun | 9 => 9 | 21 => 21 | 3 => 3 | 4 => 4 | 5 => 5 | 105 => 58 | 119 => 64 | 0 => 0 | 46 => 63 | 139 => 67 | 138 => 66 | n => n, fun | 3 => 0 | 4 => 1 | n => n⟩
theorem layDec : Go.Proofs.Lays.n197 Tryd.prog layDec_ren := {
  mixed := by kernel_rfl
  f197 := Tryd.func26.trans (congrArg some (by kernel_rfl))
  f260 := Tryd.func29.trans (congrArg some (by kernel_rfl))
  t0 := Tryd.underlying0
  a0 := Tryd.isAgg0
  z0 := Tryd.sizeOf0
  v0 := Tryd.zeroValue0
  t3 := Tryd.underlying3
  a3 := Tryd.isAgg3
  z3 := Tryd.sizeOf3
  v3 := Tryd.zeroValue3
  t4 := Tryd.underlying4
  a4 := Tryd.isAgg4
  z4 := Tryd.sizeOf4
  v4 := Tryd.zeroValue4
  t5 := Tryd.underlying5
  a5 := Tryd.isAgg5
  z5 := Tryd.sizeOf5
  v5 := Tryd.zeroValue5
  t9 := Tryd.underlying9
  a9 := Tryd.isAgg9
  z9 := Tryd.sizeOf9
  v9 := Tryd.zeroValue9
  t21 := Tryd.underlying21
  a21 := Tryd.isAgg21
  z21 := Tryd.sizeOf21
  v21 := Tryd.zeroValue21
  t46 := Tryd.underlying63
  a46 := Tryd.isAgg63
  z46 := Tryd.sizeOf63
  v46 := Tryd.zeroValue63
  t105 := Tryd.underlying58
  a105 := Tryd.isAgg58
  z105 := Tryd.sizeOf58
  v105 := Tryd.zeroValue58
  t119 := Tryd.underlying64
  a119 := Tryd.isAgg64
  z119 := Tryd.sizeOf64
  t138 := Tryd.underlying66
  a138 := Tryd.isAgg66
  z138 := Tryd.sizeOf66
  v138 := Tryd.zeroValue66
  t139 := Tryd.underlying67
  a139 := Tryd.isAgg67
  z139 := Tryd.sizeOf67
  v139 := Tryd.zeroValue67
  g3 := by kernel_rfl
  g4 := by kernel_rfl }

/-- The tables of the decoder lie where the program has laid them. -/
def Tabs (w : World) : Prop := Lib.Utf8Tabs 0 1 w
theorem Tabs.below {w w' : World} (h : Tabs w) (hb : RowKit.Below w.heap.size w w') : Tabs w' := Utf8Tabs_below h hb
theorem decode_any (s : ByteArray) (w : World) (hT : Tabs w) : Calls Tryd.prog 26 #[.string s] w fun e w' => e = .returned (.tuple #[.int .i32 (Lib.decodeGo s).1, .int .i64 (Lib.decodeGo s).2]) ∧ RowKit.Below w.heap.size w w' :=
  Any.utf8_DecodeRuneInString layDec s w hT
end Go.Proofs.YtihfcohebgemdaaDoor.Mut
