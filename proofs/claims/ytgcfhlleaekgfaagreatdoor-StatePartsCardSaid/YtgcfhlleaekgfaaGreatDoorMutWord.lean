/- The walks of stamp.Right, and of keys and values as texts: part, bad, Key, Val (layers 1, 4). -/
import Derived.Test.YtgcfhlleaekgfaaGreatDoorMutSmall
import Derived.Test.YtgcfhlleaekgfaaGreatDoorTexts
import Derived.Shelf.Unicode.DecodeAny
import Derived.Laws.Cover4
namespace Go.Proofs.YtgcfhlleaekgfaaGreatDoor.Mut
open Go.RowKit Go.Sort Go.Proofs.YtgcfhlleaekgfaaGreatDoor.Ord

/-! Stamps that may be. -/
def stR (s : Stp) : Bool := decide (0 ≤ s.p) && decide (0 ≤ s.l) && decide (0 ≤ s.w) && decide (s.p ≤ 1099511627776) && decide (s.l ≤ 1099511627776) && decide (s.w ≤ 1099511627776) && !(decide (s.p = 0) && decide (s.l = 0) && decide (s.w = 0))
def eqS (x y : Stp) : Bool := (x.p == y.p) && ((x.l == y.l) && (x.w == y.w))
theorem held_S : Tryz.prog.stoodInHeld 26 = false := by kernel_rfl
theorem guard_S : Tryz.prog.eqGuardType Tryz.prog.depth 26 = false := by kernel_rfl
theorem fields_S : Tryz.prog.underlying 26 = some (.struct (Tryz.prog.fieldsOf 26)) := by unfold Program.fieldsOf; rw [Tryz.underlying26]
theorem eqS_run (x y : Stp) (w : World) : (Op.equalIn 10000 26 (vS x) (vS y)).run Tryz.prog w = .ok (eqS x y) w := by
  unfold vS
  rw [run_equalIn_agg w 9999 _ _ _ fields_S held_S]
  unfold Program.fieldsOf
  rw [Tryz.underlying26]
  unfold eqS
  go_simp
  by_cases h2 : x.p = y.p <;> by_cases h3 : x.l = y.l <;> by_cases h4 : x.w = y.w <;> simp [h2, h3, h4]
theorem neqS_run (x y : Stp) (w : World) : (binOp .neq 26 (vS x) (vS y)).run Tryz.prog w = .ok (.bool (!eqS x y)) w := by
  unfold vS
  rw [run_neq_struct]
  have := eqS_run x y w
  unfold vS at this
  rw [this]; rfl
theorem guardS_run (op : BinOp) (a b : Operand) (xs ys : Array Value) (w : World) : (eqGuard op 26 a b (.agg xs) (.agg ys)).run Tryz.prog w = .ok () w := run_eqGuard_agg w op _ a b xs ys guard_S

set_option maxHeartbeats 2000000 in
set_option maxRecDepth 100000 in
theorem stright_any (s : Stp) (w : World) : Calls Tryz.prog 83 #[vS s] w fun e w' => e = .returned (.bool (stR s)) ∧ Lays w w' := by
  obtain ⟨p, l, h⟩ := s
  have hn := neqS_run ⟨p, l, h⟩ ⟨0, 0, 0⟩
  have hg := guardS_run .neq
  unfold vS at hn ⊢
  simp only [] at hn ⊢
  obtain ⟨q, hq⟩ : ∃ q, q = eqS ⟨p, l, h⟩ ⟨0, 0, 0⟩ := ⟨_, rfl⟩
  rw [← hq] at hn
  have hq2 : q = (decide (p = 0) && decide (l = 0) && decide (h = 0)) := by
    rw [hq]; unfold eqS
    by_cases h2 : p = 0 <;> by_cases h3 : l = 0 <;> by_cases h4 : h = 0 <;> simp [h2, h3, h4]
  have HQ := Lib.hid hq2
  clear hq hq2
  have hfin : stR ⟨p, l, h⟩ = (decide (0 ≤ p) && (decide (0 ≤ l) && (decide (0 ≤ h) && (decide (p ≤ 1099511627776) && (decide (l ≤ 1099511627776) && (decide (h ≤ 1099511627776) && !q)))))) := by
    rw [HQ.out]; unfold stR; simp only [Bool.and_assoc]
  rw [hfin]
  clear hfin
  by_cases h1 : 0 ≤ p
  · by_cases h2 : 0 ≤ l
    · by_cases h3 : 0 ≤ h
      · by_cases h4 : p ≤ 1099511627776
        · by_cases h5 : l ≤ 1099511627776
          · by_cases h6 : h ≤ 1099511627776
            all_goals
              simp only [h1, h2, h3, h4, h5, h6, decide_true, decide_false, Bool.true_and, Bool.false_and]
              go_enter Tryz.func83, Tryz.ntmps83
              go_wp2_with fail
              go_ret
              exact ⟨rfl, (Lays.refl _).alloc _⟩
          · simp only [h1, h2, h3, h4, h5, decide_true, decide_false, Bool.true_and, Bool.false_and]
            go_enter Tryz.func83, Tryz.ntmps83
            go_wp2_with fail
            go_ret
            exact ⟨rfl, (Lays.refl _).alloc _⟩
        · simp only [h1, h2, h3, h4, decide_true, decide_false, Bool.true_and, Bool.false_and]
          go_enter Tryz.func83, Tryz.ntmps83
          go_wp2_with fail
          go_ret
          exact ⟨rfl, (Lays.refl _).alloc _⟩
      · simp only [h1, h2, h3, decide_true, decide_false, Bool.true_and, Bool.false_and]
        go_enter Tryz.func83, Tryz.ntmps83
        go_wp2_with fail
        go_ret
        exact ⟨rfl, (Lays.refl _).alloc _⟩
    · simp only [h1, h2, decide_true, decide_false, Bool.true_and, Bool.false_and]
      go_enter Tryz.func83, Tryz.ntmps83
      go_wp2_with fail
      go_ret
      exact ⟨rfl, (Lays.refl _).alloc _⟩
  · simp only [h1, decide_true, decide_false, Bool.true_and, Bool.false_and]
    go_enter Tryz.func83, Tryz.ntmps83
    go_wp2_with fail
    go_ret
    exact ⟨rfl, (Lays.refl _).alloc _⟩
end Go.Proofs.YtgcfhlleaekgfaaGreatDoor.Mut
