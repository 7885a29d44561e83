/- The walk of runes.part (layer 1). PRINTED by wip/genmutpart.py. -/
import Derived.Test.YtgcfhlleaekgfaaGreatDoorMutWord
namespace Go.Proofs.YtgcfhlleaekgfaaGreatDoor.Mut
open Go.RowKit Go.Sort Go.Proofs.YtgcfhlleaekgfaaGreatDoor.Ord

/-- May a rune be part of a key? -/
def partF (r : Int) (first : Bool) : Bool := (decide (97 ≤ r) && decide (r ≤ 122)) || ((decide (65 ≤ r) && decide (r ≤ 90)) || (decide (128 ≤ r) || (!first && ((decide (48 ≤ r) && decide (r ≤ 57)) || (r == 45 || r == 95)))))
set_option maxHeartbeats 8000000 in
set_option maxRecDepth 100000 in
theorem part_any (r : Int) (first : Bool) (w : World) : Calls Tryz.prog 120 #[.int .i32 r, .bool first] w fun e w' => e = .returned (.bool (partF r first)) ∧ w = w' := by
  unfold partF
  have hc : r ≤ 44 ∨ r = 45 ∨ (46 ≤ r ∧ r ≤ 47) ∨ (48 ≤ r ∧ r ≤ 57) ∨ (58 ≤ r ∧ r ≤ 64) ∨ (65 ≤ r ∧ r ≤ 90) ∨ (91 ≤ r ∧ r ≤ 94) ∨ r = 95 ∨ r = 96 ∨ (97 ≤ r ∧ r ≤ 122) ∨ (123 ≤ r ∧ r ≤ 127) ∨ 128 ≤ r := by omega
  rcases hc with hc | hc | hc | hc | hc | hc | hc | hc | hc | hc | hc | hc
  · have e0 : decide (97 ≤ r) = false := decide_eq_false (by omega)
    have e1 : decide (r ≤ 122) = true := decide_eq_true (by omega)
    have e2 : decide (65 ≤ r) = false := decide_eq_false (by omega)
    have e3 : decide (r ≤ 90) = true := decide_eq_true (by omega)
    have e4 : decide (128 ≤ r) = false := decide_eq_false (by omega)
    have e5 : decide (48 ≤ r) = false := decide_eq_false (by omega)
    have e6 : decide (r ≤ 57) = true := decide_eq_true (by omega)
    have q45 : (r == 45) = false := by simp; omega
    have q95 : (r == 95) = false := by simp; omega
    clear hc
    simp only [e0, e1, e2, e3, e4, e5, e6, q45, q95]
    cases first
    all_goals
      go_enter Tryz.func120, Tryz.ntmps120
      go_wp2_with fail
      go_ret
      exact ⟨rfl, rfl⟩
  · subst hc
    skip
    cases first
    all_goals
      go_enter Tryz.func120, Tryz.ntmps120
      go_wp2_with fail
      go_ret
      exact ⟨rfl, rfl⟩
  · have e0 : decide (97 ≤ r) = false := decide_eq_false (by omega)
    have e1 : decide (r ≤ 122) = true := decide_eq_true (by omega)
    have e2 : decide (65 ≤ r) = false := decide_eq_false (by omega)
    have e3 : decide (r ≤ 90) = true := decide_eq_true (by omega)
    have e4 : decide (128 ≤ r) = false := decide_eq_false (by omega)
    have e5 : decide (48 ≤ r) = false := decide_eq_false (by omega)
    have e6 : decide (r ≤ 57) = true := decide_eq_true (by omega)
    have q45 : (r == 45) = false := by simp; omega
    have q95 : (r == 95) = false := by simp; omega
    clear hc
    simp only [e0, e1, e2, e3, e4, e5, e6, q45, q95]
    cases first
    all_goals
      go_enter Tryz.func120, Tryz.ntmps120
      go_wp2_with fail
      go_ret
      exact ⟨rfl, rfl⟩
  · have e0 : decide (97 ≤ r) = false := decide_eq_false (by omega)
    have e1 : decide (r ≤ 122) = true := decide_eq_true (by omega)
    have e2 : decide (65 ≤ r) = false := decide_eq_false (by omega)
    have e3 : decide (r ≤ 90) = true := decide_eq_true (by omega)
    have e4 : decide (128 ≤ r) = false := decide_eq_false (by omega)
    have e5 : decide (48 ≤ r) = true := decide_eq_true (by omega)
    have e6 : decide (r ≤ 57) = true := decide_eq_true (by omega)
    have q45 : (r == 45) = false := by simp; omega
    have q95 : (r == 95) = false := by simp; omega
    clear hc
    simp only [e0, e1, e2, e3, e4, e5, e6, q45, q95]
    cases first
    all_goals
      go_enter Tryz.func120, Tryz.ntmps120
      go_wp2_with fail
      go_ret
      exact ⟨rfl, rfl⟩
  · have e0 : decide (97 ≤ r) = false := decide_eq_false (by omega)
    have e1 : decide (r ≤ 122) = true := decide_eq_true (by omega)
    have e2 : decide (65 ≤ r) = false := decide_eq_false (by omega)
    have e3 : decide (r ≤ 90) = true := decide_eq_true (by omega)
    have e4 : decide (128 ≤ r) = false := decide_eq_false (by omega)
    have e5 : decide (48 ≤ r) = true := decide_eq_true (by omega)
    have e6 : decide (r ≤ 57) = false := decide_eq_false (by omega)
    have q45 : (r == 45) = false := by simp; omega
    have q95 : (r == 95) = false := by simp; omega
    clear hc
    simp only [e0, e1, e2, e3, e4, e5, e6, q45, q95]
    cases first
    all_goals
      go_enter Tryz.func120, Tryz.ntmps120
      go_wp2_with fail
      go_ret
      exact ⟨rfl, rfl⟩
  · have e0 : decide (97 ≤ r) = false := decide_eq_false (by omega)
    have e1 : decide (r ≤ 122) = true := decide_eq_true (by omega)
    have e2 : decide (65 ≤ r) = true := decide_eq_true (by omega)
    have e3 : decide (r ≤ 90) = true := decide_eq_true (by omega)
    have e4 : decide (128 ≤ r) = false := decide_eq_false (by omega)
    have e5 : decide (48 ≤ r) = true := decide_eq_true (by omega)
    have e6 : decide (r ≤ 57) = false := decide_eq_false (by omega)
    have q45 : (r == 45) = false := by simp; omega
    have q95 : (r == 95) = false := by simp; omega
    clear hc
    simp only [e0, e1, e2, e3, e4, e5, e6, q45, q95]
    cases first
    all_goals
      go_enter Tryz.func120, Tryz.ntmps120
      go_wp2_with fail
      go_ret
      exact ⟨rfl, rfl⟩
  · have e0 : decide (97 ≤ r) = false := decide_eq_false (by omega)
    have e1 : decide (r ≤ 122) = true := decide_eq_true (by omega)
    have e2 : decide (65 ≤ r) = true := decide_eq_true (by omega)
    have e3 : decide (r ≤ 90) = false := decide_eq_false (by omega)
    have e4 : decide (128 ≤ r) = false := decide_eq_false (by omega)
    have e5 : decide (48 ≤ r) = true := decide_eq_true (by omega)
    have e6 : decide (r ≤ 57) = false := decide_eq_false (by omega)
    have q45 : (r == 45) = false := by simp; omega
    have q95 : (r == 95) = false := by simp; omega
    clear hc
    simp only [e0, e1, e2, e3, e4, e5, e6, q45, q95]
    cases first
    all_goals
      go_enter Tryz.func120, Tryz.ntmps120
      go_wp2_with fail
      go_ret
      exact ⟨rfl, rfl⟩
  · subst hc
    skip
    cases first
    all_goals
      go_enter Tryz.func120, Tryz.ntmps120
      go_wp2_with fail
      go_ret
      exact ⟨rfl, rfl⟩
  · subst hc
    skip
    cases first
    all_goals
      go_enter Tryz.func120, Tryz.ntmps120
      go_wp2_with fail
      go_ret
      exact ⟨rfl, rfl⟩
  · have e0 : decide (97 ≤ r) = true := decide_eq_true (by omega)
    have e1 : decide (r ≤ 122) = true := decide_eq_true (by omega)
    have e2 : decide (65 ≤ r) = true := decide_eq_true (by omega)
    have e3 : decide (r ≤ 90) = false := decide_eq_false (by omega)
    have e4 : decide (128 ≤ r) = false := decide_eq_false (by omega)
    have e5 : decide (48 ≤ r) = true := decide_eq_true (by omega)
    have e6 : decide (r ≤ 57) = false := decide_eq_false (by omega)
    have q45 : (r == 45) = false := by simp; omega
    have q95 : (r == 95) = false := by simp; omega
    clear hc
    simp only [e0, e1, e2, e3, e4, e5, e6, q45, q95]
    cases first
    all_goals
      go_enter Tryz.func120, Tryz.ntmps120
      go_wp2_with fail
      go_ret
      exact ⟨rfl, rfl⟩
  · have e0 : decide (97 ≤ r) = true := decide_eq_true (by omega)
    have e1 : decide (r ≤ 122) = false := decide_eq_false (by omega)
    have e2 : decide (65 ≤ r) = true := decide_eq_true (by omega)
    have e3 : decide (r ≤ 90) = false := decide_eq_false (by omega)
    have e4 : decide (128 ≤ r) = false := decide_eq_false (by omega)
    have e5 : decide (48 ≤ r) = true := decide_eq_true (by omega)
    have e6 : decide (r ≤ 57) = false := decide_eq_false (by omega)
    have q45 : (r == 45) = false := by simp; omega
    have q95 : (r == 95) = false := by simp; omega
    clear hc
    simp only [e0, e1, e2, e3, e4, e5, e6, q45, q95]
    cases first
    all_goals
      go_enter Tryz.func120, Tryz.ntmps120
      go_wp2_with fail
      go_ret
      exact ⟨rfl, rfl⟩
  · have e0 : decide (97 ≤ r) = true := decide_eq_true (by omega)
    have e1 : decide (r ≤ 122) = false := decide_eq_false (by omega)
    have e2 : decide (65 ≤ r) = true := decide_eq_true (by omega)
    have e3 : decide (r ≤ 90) = false := decide_eq_false (by omega)
    have e4 : decide (128 ≤ r) = true := decide_eq_true (by omega)
    have e5 : decide (48 ≤ r) = true := decide_eq_true (by omega)
    have e6 : decide (r ≤ 57) = false := decide_eq_false (by omega)
    have q45 : (r == 45) = false := by simp; omega
    have q95 : (r == 95) = false := by simp; omega
    clear hc
    simp only [e0, e1, e2, e3, e4, e5, e6, q45, q95]
    cases first
    all_goals
      go_enter Tryz.func120, Tryz.ntmps120
      go_wp2_with fail
      go_ret
      exact ⟨rfl, rfl⟩
end Go.Proofs.YtgcfhlleaekgfaaGreatDoor.Mut
