/- net.Msg.Says: the word of each kind of body (layer 22). PRINTED by wip/gennetsays.py. -/
import Derived.Test.YtemckpmedjennaaGreatDoorCalmTail
set_option linter.unusedSimpArgs false
set_option linter.unusedVariables false
namespace Go.Proofs.YtemckpmedjennaaGreatDoor.NetW
open Go.RowKit

theorem meth_Write (n : Nat) (v : Value) (w : World) : (method (n + 1) 37 v "Says").run Tryz.prog w = .ok (195, v) w := by kernel_rfl
theorem word_Write (cs : Array Value) (w : World) : Calls Tryz.prog 195 #[.agg cs] w fun e w' => e = .returned (.string ⟨#[119, 114, 105, 116, 101]⟩) ∧ Below w.heap.size w w' := by
  go_enter Tryz.func195, Tryz.ntmps195
  go_wp2_with fail
  go_ret
  exact ⟨rfl, (Below.refl _ _).alloc (Nat.le_refl _) _⟩
set_option maxHeartbeats 1000000 in
set_option maxRecDepth 100000 in
theorem says_Write (c : Nat → Value) (cs : Array Value) (w : World) :
    Calls Tryz.prog 13 #[.agg #[c 0, c 1, c 2, c 3, c 4, c 5, c 6, c 7, c 8, c 9, c 10, c 11, c 12, c 13, c 14, c 15, .iface 37 (.agg cs)]] w fun e w' => e = .returned (.string ⟨#[119, 114, 105, 116, 101]⟩) ∧ Below w.heap.size w w' := by
  have hm := fun n w => meth_Write n (.agg cs) w
  have hw := fun w => word_Write cs w
  go_enter Tryz.func13, Tryz.ntmps13
  go_wp2_with fail
  refine (hw _).mono ?_
  rintro e w1 ⟨rfl, hb⟩
  go_wp2_with fail
  go_ret
  exact ⟨rfl, ((Below.refl _ _).alloc (Nat.le_refl _) _).trans (hb.mono (by simp))⟩
theorem meth_Answer (n : Nat) (v : Value) (w : World) : (method (n + 1) 51 v "Says").run Tryz.prog w = .ok (198, v) w := by kernel_rfl
theorem word_Answer (cs : Array Value) (w : World) : Calls Tryz.prog 198 #[.agg cs] w fun e w' => e = .returned (.string ⟨#[97, 110, 115, 119, 101, 114]⟩) ∧ Below w.heap.size w w' := by
  go_enter Tryz.func198, Tryz.ntmps198
  go_wp2_with fail
  go_ret
  exact ⟨rfl, (Below.refl _ _).alloc (Nat.le_refl _) _⟩
set_option maxHeartbeats 1000000 in
set_option maxRecDepth 100000 in
theorem says_Answer (c : Nat → Value) (cs : Array Value) (w : World) :
    Calls Tryz.prog 13 #[.agg #[c 0, c 1, c 2, c 3, c 4, c 5, c 6, c 7, c 8, c 9, c 10, c 11, c 12, c 13, c 14, c 15, .iface 51 (.agg cs)]] w fun e w' => e = .returned (.string ⟨#[97, 110, 115, 119, 101, 114]⟩) ∧ Below w.heap.size w w' := by
  have hm := fun n w => meth_Answer n (.agg cs) w
  have hw := fun w => word_Answer cs w
  go_enter Tryz.func13, Tryz.ntmps13
  go_wp2_with fail
  refine (hw _).mono ?_
  rintro e w1 ⟨rfl, hb⟩
  go_wp2_with fail
  go_ret
  exact ⟨rfl, ((Below.refl _ _).alloc (Nat.le_refl _) _).trans (hb.mono (by simp))⟩
theorem meth_Report (n : Nat) (v : Value) (w : World) : (method (n + 1) 129 v "Says").run Tryz.prog w = .ok (200, v) w := by kernel_rfl
theorem word_Report (cs : Array Value) (w : World) : Calls Tryz.prog 200 #[.agg cs] w fun e w' => e = .returned (.string ⟨#[114, 101, 112, 111, 114, 116]⟩) ∧ Below w.heap.size w w' := by
  go_enter Tryz.func200, Tryz.ntmps200
  go_wp2_with fail
  go_ret
  exact ⟨rfl, (Below.refl _ _).alloc (Nat.le_refl _) _⟩
set_option maxHeartbeats 1000000 in
set_option maxRecDepth 100000 in
theorem says_Report (c : Nat → Value) (cs : Array Value) (w : World) :
    Calls Tryz.prog 13 #[.agg #[c 0, c 1, c 2, c 3, c 4, c 5, c 6, c 7, c 8, c 9, c 10, c 11, c 12, c 13, c 14, c 15, .iface 129 (.agg cs)]] w fun e w' => e = .returned (.string ⟨#[114, 101, 112, 111, 114, 116]⟩) ∧ Below w.heap.size w w' := by
  have hm := fun n w => meth_Report n (.agg cs) w
  have hw := fun w => word_Report cs w
  go_enter Tryz.func13, Tryz.ntmps13
  go_wp2_with fail
  refine (hw _).mono ?_
  rintro e w1 ⟨rfl, hb⟩
  go_wp2_with fail
  go_ret
  exact ⟨rfl, ((Below.refl _ _).alloc (Nat.le_refl _) _).trans (hb.mono (by simp))⟩
theorem meth_Install (n : Nat) (v : Value) (w : World) : (method (n + 1) 132 v "Says").run Tryz.prog w = .ok (201, v) w := by kernel_rfl
theorem word_Install (cs : Array Value) (w : World) : Calls Tryz.prog 201 #[.agg cs] w fun e w' => e = .returned (.string ⟨#[105, 110, 115, 116, 97, 108, 108]⟩) ∧ Below w.heap.size w w' := by
  go_enter Tryz.func201, Tryz.ntmps201
  go_wp2_with fail
  go_ret
  exact ⟨rfl, (Below.refl _ _).alloc (Nat.le_refl _) _⟩
set_option maxHeartbeats 1000000 in
set_option maxRecDepth 100000 in
theorem says_Install (c : Nat → Value) (cs : Array Value) (w : World) :
    Calls Tryz.prog 13 #[.agg #[c 0, c 1, c 2, c 3, c 4, c 5, c 6, c 7, c 8, c 9, c 10, c 11, c 12, c 13, c 14, c 15, .iface 132 (.agg cs)]] w fun e w' => e = .returned (.string ⟨#[105, 110, 115, 116, 97, 108, 108]⟩) ∧ Below w.heap.size w w' := by
  have hm := fun n w => meth_Install n (.agg cs) w
  have hw := fun w => word_Install cs w
  go_enter Tryz.func13, Tryz.ntmps13
  go_wp2_with fail
  refine (hw _).mono ?_
  rintro e w1 ⟨rfl, hb⟩
  go_wp2_with fail
  go_ret
  exact ⟨rfl, ((Below.refl _ _).alloc (Nat.le_refl _) _).trans (hb.mono (by simp))⟩
theorem meth_Beat (n : Nat) (v : Value) (w : World) : (method (n + 1) 99 v "Says").run Tryz.prog w = .ok (199, v) w := by kernel_rfl
theorem word_Beat (cs : Array Value) (w : World) : Calls Tryz.prog 199 #[.agg cs] w fun e w' => e = .returned (.string ⟨#[98, 101, 97, 116]⟩) ∧ Below w.heap.size w w' := by
  go_enter Tryz.func199, Tryz.ntmps199
  go_wp2_with fail
  go_ret
  exact ⟨rfl, (Below.refl _ _).alloc (Nat.le_refl _) _⟩
set_option maxHeartbeats 1000000 in
set_option maxRecDepth 100000 in
theorem says_Beat (c : Nat → Value) (cs : Array Value) (w : World) :
    Calls Tryz.prog 13 #[.agg #[c 0, c 1, c 2, c 3, c 4, c 5, c 6, c 7, c 8, c 9, c 10, c 11, c 12, c 13, c 14, c 15, .iface 99 (.agg cs)]] w fun e w' => e = .returned (.string ⟨#[98, 101, 97, 116]⟩) ∧ Below w.heap.size w w' := by
  have hm := fun n w => meth_Beat n (.agg cs) w
  have hw := fun w => word_Beat cs w
  go_enter Tryz.func13, Tryz.ntmps13
  go_wp2_with fail
  refine (hw _).mono ?_
  rintro e w1 ⟨rfl, hb⟩
  go_wp2_with fail
  go_ret
  exact ⟨rfl, ((Below.refl _ _).alloc (Nat.le_refl _) _).trans (hb.mono (by simp))⟩
set_option maxHeartbeats 1000000 in
set_option maxRecDepth 100000 in
theorem says_none (c : Nat → Value) (w : World) :
    Calls Tryz.prog 13 #[.agg #[c 0, c 1, c 2, c 3, c 4, c 5, c 6, c 7, c 8, c 9, c 10, c 11, c 12, c 13, c 14, c 15, .nilIface]] w fun e w' => e = .returned (.string ⟨#[]⟩) ∧ Below w.heap.size w w' := by
  go_enter Tryz.func13, Tryz.ntmps13
  go_wp2_with fail
  go_ret
  exact ⟨rfl, (Below.refl _ _).alloc (Nat.le_refl _) _⟩
end Go.Proofs.YtemckpmedjennaaGreatDoor.NetW
