/- net.Msg.Says: the word of each kind of body (layer 22). PRINTED by wip/gennetsays.py. -/
import Derived.Test.YtkdgbkhnnehedaaDoorCalmTail
set_option linter.unusedSimpArgs false
set_option linter.unusedVariables false
namespace Go.Proofs.YtkdgbkhnnehedaaDoor.NetW
open Go.RowKit

theorem meth_Write (n : Nat) (v : Value) (w : World) : (method (n + 1) 45 v "Says").run Tryd.prog w = .ok (159, v) w := by kernel_rfl
theorem word_Write (cs : Array Value) (w : World) : Calls Tryd.prog 159 #[.agg cs] w fun e w' => e = .returned (.string ⟨#[119, 114, 105, 116, 101]⟩) ∧ Below w.heap.size w w' := by
  go_enter Tryd.func159, Tryd.ntmps159
  go_wp2_with fail
  go_ret
  exact ⟨rfl, (Below.refl _ _).alloc (Nat.le_refl _) _⟩
set_option maxHeartbeats 1000000 in
set_option maxRecDepth 100000 in
theorem says_Write (c : Nat → Value) (cs : Array Value) (w : World) :
    Calls Tryd.prog 16 #[.agg #[c 0, c 1, c 2, c 3, c 4, c 5, c 6, c 7, c 8, c 9, c 10, c 11, c 12, c 13, c 14, c 15, .iface 45 (.agg cs)]] w fun e w' => e = .returned (.string ⟨#[119, 114, 105, 116, 101]⟩) ∧ Below w.heap.size w w' := by
  have hm := fun n w => meth_Write n (.agg cs) w
  have hw := fun w => word_Write cs w
  go_enter Tryd.func16, Tryd.ntmps16
  go_wp2_with fail
  refine (hw _).mono ?_
  rintro e w1 ⟨rfl, hb⟩
  go_wp2_with fail
  go_ret
  exact ⟨rfl, ((Below.refl _ _).alloc (Nat.le_refl _) _).trans (hb.mono (by simp))⟩
theorem meth_Ack (n : Nat) (v : Value) (w : World) : (method (n + 1) 56 v "Says").run Tryd.prog w = .ok (161, v) w := by kernel_rfl
theorem word_Ack (cs : Array Value) (w : World) : Calls Tryd.prog 161 #[.agg cs] w fun e w' => e = .returned (.string ⟨#[97, 99, 107]⟩) ∧ Below w.heap.size w w' := by
  go_enter Tryd.func161, Tryd.ntmps161
  go_wp2_with fail
  go_ret
  exact ⟨rfl, (Below.refl _ _).alloc (Nat.le_refl _) _⟩
set_option maxHeartbeats 1000000 in
set_option maxRecDepth 100000 in
theorem says_Ack (c : Nat → Value) (cs : Array Value) (w : World) :
    Calls Tryd.prog 16 #[.agg #[c 0, c 1, c 2, c 3, c 4, c 5, c 6, c 7, c 8, c 9, c 10, c 11, c 12, c 13, c 14, c 15, .iface 56 (.agg cs)]] w fun e w' => e = .returned (.string ⟨#[97, 99, 107]⟩) ∧ Below w.heap.size w w' := by
  have hm := fun n w => meth_Ack n (.agg cs) w
  have hw := fun w => word_Ack cs w
  go_enter Tryd.func16, Tryd.ntmps16
  go_wp2_with fail
  refine (hw _).mono ?_
  rintro e w1 ⟨rfl, hb⟩
  go_wp2_with fail
  go_ret
  exact ⟨rfl, ((Below.refl _ _).alloc (Nat.le_refl _) _).trans (hb.mono (by simp))⟩
theorem meth_Ask (n : Nat) (v : Value) (w : World) : (method (n + 1) 58 v "Says").run Tryd.prog w = .ok (162, v) w := by kernel_rfl
theorem word_Ask (cs : Array Value) (w : World) : Calls Tryd.prog 162 #[.agg cs] w fun e w' => e = .returned (.string ⟨#[97, 115, 107]⟩) ∧ Below w.heap.size w w' := by
  go_enter Tryd.func162, Tryd.ntmps162
  go_wp2_with fail
  go_ret
  exact ⟨rfl, (Below.refl _ _).alloc (Nat.le_refl _) _⟩
set_option maxHeartbeats 1000000 in
set_option maxRecDepth 100000 in
theorem says_Ask (c : Nat → Value) (cs : Array Value) (w : World) :
    Calls Tryd.prog 16 #[.agg #[c 0, c 1, c 2, c 3, c 4, c 5, c 6, c 7, c 8, c 9, c 10, c 11, c 12, c 13, c 14, c 15, .iface 58 (.agg cs)]] w fun e w' => e = .returned (.string ⟨#[97, 115, 107]⟩) ∧ Below w.heap.size w w' := by
  have hm := fun n w => meth_Ask n (.agg cs) w
  have hw := fun w => word_Ask cs w
  go_enter Tryd.func16, Tryd.ntmps16
  go_wp2_with fail
  refine (hw _).mono ?_
  rintro e w1 ⟨rfl, hb⟩
  go_wp2_with fail
  go_ret
  exact ⟨rfl, ((Below.refl _ _).alloc (Nat.le_refl _) _).trans (hb.mono (by simp))⟩
theorem meth_Answer (n : Nat) (v : Value) (w : World) : (method (n + 1) 63 v "Says").run Tryd.prog w = .ok (163, v) w := by kernel_rfl
theorem word_Answer (cs : Array Value) (w : World) : Calls Tryd.prog 163 #[.agg cs] w fun e w' => e = .returned (.string ⟨#[97, 110, 115, 119, 101, 114]⟩) ∧ Below w.heap.size w w' := by
  go_enter Tryd.func163, Tryd.ntmps163
  go_wp2_with fail
  go_ret
  exact ⟨rfl, (Below.refl _ _).alloc (Nat.le_refl _) _⟩
set_option maxHeartbeats 1000000 in
set_option maxRecDepth 100000 in
theorem says_Answer (c : Nat → Value) (cs : Array Value) (w : World) :
    Calls Tryd.prog 16 #[.agg #[c 0, c 1, c 2, c 3, c 4, c 5, c 6, c 7, c 8, c 9, c 10, c 11, c 12, c 13, c 14, c 15, .iface 63 (.agg cs)]] w fun e w' => e = .returned (.string ⟨#[97, 110, 115, 119, 101, 114]⟩) ∧ Below w.heap.size w w' := by
  have hm := fun n w => meth_Answer n (.agg cs) w
  have hw := fun w => word_Answer cs w
  go_enter Tryd.func16, Tryd.ntmps16
  go_wp2_with fail
  refine (hw _).mono ?_
  rintro e w1 ⟨rfl, hb⟩
  go_wp2_with fail
  go_ret
  exact ⟨rfl, ((Below.refl _ _).alloc (Nat.le_refl _) _).trans (hb.mono (by simp))⟩
theorem meth_Prepare (n : Nat) (v : Value) (w : World) : (method (n + 1) 65 v "Says").run Tryd.prog w = .ok (164, v) w := by kernel_rfl
theorem word_Prepare (cs : Array Value) (w : World) : Calls Tryd.prog 164 #[.agg cs] w fun e w' => e = .returned (.string ⟨#[112, 114, 101, 112, 97, 114, 101]⟩) ∧ Below w.heap.size w w' := by
  go_enter Tryd.func164, Tryd.ntmps164
  go_wp2_with fail
  go_ret
  exact ⟨rfl, (Below.refl _ _).alloc (Nat.le_refl _) _⟩
set_option maxHeartbeats 1000000 in
set_option maxRecDepth 100000 in
theorem says_Prepare (c : Nat → Value) (cs : Array Value) (w : World) :
    Calls Tryd.prog 16 #[.agg #[c 0, c 1, c 2, c 3, c 4, c 5, c 6, c 7, c 8, c 9, c 10, c 11, c 12, c 13, c 14, c 15, .iface 65 (.agg cs)]] w fun e w' => e = .returned (.string ⟨#[112, 114, 101, 112, 97, 114, 101]⟩) ∧ Below w.heap.size w w' := by
  have hm := fun n w => meth_Prepare n (.agg cs) w
  have hw := fun w => word_Prepare cs w
  go_enter Tryd.func16, Tryd.ntmps16
  go_wp2_with fail
  refine (hw _).mono ?_
  rintro e w1 ⟨rfl, hb⟩
  go_wp2_with fail
  go_ret
  exact ⟨rfl, ((Below.refl _ _).alloc (Nat.le_refl _) _).trans (hb.mono (by simp))⟩
theorem meth_Report (n : Nat) (v : Value) (w : World) : (method (n + 1) 67 v "Says").run Tryd.prog w = .ok (165, v) w := by kernel_rfl
theorem word_Report (cs : Array Value) (w : World) : Calls Tryd.prog 165 #[.agg cs] w fun e w' => e = .returned (.string ⟨#[114, 101, 112, 111, 114, 116]⟩) ∧ Below w.heap.size w w' := by
  go_enter Tryd.func165, Tryd.ntmps165
  go_wp2_with fail
  go_ret
  exact ⟨rfl, (Below.refl _ _).alloc (Nat.le_refl _) _⟩
set_option maxHeartbeats 1000000 in
set_option maxRecDepth 100000 in
theorem says_Report (c : Nat → Value) (cs : Array Value) (w : World) :
    Calls Tryd.prog 16 #[.agg #[c 0, c 1, c 2, c 3, c 4, c 5, c 6, c 7, c 8, c 9, c 10, c 11, c 12, c 13, c 14, c 15, .iface 67 (.agg cs)]] w fun e w' => e = .returned (.string ⟨#[114, 101, 112, 111, 114, 116]⟩) ∧ Below w.heap.size w w' := by
  have hm := fun n w => meth_Report n (.agg cs) w
  have hw := fun w => word_Report cs w
  go_enter Tryd.func16, Tryd.ntmps16
  go_wp2_with fail
  refine (hw _).mono ?_
  rintro e w1 ⟨rfl, hb⟩
  go_wp2_with fail
  go_ret
  exact ⟨rfl, ((Below.refl _ _).alloc (Nat.le_refl _) _).trans (hb.mono (by simp))⟩
theorem meth_Install (n : Nat) (v : Value) (w : World) : (method (n + 1) 69 v "Says").run Tryd.prog w = .ok (166, v) w := by kernel_rfl
theorem word_Install (cs : Array Value) (w : World) : Calls Tryd.prog 166 #[.agg cs] w fun e w' => e = .returned (.string ⟨#[105, 110, 115, 116, 97, 108, 108]⟩) ∧ Below w.heap.size w w' := by
  go_enter Tryd.func166, Tryd.ntmps166
  go_wp2_with fail
  go_ret
  exact ⟨rfl, (Below.refl _ _).alloc (Nat.le_refl _) _⟩
set_option maxHeartbeats 1000000 in
set_option maxRecDepth 100000 in
theorem says_Install (c : Nat → Value) (cs : Array Value) (w : World) :
    Calls Tryd.prog 16 #[.agg #[c 0, c 1, c 2, c 3, c 4, c 5, c 6, c 7, c 8, c 9, c 10, c 11, c 12, c 13, c 14, c 15, .iface 69 (.agg cs)]] w fun e w' => e = .returned (.string ⟨#[105, 110, 115, 116, 97, 108, 108]⟩) ∧ Below w.heap.size w w' := by
  have hm := fun n w => meth_Install n (.agg cs) w
  have hw := fun w => word_Install cs w
  go_enter Tryd.func16, Tryd.ntmps16
  go_wp2_with fail
  refine (hw _).mono ?_
  rintro e w1 ⟨rfl, hb⟩
  go_wp2_with fail
  go_ret
  exact ⟨rfl, ((Below.refl _ _).alloc (Nat.le_refl _) _).trans (hb.mono (by simp))⟩
theorem meth_Done (n : Nat) (v : Value) (w : World) : (method (n + 1) 71 v "Says").run Tryd.prog w = .ok (167, v) w := by kernel_rfl
theorem word_Done (cs : Array Value) (w : World) : Calls Tryd.prog 167 #[.agg cs] w fun e w' => e = .returned (.string ⟨#[100, 111, 110, 101]⟩) ∧ Below w.heap.size w w' := by
  go_enter Tryd.func167, Tryd.ntmps167
  go_wp2_with fail
  go_ret
  exact ⟨rfl, (Below.refl _ _).alloc (Nat.le_refl _) _⟩
set_option maxHeartbeats 1000000 in
set_option maxRecDepth 100000 in
theorem says_Done (c : Nat → Value) (cs : Array Value) (w : World) :
    Calls Tryd.prog 16 #[.agg #[c 0, c 1, c 2, c 3, c 4, c 5, c 6, c 7, c 8, c 9, c 10, c 11, c 12, c 13, c 14, c 15, .iface 71 (.agg cs)]] w fun e w' => e = .returned (.string ⟨#[100, 111, 110, 101]⟩) ∧ Below w.heap.size w w' := by
  have hm := fun n w => meth_Done n (.agg cs) w
  have hw := fun w => word_Done cs w
  go_enter Tryd.func16, Tryd.ntmps16
  go_wp2_with fail
  refine (hw _).mono ?_
  rintro e w1 ⟨rfl, hb⟩
  go_wp2_with fail
  go_ret
  exact ⟨rfl, ((Below.refl _ _).alloc (Nat.le_refl _) _).trans (hb.mono (by simp))⟩
theorem meth_Finish (n : Nat) (v : Value) (w : World) : (method (n + 1) 72 v "Says").run Tryd.prog w = .ok (168, v) w := by kernel_rfl
theorem word_Finish (cs : Array Value) (w : World) : Calls Tryd.prog 168 #[.agg cs] w fun e w' => e = .returned (.string ⟨#[102, 105, 110, 105, 115, 104]⟩) ∧ Below w.heap.size w w' := by
  go_enter Tryd.func168, Tryd.ntmps168
  go_wp2_with fail
  go_ret
  exact ⟨rfl, (Below.refl _ _).alloc (Nat.le_refl _) _⟩
set_option maxHeartbeats 1000000 in
set_option maxRecDepth 100000 in
theorem says_Finish (c : Nat → Value) (cs : Array Value) (w : World) :
    Calls Tryd.prog 16 #[.agg #[c 0, c 1, c 2, c 3, c 4, c 5, c 6, c 7, c 8, c 9, c 10, c 11, c 12, c 13, c 14, c 15, .iface 72 (.agg cs)]] w fun e w' => e = .returned (.string ⟨#[102, 105, 110, 105, 115, 104]⟩) ∧ Below w.heap.size w w' := by
  have hm := fun n w => meth_Finish n (.agg cs) w
  have hw := fun w => word_Finish cs w
  go_enter Tryd.func16, Tryd.ntmps16
  go_wp2_with fail
  refine (hw _).mono ?_
  rintro e w1 ⟨rfl, hb⟩
  go_wp2_with fail
  go_ret
  exact ⟨rfl, ((Below.refl _ _).alloc (Nat.le_refl _) _).trans (hb.mono (by simp))⟩
theorem meth_Beat (n : Nat) (v : Value) (w : World) : (method (n + 1) 111 v "Says").run Tryd.prog w = .ok (169, v) w := by kernel_rfl
theorem word_Beat (cs : Array Value) (w : World) : Calls Tryd.prog 169 #[.agg cs] w fun e w' => e = .returned (.string ⟨#[98, 101, 97, 116]⟩) ∧ Below w.heap.size w w' := by
  go_enter Tryd.func169, Tryd.ntmps169
  go_wp2_with fail
  go_ret
  exact ⟨rfl, (Below.refl _ _).alloc (Nat.le_refl _) _⟩
set_option maxHeartbeats 1000000 in
set_option maxRecDepth 100000 in
theorem says_Beat (c : Nat → Value) (cs : Array Value) (w : World) :
    Calls Tryd.prog 16 #[.agg #[c 0, c 1, c 2, c 3, c 4, c 5, c 6, c 7, c 8, c 9, c 10, c 11, c 12, c 13, c 14, c 15, .iface 111 (.agg cs)]] w fun e w' => e = .returned (.string ⟨#[98, 101, 97, 116]⟩) ∧ Below w.heap.size w w' := by
  have hm := fun n w => meth_Beat n (.agg cs) w
  have hw := fun w => word_Beat cs w
  go_enter Tryd.func16, Tryd.ntmps16
  go_wp2_with fail
  refine (hw _).mono ?_
  rintro e w1 ⟨rfl, hb⟩
  go_wp2_with fail
  go_ret
  exact ⟨rfl, ((Below.refl _ _).alloc (Nat.le_refl _) _).trans (hb.mono (by simp))⟩
set_option maxHeartbeats 1000000 in
set_option maxRecDepth 100000 in
theorem says_none (c : Nat → Value) (w : World) :
    Calls Tryd.prog 16 #[.agg #[c 0, c 1, c 2, c 3, c 4, c 5, c 6, c 7, c 8, c 9, c 10, c 11, c 12, c 13, c 14, c 15, .nilIface]] w fun e w' => e = .returned (.string ⟨#[]⟩) ∧ Below w.heap.size w w' := by
  go_enter Tryd.func16, Tryd.ntmps16
  go_wp2_with fail
  go_ret
  exact ⟨rfl, (Below.refl _ _).alloc (Nat.le_refl _) _⟩
end Go.Proofs.YtkdgbkhnnehedaaDoor.NetW
