/- net.own at a body that says 'beat' (layer 22). -/
import Derived.Test.YtemckpmedjennaaGreatDoorNetSay
set_option linter.unusedSimpArgs false
set_option linter.unusedVariables false
namespace Go.Proofs.YtemckpmedjennaaGreatDoor.NetW
open Go.RowKit

def zWrite : Value := .agg #[.int .i64 0, .int .i64 0, .int .i64 0, .string ⟨#[]⟩, .string ⟨#[]⟩, .string ⟨#[]⟩, .int .i64 0, .int .i64 0, .int .i64 0, .int .i64 0, .slice none 0 0]
def zAnswer : Value := .agg #[.int .i64 0, .int .i64 0, .int .i64 0, .slice none 0 0, .slice none 0 0, .slice none 0 0, .int .i64 0, .int .i64 0, .int .i64 0, .int .i64 0]
def zReport : Value := .agg #[.int .i64 0, .int .i64 0, .int .i64 0, .int .i64 0, .int .i64 0, .int .i64 0, .int .i64 0, .int .i64 0, .int .i64 0, .int .i64 0, .slice none 0 0, .slice none 0 0, .slice none 0 0, .bool false, .int .i64 0]
def zInstall : Value := .agg #[.int .i64 0, .int .i64 0, .int .i64 0, .int .i64 0, .int .i64 0, .int .i64 0, .int .i64 0, .slice none 0 0, .slice none 0 0, .slice none 0 0]
abbrev bBeat : Value := .iface 99 (.agg #[])
theorem ta_Write (w : World) : (Instr.typeAssert bBeat 43 37 true).run Tryz.prog w = .ok (.tuple #[zWrite, .bool false]) w := by kernel_rfl
theorem ta_Answer (w : World) : (Instr.typeAssert bBeat 43 51 true).run Tryz.prog w = .ok (.tuple #[zAnswer, .bool false]) w := by kernel_rfl
theorem ta_Report (w : World) : (Instr.typeAssert bBeat 43 129 true).run Tryz.prog w = .ok (.tuple #[zReport, .bool false]) w := by kernel_rfl
theorem ta_Install (w : World) : (Instr.typeAssert bBeat 43 132 true).run Tryz.prog w = .ok (.tuple #[zInstall, .bool false]) w := by kernel_rfl

set_option maxHeartbeats 4000000 in
set_option maxRecDepth 100000 in
theorem own_beat (w : World) : Calls Tryz.prog 38 #[bBeat] w fun e w' => e = .returned bBeat ∧ Below w.heap.size w w' := by
  have h1 := ta_Write
  have h2 := ta_Answer
  have h3 := ta_Report
  have h4 := ta_Install
  unfold zWrite at h1
  unfold zAnswer at h2
  unfold zReport at h3
  unfold zInstall at h4
  go_enter Tryz.func38, Tryz.ntmps38
  go_wp2_with fail
  go_ret
  exact ⟨rfl, (((Below.refl _ _).alloc (Nat.le_refl _) _).alloc (by simp) _).alloc (by simp; omega) _ |>.alloc (by simp; omega) _⟩
end Go.Proofs.YtemckpmedjennaaGreatDoor.NetW
