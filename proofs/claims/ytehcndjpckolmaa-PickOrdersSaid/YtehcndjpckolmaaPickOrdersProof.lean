/- cenotaphlaw43.PickOrders returns true for every input, and its arguments read behind the call as before. No condition. -/
import Derived.Test.YtehcndjpckolmaaKit
import Derived.Test.YtehcndjpckolmaaPickOrdersLaw
namespace Go.Proofs.Ytehcndjpckolmaa.pickOrdersDone
open Go.ChangeShapes Go.WideShapes Go.ChangeAt Go.RowKit Go.Deep Go.Proofs.Ytehcndjpckolmaa.Kit

theorem own : ownKnob Try.prog.godebug = none := by kernel_rfl
theorem laidOut : laidOutB Try.prog = true := by kernel_rfl

set_option maxRecDepth 100000 in
theorem lifted (os : Os) (started : os.Started) (H : Type) (enc : TypeId × Value → H) :
    ReturnsInHanded {} Try.checked os 4 .any (Rows.pickOrdersSpec.pre6 enc Try.prog Try.f4 Rows.pickOrdersRow.domain false) (Rows.pickOrdersSpec.post enc Try.prog Try.f4 false true false false) := by
  refine law_lifted (C := Try.checked) (tb := 4) own started (by kernel_rfl) Try.func4 laidOut (by kernel_rfl) rfl rfl Try.underlying4 ?_
    (ChangeSpec.witness6 (enc := enc) (C := Try.checked) false ⟨#[], #[.int .i64 0, .slice none 0 0], []⟩ 8 (by kernel_rfl) (by kernel_rfl) (by kernel_rfl) (by kernel_rfl)) ?_
  · intro ds hd
    match ds, hd with
    | [d1, d2], _ => rfl
  · intro W args ha0
    have ha : Args enc Try.prog W Try.f4.params.toList args.toList := ha0
    rw [Try.params4] at ha
    obtain ⟨v0, v1, rfl, h0, h1⟩ := args2 ha
    obtain ⟨t, rfl, t1, t2⟩ := arg_i64 Try.underlying3 h0
    obtain ⟨ao, ac, l, rfl, hl, hn⟩ := Pick.arg_needs h1
    exact Pick.pickOrders_any t ao ac l W hl

theorem holds : Rows.PickOrdersSaid :=
  OpenClaim.holds_of_wide 4 Try.f4 rfl rfl rfl rfl rfl rfl rfl ⟨rfl, rfl, rfl, rfl, rfl⟩ rfl rfl rfl rfl rfl (by kernel_rfl) Try.func4 (by kernel_rfl)
    (of_decide_eq_true (by kernel_rfl)) (by unfold Func.isWrapper; first | (rw [if_pos (by decide +kernel)]; kernel_rfl) | (rw [if_neg (by decide +kernel)]; exact ⟨rfl, rfl⟩))
    (fun os started H enc _ => lifted os started H enc)
#print axioms holds
end Go.Proofs.Ytehcndjpckolmaa.pickOrdersDone
