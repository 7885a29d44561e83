/- cenotaphlaw05.VectorNext returns true for every input, and its arguments read behind the call as before. No condition. -/
import Derived.Test.YtehcndjpckolmaaKit
import Derived.Test.YtehcndjpckolmaaVecNext
namespace Go.Proofs.Ytehcndjpckolmaa.vectorNextDone
open Go.ChangeShapes Go.WideShapes Go.ChangeAt Go.RowKit Go.Deep Go.Proofs.Ytehcndjpckolmaa.Kit

theorem own : ownKnob Try.prog.godebug = none := by kernel_rfl
theorem laidOut : laidOutB Try.prog = true := by kernel_rfl

set_option maxRecDepth 100000 in
theorem lifted (os : Os) (started : os.Started) (H : Type) (enc : TypeId × Value → H) :
    ReturnsInHanded {} Try.checked os 10 .any (Rows.vectorNextSpec.pre6 enc Try.prog Try.f10 Rows.vectorNextRow.domain false) (Rows.vectorNextSpec.post enc Try.prog Try.f10 false true false false) := by
  refine law_lifted (C := Try.checked) (tb := 4) own started (by kernel_rfl) Try.func10 laidOut (by kernel_rfl) rfl rfl Try.underlying4 ?_
    (ChangeSpec.witness6 (enc := enc) (C := Try.checked) false ⟨#[], #[.slice none 0 0, .int .i64 0], []⟩ 8 (by kernel_rfl) (by kernel_rfl) (by kernel_rfl) (by kernel_rfl)) ?_
  · intro ds hd
    match ds, hd with
    | [d1, d2], _ => rfl
  · intro W args ha0
    have ha : Args enc Try.prog W Try.f10.params.toList args.toList := ha0
    rw [Try.params10] at ha
    obtain ⟨v0, v1, rfl, h0, h1⟩ := args2 ha
    obtain ⟨ao, ac, a, rfl, ha1, sa⟩ := Vec.arg_dots h0
    obtain ⟨x, rfl, x1, x2⟩ := arg_i64 Try.underlying3 h1
    exact Vec.vectorNext_any ao ac a x W ha1 sa x1 x2

theorem holds : Rows.VectorNextSaid :=
  OpenClaim.holds_of_wide 10 Try.f10 rfl rfl rfl rfl rfl rfl rfl ⟨rfl, rfl, rfl, rfl, rfl⟩ rfl rfl rfl rfl rfl (by kernel_rfl) Try.func10 (by kernel_rfl)
    (of_decide_eq_true (by kernel_rfl)) (by unfold Func.isWrapper; first | (rw [if_pos (by decide +kernel)]; kernel_rfl) | (rw [if_neg (by decide +kernel)]; exact ⟨rfl, rfl⟩))
    (fun os started H enc _ => lifted os started H enc)
#print axioms holds
end Go.Proofs.Ytehcndjpckolmaa.vectorNextDone
