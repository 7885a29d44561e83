/- cenotaphlaw05.VectorKnows returns true for every input, and its arguments read behind the call as before. No condition. -/
import Derived.Test.YtehcndjpckolmaaKit
import Derived.Test.YtehcndjpckolmaaVecKnows
namespace Go.Proofs.Ytehcndjpckolmaa.vectorKnowsDone
open Go.ChangeShapes Go.WideShapes Go.ChangeAt Go.RowKit Go.Deep Go.Proofs.Ytehcndjpckolmaa.Kit

theorem own : ownKnob Try.prog.godebug = none := by kernel_rfl
theorem laidOut : laidOutB Try.prog = true := by kernel_rfl

set_option maxRecDepth 100000 in
theorem lifted (os : Os) (started : os.Started) (H : Type) (enc : TypeId × Value → H) :
    ReturnsInHanded {} Try.checked os 9 .any (Rows.vectorKnowsSpec.pre6 enc Try.prog Try.f9 Rows.vectorKnowsRow.domain false) (Rows.vectorKnowsSpec.post enc Try.prog Try.f9 false true false false) := by
  refine law_lifted (C := Try.checked) (tb := 4) own started (by kernel_rfl) Try.func9 laidOut (by kernel_rfl) rfl rfl Try.underlying4 ?_
    (ChangeSpec.witness6 (enc := enc) (C := Try.checked) false ⟨#[], #[.slice none 0 0, .agg #[.int .i64 0, .int .i64 0]], []⟩ 8 (by kernel_rfl) (by kernel_rfl) (by kernel_rfl) (by kernel_rfl)) ?_
  · intro ds hd
    match ds, hd with
    | [d1, d2], _ => rfl
  · intro W args ha0
    have ha : Args enc Try.prog W Try.f9.params.toList args.toList := ha0
    rw [Try.params9] at ha
    obtain ⟨v0, v1, rfl, h0, h1⟩ := args2 ha
    obtain ⟨ao, ac, a, rfl, ha1, sa⟩ := Vec.arg_dots h0
    obtain ⟨cs, rfl, hr⟩ := arg_agg Try.underlying83 h1
    obtain ⟨a0, a1, rfl, r0, r1⟩ := rd_struct2 Try.underlying83 (by kernel_rfl) (by kernel_rfl) hr
    obtain ⟨x, rfl, x1, x2⟩ := rd_i64 Try.underlying3 r0
    obtain ⟨y, rfl, _, _⟩ := rd_i64 Try.underlying3 r1
    exact Vec.vectorKnows_any ao ac a ⟨x, y⟩ W ha1 sa x1 x2

theorem holds : Rows.VectorKnowsSaid :=
  OpenClaim.holds_of_wide 9 Try.f9 rfl rfl rfl rfl rfl rfl rfl ⟨rfl, rfl, rfl, rfl, rfl⟩ rfl rfl rfl rfl rfl (by kernel_rfl) Try.func9 (by kernel_rfl)
    (of_decide_eq_true (by kernel_rfl)) (by unfold Func.isWrapper; first | (rw [if_pos (by decide +kernel)]; kernel_rfl) | (rw [if_neg (by decide +kernel)]; exact ⟨rfl, rfl⟩))
    (fun os started H enc _ => lifted os started H enc)
#print axioms holds
end Go.Proofs.Ytehcndjpckolmaa.vectorKnowsDone
