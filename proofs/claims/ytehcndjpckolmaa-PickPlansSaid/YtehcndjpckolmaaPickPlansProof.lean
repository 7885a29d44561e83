/- cenotaphlaw43.PickPlans returns true for every input, and its arguments read behind the call as before. No condition. -/
import Derived.Test.YtehcndjpckolmaaKit
import Derived.Test.YtehcndjpckolmaaPickAllLaw
namespace Go.Proofs.Ytehcndjpckolmaa.pickPlansDone
open Go.ChangeShapes Go.WideShapes Go.ChangeAt Go.RowKit Go.Deep Go.Proofs.Ytehcndjpckolmaa.Kit

theorem own : ownKnob Try.prog.godebug = none := by kernel_rfl
theorem laidOut : laidOutB Try.prog = true := by kernel_rfl

set_option maxRecDepth 100000 in
theorem lifted (os : Os) (started : os.Started) (H : Type) (enc : TypeId × Value → H) :
    ReturnsInHanded {} Try.checked os 6 .any (Rows.pickPlansSpec.pre6 enc Try.prog Try.f6 Rows.pickPlansRow.domain false) (Rows.pickPlansSpec.post enc Try.prog Try.f6 false true false false) := by
  refine law_lifted (C := Try.checked) (tb := 4) own started (by kernel_rfl) Try.func6 laidOut (by kernel_rfl) rfl rfl Try.underlying4 ?_
    (ChangeSpec.witness6 (enc := enc) (C := Try.checked) false ⟨#[], #[.agg #[.int .i64 0, .int .i64 0, .int .i64 0, .int .i64 0], .slice none 0 0], []⟩ 8 (by kernel_rfl) (by kernel_rfl) (by kernel_rfl) (by kernel_rfl)) ?_
  · intro ds hd
    match ds, hd with
    | [d1, d2], _ => rfl
  · intro W args ha0
    have ha : Args enc Try.prog W Try.f6.params.toList args.toList := ha0
    rw [Try.params6] at ha
    obtain ⟨v0, v1, rfl, h0, h1⟩ := args2 ha
    obtain ⟨cs, rfl, hr⟩ := arg_agg Try.underlying50 h0
    obtain ⟨a0, a1, a2, a3, rfl, r0, r1, r2, r3⟩ := rd_struct4 Try.underlying50 (by kernel_rfl) (by kernel_rfl) hr
    obtain ⟨a, rfl, _, _⟩ := rd_i64 Try.underlying3 r0
    obtain ⟨b, rfl, _, _⟩ := rd_i64 Try.underlying3 r1
    obtain ⟨c, rfl, _, _⟩ := rd_i64 Try.underlying3 r2
    obtain ⟨d, rfl, _, _⟩ := rd_i64 Try.underlying3 r3
    obtain ⟨ao, ac, l, rfl, hl, hn⟩ := Pick.arg_needs h1
    exact Pick.pickPlans_any a b c d ao ac l W hl hn

theorem holds : Rows.PickPlansSaid :=
  OpenClaim.holds_of_wide 6 Try.f6 rfl rfl rfl rfl rfl rfl rfl ⟨rfl, rfl, rfl, rfl, rfl⟩ rfl rfl rfl rfl rfl (by kernel_rfl) Try.func6 (by kernel_rfl)
    (of_decide_eq_true (by kernel_rfl)) (by unfold Func.isWrapper; first | (rw [if_pos (by decide +kernel)]; kernel_rfl) | (rw [if_neg (by decide +kernel)]; exact ⟨rfl, rfl⟩))
    (fun os started H enc _ => lifted os started H enc)
#print axioms holds
end Go.Proofs.Ytehcndjpckolmaa.pickPlansDone
